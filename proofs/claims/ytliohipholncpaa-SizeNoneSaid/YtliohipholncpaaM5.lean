/- Part 5 of what the row stands on. -/
import Derived.Test.YtliohipholncpaaM4
set_option linter.unusedVariables false
set_option linter.unusedSimpArgs false
namespace Go.Dn
open Go
theorem Z2A : reachBytes = 140737488351232 := rfl
def ZM (t : Int) : Prop := -1099511627776 ≤ t ∧ t ≤ 1099511627776
instance (t : Int) : Decidable (ZM t) := by unfold ZM; infer_instance
theorem Z5e (t : Int) : Za t = decide (ZM t) := by
 rw [Bool.eq_iff_iff, decide_eq_true_iff]; simp [Za, ZM]
theorem Z6S (t : Int) : Zo t = decide (ZM t) := by
 rw [Bool.eq_iff_iff, decide_eq_true_iff]; simp [Zo, ZM]
theorem Z33 {t : Int} (h : ZM t) : In64 t := by unfold ZM at h; unfold In64; omega
structure RightL (l : List Span) : Prop where
 ok : ∀ (k : Nat) (s : Span), l[k]? = some s → ZM s.From ∧ ZM s.To ∧ s.From ≤ s.To
 gap : ∀ (k : Nat) (s t : Span), l[k]? = some s → l[k + 1]? = some t → s.To + 2 ≤ t.From
abbrev Len (l : List Span) : Prop := l.length * 16 ≤ reachBytes
abbrev Sp64 (l : List Span) : Prop := ∀ s ∈ l, In64 s.From ∧ In64 s.To
theorem Span.ok64 {s : Span} (h : s.ok) : In64 s.From ∧ In64 s.To := h
theorem okSpans {l : List Span} (h : okL 16 Span.ok l) : Len l ∧ Sp64 l := ⟨h.1, fun s hs => Span.ok64 (h.2 s hs)⟩
theorem RightL.sp64 {l : List Span} (h : RightL l) : Sp64 l := fun s hs => by
 obtain ⟨k, hk⟩ := List.getElem?_of_mem hs
 have := h.ok k s hk
 exact ⟨Z33 this.1, Z33 this.2.1⟩
def Z4H (l : List Span) (k : Nat) (s : Span) : Prop := ZM s.From ∧ ZM s.To ∧ s.From ≤ s.To ∧ ∀ p, k ≠ 0 → l[k - 1]? = some p → p.To + 2 ≤ s.From
theorem Z61 {l : List Span} : RightL l ↔ ∀ k s, l[k]? = some s → Z4H l k s := by
 constructor
 ·intro h k s hk;obtain ⟨h1, h2, h3⟩ := h.ok k s hk
  refine ⟨h1, h2, h3, fun p h0 hp => ?_⟩
  have : k - 1 + 1 = k := by omega
  exact h.gap (k - 1) p s hp (by rw [this]; exact hk)
 ·intro h;refine ⟨fun k s hk => ⟨(h k s hk).1, (h k s hk).2.1, (h k s hk).2.2.1⟩, fun k s t hs ht => (h (k + 1) t ht).2.2.2 s (by omega) (by simpa using hs)⟩
theorem Z7A {l : List Span} (hl : Len l) (h64 : Sp64 l) : ∃ b, Z0C l = some b ∧ (b = true ↔ RightL l) := by
 have hlen : l.length ≤ maxLen := by rw [Z95]; have := Z2A; unfold Len at hl; omega
 have step : ∀ (k : Nat) (s : Span), l[k]? = some s → (∀ j y, j < k → l[j]? = some y → Z4H l j y) → ∃ b, Z0C.s0 l (k : Int) = (if b = true then some (.inl ((k : Int) + 1)) else some (.inr (.ret false))) ∧ (b = true ↔ Z4H l k s) := by
  intro k s hk hprev;have hlt := (List.getElem?_eq_some_iff.1 hk).1
  have hat : at? l (k : Int) = some s := by rw [at?_nat hlt]; rw [List.getElem?_eq_getElem hlt] at hk; exact hk
  unfold Z0C.s0;rw [Zg (show (k : Int) < l.length by omega), cond_true, hat]
  simp only [Option.bind_some, Z5e];have hk1 : w64 ((k : Int) + 1) = k + 1 := ZS (by rw [Z95] at hlen; omega)
  by_cases h1 : ZM s.From ∧ ZM s.To ∧ s.From ≤ s.To
  ·have : (!decide (ZM s.From) || !decide (ZM s.To) || decide (s.From > s.To)) = false := by
    rw [Zg h1.1, Zg h1.2.1, Zs (by omega)]; rfl
   rw [this, cond_false]
   by_cases h0 : k = 0
   ·subst h0;refine ⟨true, by simp [w64]; rw [Z4w]; rfl, by simp [Z4H, h1]⟩
   ·have hk0 : (k : Int) > 0 := by omega
    have hpl : k - 1 < l.length := by omega
    have hp : at? l (w64 ((k : Int) - 1)) = some l[k - 1] := by
     rw [ZS (by rw [Z95] at hlen; omega), show ((k : Int) - 1) = ((k - 1 : Nat) : Int) by omega, at?_nat hpl]
    have hpg := hprev (k - 1) _ (by omega) (List.getElem?_eq_getElem hpl)
    have hpt : w64 (l[k - 1].To + 2) = l[k - 1].To + 2 := by
     have := hpg.2.1; unfold ZM at this; exact ZS (by omega)
    rw [Zg hk0, cond_true, hp];simp only [Option.bind_some, hpt];refine ⟨!decide (s.From < l[k - 1].To + 2), ?_, ?_⟩
    ·cases hd : decide (s.From < l[k - 1].To + 2) <;> simp [hk1]
    ·simp only [Bool.not_eq_true', decide_eq_false_iff_not, Z4H]
     constructor
     ·intro h; refine ⟨h1.1, h1.2.1, h1.2.2, fun p _ hp' => ?_⟩
      rw [List.getElem?_eq_getElem hpl] at hp'; cases hp'; omega
     ·intro h; have := h.2.2.2 _ h0 (List.getElem?_eq_getElem hpl); omega
  ·refine ⟨false, ?_, by simp only [Bool.false_eq_true, Z4H, false_iff]; intro h; exact h1 ⟨h.1, h.2.1, h.2.2.1⟩⟩
   have : (!decide (ZM s.From) || !decide (ZM s.To) || decide (s.From > s.To)) = true := by
    by_cases a1 : ZM s.From
    ·by_cases a2 : ZM s.To
     ·have a3 : s.From > s.To := by
       apply Classical.byContradiction;intro h;exact h1 ⟨a1, a2, by omega⟩
      rw [Zg a3]; simp
     ·rw [Zs a2]; simp
    ·rw [Zs a1]; simp
   rw [this]; rfl
 unfold Z0C
 rcases Z49 (l := l) (step := Z0C.s0 l) (Z4H l) (no := .ret false) (yes := .go ()) (fun k x hk hp => by
   obtain ⟨b, h1, h2⟩ := step k x hk hp
   cases b
   ·exact .inr ⟨h1, fun h => by have := h2.2 h; cases this⟩
   ·exact .inl ⟨h1, h2.1 rfl⟩) (by
   unfold Z0C.s0; rw [Zs (by omega)]; rfl) with ⟨h1, h2⟩ | ⟨h1, h2⟩
 ·rw [h1]; exact ⟨true, rfl, by simp [Z61.2 h2]⟩
 ·rw [h1]; exact ⟨false, rfl, by simp only [Bool.false_eq_true, false_iff]; exact fun h => h2 (Z61.1 h)⟩
def Zk (by_ : Int) (s : Span) : Span := ⟨s.From + by_, s.To + by_⟩
theorem Z7k {l : List Span} {b : Int} (hl : Len l) (h64 : Sp64 l) (hb : In64 b) :
  ((∀ s ∈ l, ZM (s.From + b) ∧ ZM (s.To + b)) ∧ Z0H l b = some (l.map (Zk b), 0)) ∨ ((¬ ∀ s ∈ l, ZM (s.From + b) ∧ ZM (s.To + b)) ∧ Z0H l b = some ([], 20)) := by
 have hlen : (l.length : Int) < 9223372036854775807 := by have := Z2A; unfold Len at hl; omega
 have step : ∀ (k : Nat) (s : Span) (acc : List Span), l[k]? = some s → acc.length = k → Z0H.s0 l b ((k : Int), acc) = if ZM (s.From + b) ∧ ZM (s.To + b) then some (.inl ((k : Int) + 1, acc ++ [Zk b s])) else some (.inr (.ret ([], 20))) := by
  intro k s acc hk hacc;have hlt := (List.getElem?_eq_some_iff.1 hk).1
  have hat : at? l (k : Int) = some s := by rw [at?_nat hlt]; rw [List.getElem?_eq_getElem hlt] at hk; exact hk
  obtain ⟨f64, t64⟩ := h64 s (List.mem_of_getElem? hk)
  unfold Z0H.s0;rw [Zg (show (k : Int) < l.length by omega), cond_true, hat]
  simp only [Option.bind_some];rw [Z5R f64 hb, Z5R t64 hb, Z5e, Z5e];have hk1 : w64 ((k : Int) + 1) = k + 1 := ZS (by omega)
  have happ : ∀ x : Span, app? 16 acc [x] = some (acc ++ [x]) := fun x => app?_ok (by
   have := Z2A; have := Z8s; unfold Len at hl; simp; omega)
  rcases Z8H (s.From + b) with ⟨q1, q2⟩ | ⟨q1, q2⟩ <;> rcases Z8H (s.To + b) with ⟨q3, q4⟩ | ⟨q3, q4⟩ <;> rw [q2, q4]
  ·by_cases h : ZM (s.From + b) ∧ ZM (s.To + b)
   ·rw [if_pos h, Zg h.1, Zg h.2];simp [happ, hk1, Zk]
   ·rw [if_neg h];have : (!decide (ZM (s.From + b)) || !decide (ZM (s.To + b))) = true := by
     by_cases h1 : ZM (s.From + b)
     ·rw [Zs (fun h2 => h ⟨h1, h2⟩)]; simp
     ·rw [Zs h1]; simp
    simp only [bne_self_eq_false, Bool.false_or, Bool.or_assoc] at this ⊢;rw [this]; rfl
  ·rw [if_neg (fun h => q3 (Z33 h.2))]; rfl
  ·rw [if_neg (fun h => q1 (Z33 h.1))]; rfl
  ·rw [if_neg (fun h => q1 (Z33 h.1))]; rfl
 have hend : ∀ acc, Z0H.s0 l b ((l.length : Int), acc) = some (.inr (.go acc)) := fun acc => by unfold Z0H.s0; rw [Zs (by omega)]; rfl
 unfold Z0H
 by_cases hall : ∀ s ∈ l, ZM (s.From + b) ∧ ZM (s.To + b)
 ·refine .inl ⟨hall, ?_⟩;have : ZF (Z0H.s0 l b) (0, []) = some (.go (l.map (Zk b))) := by
   refine Z2B (I := fun (s : Int × List Span) r => r = .go (l.map (Zk b)) ∧ ∃ k : Nat, k ≤ l.length ∧ s = ((k : Int), (l.take k).map (Zk b))) (fun s => l.length - s.1.toNat) ?_ ⟨rfl, 0, Nat.zero_le _, by simp⟩
   rintro s r ⟨rfl, k, hk, rfl⟩
   by_cases hlt : k < l.length
   ·refine .inl ⟨_, by rw [step k l[k] _ (List.getElem?_eq_getElem hlt) (by simp; omega), if_pos (hall _ (List.getElem_mem hlt))], ⟨rfl, k + 1, hlt, ?_⟩, by simp; omega⟩
    rw [List.take_succ_eq_append_getElem hlt, List.map_append]; push_cast; rfl
   ·have : k = l.length := by omega
    subst this;rw [List.take_length];exact .inr (hend _)
  rw [this]; rfl
 ·refine .inr ⟨hall, ?_⟩;obtain ⟨k0, s0, hk0, hb0, hg⟩ := Z9O (l := l) (good := fun _ s => ZM (s.From + b) ∧ ZM (s.To + b)) (fun h => hall fun s hs => by
   obtain ⟨k, hk⟩ := List.getElem?_of_mem hs; exact h k s hk)
  have hlt0 := (List.getElem?_eq_some_iff.1 hk0).1
  have : ZF (Z0H.s0 l b) (0, []) = some (.ret ([], 20)) := by
   refine Z2B (I := fun (s : Int × List Span) r => r = .ret ([], 20) ∧ ∃ k : Nat, k ≤ k0 ∧ s.1 = (k : Int) ∧ s.2.length = k) (fun s => l.length - s.1.toNat) ?_ ⟨rfl, 0, Nat.zero_le _, rfl, rfl⟩
   rintro ⟨i, acc⟩ r ⟨rfl, k, hk, h1, h2⟩;simp only at h1 h2;subst h1
   by_cases hlt : k < k0
   ·have hkl : k < l.length := by omega
    exact .inl ⟨_, by rw [step k l[k] _ (List.getElem?_eq_getElem hkl) h2, if_pos (hg k _ hlt (List.getElem?_eq_getElem hkl))], ⟨rfl, k + 1, hlt, by push_cast; rfl, by simp; omega⟩, by simp; omega⟩
   ·have : k = k0 := by omega
    subst this;exact .inr (by rw [step k s0 _ hk0 h2, if_neg hb0])
  rw [this]; rfl
theorem RightL.shift {l : List Span} {b : Int} (h : RightL l) (ht : ∀ s ∈ l, ZM (s.From + b) ∧ ZM (s.To + b)) : RightL (l.map (Zk b)) := by
 constructor
 ·intro k s hk;rw [List.getElem?_map, Option.map_eq_some_iff] at hk;obtain ⟨s, hk, rfl⟩ := hk
  have h1 := h.ok k s hk
  have h2 := ht s (List.mem_of_getElem? hk)
  exact ⟨h2.1, h2.2, by simp only [Zk]; omega⟩
 ·intro k s t hk hk1;rw [List.getElem?_map, Option.map_eq_some_iff] at hk hk1;obtain ⟨s, hk, rfl⟩ := hk
  obtain ⟨t, hk1, rfl⟩ := hk1
  have := h.gap k s t hk hk1
  simp only [Zk]; omega
def Z3M (a b : List Span) : Prop := ∀ x, a.getLast? = some x → ∀ y, b.head? = some y → x.To < y.From
theorem Z4v {a b : List Span} (ha : Len a) : ∃ r, Z0f a b = some r ∧ (r = true ↔ Z3M a b) := by
 unfold Z0f
 cases a with
 | nil => exact ⟨true, by simp, by simp [Z3M]⟩
 | cons x a =>
  cases b with
  | nil => exact ⟨true, by simp, by simp [Z3M]⟩
  | cons y b =>
   have hl : ((x :: a).length : Int) < 9223372036854775807 := by have := Z2A; unfold Len at ha; omega
   have e1 : (((x :: a).length : Int) == 0 || ((y :: b).length : Int) == 0) = false := by simp; omega
   have hlt : (x :: a).length - 1 < (x :: a).length := by simp
   have e2 : at? (x :: a) (w64 (((x :: a).length : Int) - 1)) = some (x :: a)[(x :: a).length - 1] := by
    rw [ZS (by simp at hl ⊢; omega), show (((x :: a).length : Int) - 1) = (((x :: a).length - 1 : Nat) : Int) by simp, at?_nat hlt]
   have e3 : at? (y :: b) 0 = some y := rfl
   rw [e1, cond_false, e2, e3];refine ⟨decide ((x :: a)[(x :: a).length - 1].To < y.From), rfl, ?_⟩;have hlast : (x :: a).getLast? = some (x :: a)[(x :: a).length - 1] := by rw [List.getLast?_eq_getElem?, List.getElem?_eq_getElem hlt]
   simp only [decide_eq_true_eq, Z3M, hlast, List.head?_cons, Option.some.injEq];exact ⟨fun h x' hx y' hy => by rw [← hx, ← hy]; exact h, fun h => h _ rfl _ rfl⟩
theorem span_beq (x y : Span) : ((x.From == y.From) && ((x.To == y.To) && true)) = decide (x = y) := by
 obtain ⟨x1, x2⟩ := x
 obtain ⟨y1, y2⟩ := y
 by_cases h1 : x1 = y1 <;> by_cases h2 : x2 = y2 <;> simp [h1, h2]
theorem spans_Same_eq {a b : List Span} (ha : Len a) : ∃ r, Z14 a b = some r ∧ (r = true ↔ a = b) := by
 have hl : (a.length : Int) < 9223372036854775807 := by have := Z2A; unfold Len at ha; omega
 unfold Z14 ZX
 by_cases hlen : a.length = b.length
 ·have e1 : ((a.length : Int) != (b.length : Int)) = false := bne_f (by omega)
  rw [e1, cond_false]
  rcases Z49 (l := a) (step := ZX.s0 a b) (fun k x => b[k]? = some x) (no := .ret false) (yes := .go ()) (fun k x hk hp => by
   have hlt := (List.getElem?_eq_some_iff.1 hk).1
   have hat : at? a (k : Int) = some x := by rw [at?_nat hlt]; rw [List.getElem?_eq_getElem hlt] at hk; exact hk
   have hbt : at? b (k : Int) = some (b[k]'(by omega)) := at?_nat (by omega)
   unfold ZX.s0;rw [Zg (show (k : Int) < a.length by omega), cond_true, hat, hbt, ZS (show _ by omega)]
   simp only [Option.bind_some, span_beq];rw [List.getElem?_eq_getElem (show k < b.length by omega)]
   by_cases h : x = b[k]'(by omega)
   ·rw [Zg h]; exact .inl ⟨rfl, congrArg some h.symm⟩
   ·rw [Zs h]; exact .inr ⟨rfl, fun e => h (Option.some.inj e).symm⟩) (by
   unfold ZX.s0; rw [Zs (by omega)]; rfl) with ⟨h1, h2⟩ | ⟨h1, h2⟩
  ·rw [h1];refine ⟨true, rfl, ⟨fun _ => List.ext_getElem? fun k => ?_, fun _ => rfl⟩⟩
   by_cases hk : k < a.length
   ·rw [List.getElem?_eq_getElem hk]; exact (h2 k _ (List.getElem?_eq_getElem hk)).symm
   ·rw [List.getElem?_eq_none (by omega), List.getElem?_eq_none (by omega)]
  ·rw [h1];refine ⟨false, rfl, by simp only [Bool.false_eq_true, false_iff]; rintro rfl; exact h2 fun k x hk => hk⟩
 ·have e1 : ((a.length : Int) != (b.length : Int)) = true := bne_t (by omega)
  rw [e1, cond_true];exact ⟨false, rfl, by simp only [Bool.false_eq_true, false_iff]; rintro rfl; exact hlen rfl⟩
end Go.Dn

namespace Go.Dn
open Go
theorem ZBK (x y : Int) : Zz x y = if x < y then -1 else if y < x then 1 else 0 := by
 unfold Zz Z03
 simp only [bne_self_eq_false, cond_false, pickB, decide_eq_true_eq, gt_iff_lt, Bool.false_eq_true, if_false]
def Inc (l : List Granule) : Prop := ∀ (j k : Nat) (a b : Granule), j < k → l[j]? = some a → l[k]? = some b → a.Index < b.Index
theorem Z8G {l : List Granule} {t : Int} (hl : l.length * 32 ≤ reachBytes) (hs : Inc l) : ∃ p : Nat, p ≤ l.length ∧ (∀ (k : Nat) (g : Granule), l[k]? = some g → (k < p ↔ g.Index < t)) ∧
  ZB l t (fun z0 z1 => some (Z3I z0 z1)) = some ((p : Int), decide (∃ g, l[p]? = some g ∧ g.Index = t)) := by
 have hlen : (l.length : Int) < 4398046511104 * 4 := by have := Z2A; omega
 have hcmp : ∀ g i, Z3I g i = if g.Index < i then -1 else if i < g.Index then 1 else 0 := fun g i => ZBK _ _
 obtain ⟨r, h1, p, rfl, hp, hlow, hhigh⟩ := Z1E (step := ZB.s0 l t (fun z0 z1 => some (Z3I z0 z1)))
  (I := fun s => ∃ i j : Nat, s = ((i : Int), (j : Int)) ∧ i ≤ j ∧ j ≤ l.length ∧ (∀ k g, l[k]? = some g → k < i → g.Index < t) ∧ (∀ k g, l[k]? = some g → j ≤ k → t ≤ g.Index))
  (fun s => (s.2 - s.1).toNat)
  (fun r => ∃ p : Nat, r = (p : Int) ∧ p ≤ l.length ∧ (∀ k g, l[k]? = some g → k < p → g.Index < t) ∧ (∀ k g, l[k]? = some g → p ≤ k → t ≤ g.Index)) (by
  rintro s ⟨i, j, rfl, hij, hj, hlow, hhigh⟩;unfold ZB.s0
  by_cases hlt : i < j
  ·have hm : w64 ((IntKind.u64.wrap (w64 ((i : Int) + j))).fdiv (2 ^ 1)) = ((i + j) / 2 : Nat) := by
    rw [ZS (x := (i : Int) + j) (by omega), Z5j, Int.fdiv_eq_ediv_of_nonneg _ (by decide), ZS (by omega)]
    omega
   have hml : (i + j) / 2 < l.length := by omega
   simp only [hm];rw [Zg (show (i : Int) < j by omega), cond_true, at?_nat hml]
   simp only [Option.bind_some, hcmp];refine .inl ?_;have hget := List.getElem?_eq_getElem hml
   by_cases hc : l[(i + j) / 2].Index < t
   ·rw [if_pos hc];refine ⟨((((i + j) / 2 + 1 : Nat) : Int), (j : Int)), ?_, ⟨(i + j) / 2 + 1, j, rfl, by omega, hj, fun k g hk hki => ?_, hhigh⟩, by simp; omega⟩
    ·rw [ZS (by omega)]; simp
    ·rcases Nat.lt_or_ge k ((i + j) / 2) with h | h
     ·have := hs k _ g _ h hk hget; omega
     ·have : k = (i + j) / 2 := by omega
      subst this; rw [hget] at hk; cases hk; exact hc
   ·rw [if_neg hc];refine ⟨((i : Int), (((i + j) / 2 : Nat) : Int)), ?_, ⟨i, (i + j) / 2, rfl, by omega, by omega, hlow, fun k g hk hki => ?_⟩, by simp; omega⟩
    ·split <;> simp
    ·rcases Nat.lt_or_ge ((i + j) / 2) k with h | h
     ·have := hs _ k _ g h hget hk; omega
     ·have : k = (i + j) / 2 := by omega
      subst this; rw [hget] at hk; cases hk; omega
  ·refine .inr ⟨(i : Int), by rw [Zs (show ¬ (i : Int) < j by omega)]; rfl, i, rfl, by omega, hlow, fun k g hk hki => hhigh k g hk (by omega)⟩) (0, (l.length : Int)) ⟨0, l.length, rfl, Nat.zero_le _, Nat.le_refl _, fun k g _ h => by omega, fun k g hk h => by
    rw [List.getElem?_eq_none h] at hk; cases hk⟩
 refine ⟨p, hp, fun k g hk => ⟨fun h => hlow k g hk h, fun h => ?_⟩, ?_⟩
 ·rcases Nat.lt_or_ge k p with h2 | h2
  ·exact h2
  ·have := hhigh k g hk h2; omega
 ·unfold ZB;rw [h1];simp only [Option.bind_some]
  by_cases hlt : p < l.length
  ·rw [Zg (show (p : Int) < l.length by omega), cond_true, at?_nat hlt]
   simp only [Option.bind_some, hcmp, Option.some.injEq, Prod.mk.injEq, true_and];have := hhigh p _ (List.getElem?_eq_getElem hlt) (Nat.le_refl _)
   rw [List.getElem?_eq_getElem hlt]
   by_cases he : l[p].Index = t
   ·rw [if_neg (by omega), if_neg (by omega)]; simp [he]
   ·rw [if_neg (by omega), if_pos (by omega)]; simp [he]
  ·rw [Zs (show ¬ (p : Int) < l.length by omega), cond_false]
   simp only [Option.bind_some, Option.some.injEq, Prod.mk.injEq, true_and];rw [List.getElem?_eq_none (by omega)]
   simp
structure Shape (f : Form) : Prop where
 count : f.Count = f.Core.length
 zero : f.Count = 0 ↔ f.Period = 0
 per : 0 ≤ f.Period ∧ f.Period ≤ 1099511627776
 core : ∀ l ∈ f.Core, RightL l
 odd : ∀ g ∈ f.Odd, RightL g.Ticks ∧ ZM g.Index
 inc : Inc f.Odd
structure Lim (f : Form) : Prop where
 core : f.Core.length * 24 ≤ reachBytes
 sets : ∀ l ∈ f.Core, Len l ∧ Sp64 l
 odd : f.Odd.length * 32 ≤ reachBytes
 ticks : ∀ g ∈ f.Odd, In64 g.Index ∧ Len g.Ticks ∧ Sp64 g.Ticks
 count : In64 f.Count
 period : In64 f.Period
theorem Form.lim {f : Form} (h : f.ok) : Lim f := by
 obtain ⟨h1, h2, h3, h4⟩ := h
 exact ⟨h3.1, fun l hl => okSpans (h3.2 l hl), h4.1, fun g hg => ⟨(h4.2 g hg).1, okSpans (h4.2 g hg).2⟩, h2, h1⟩
theorem Z5O {f : Form} (hl : Lim f) (hs : Inc f.Odd) (i : Int) : ∃ p : Nat, p ≤ f.Odd.length ∧ (∀ (k : Nat) (g : Granule), f.Odd[k]? = some g → (k < p ↔ g.Index < i)) ∧ Z4L f i = some ((p : Int), decide (∃ g, f.Odd[p]? = some g ∧ g.Index = i)) := by
 obtain ⟨p, h1, h2, h3⟩ := Z8G (t := i) hl.odd hs
 exact ⟨p, h1, h2, by unfold Z4L; rw [h3]; rfl⟩
def Z06 (f : Form) (i : Int) : Prop := ∃ g ∈ f.Odd, g.Index = i
def Z0r (f : Form) (i : Int) : List Span := f.Core.getD (i % f.Count).toNat []
def Z4J (f : Form) (i : Int) : Int := i / f.Count * f.Period
open Classical in
noncomputable def ZQ (f : Form) (i : Int) : List Span := if h : Z06 f i then h.choose.Ticks else if f.Count = 0 then [] else (Z0r f i).map (Zk (Z4J f i))
theorem Inc.uniq {l : List Granule} (h : Inc l) {a b : Granule} (ha : a ∈ l) (hb : b ∈ l) (he : a.Index = b.Index) : a = b := by
 obtain ⟨j, hj⟩ := List.getElem?_of_mem ha
 obtain ⟨k, hk⟩ := List.getElem?_of_mem hb
 rcases Nat.lt_trichotomy j k with hjk | rfl | hjk
 ·have := h j k a b hjk hj hk; omega
 ·rw [hj] at hk; cases hk; rfl
 ·have := h k j b a hjk hk hj; omega
theorem Z0x {f : Form} (hs : Inc f.Odd) {g : Granule} (hg : g ∈ f.Odd) : ZQ f g.Index = g.Ticks := by
 have h : Z06 f g.Index := ⟨g, hg, rfl⟩
 unfold ZQ
 rw [dif_pos h]
 rw [hs.uniq h.choose_spec.1 hg h.choose_spec.2]
theorem Z1g {f : Form} {i : Int} (h : ¬ Z06 f i) (h0 : f.Count = 0) : ZQ f i = [] := by unfold ZQ; rw [dif_neg h, if_pos h0]
theorem Z2Z {f : Form} {i : Int} (h : ¬ Z06 f i) (h0 : f.Count ≠ 0) : ZQ f i = (Z0r f i).map (Zk (Z4J f i)) := by unfold ZQ; rw [dif_neg h, if_neg h0]
theorem Z8r {f : Form} (hs : Shape f) (h0 : f.Count ≠ 0) : 0 < f.Count := by have := hs.count; omega
theorem Z1i {f : Form} (hs : Shape f) (h0 : f.Count ≠ 0) (i : Int) : at? f.Core (i % f.Count) = some (Z0r f i) ∧ Z0r f i ∈ f.Core := by
 have hp := Z8r hs h0
 have h1 := Int.emod_nonneg i h0
 have h2 := Int.emod_lt_of_pos i hp
 have h3 : (i % f.Count).toNat < f.Core.length := by have := hs.count; omega
 unfold Z0r
 rw [at?_lt h1 (by have := hs.count; omega), List.getD_eq_getElem?_getD, List.getElem?_eq_getElem h3]
 exact ⟨rfl, List.getElem_mem h3⟩
theorem Z7e {f : Form} (hl : Lim f) (hs : Shape f) {g : Granule} (hg : g ∈ f.Odd) : Z2S f g.Index = some (g.Ticks, 0, 0) := by
 obtain ⟨p, h1, h2, h3⟩ := Z5O hl hs.inc g.Index
 obtain ⟨k, hk⟩ := List.getElem?_of_mem hg
 have hkl := (List.getElem?_eq_some_iff.1 hk).1
 have hpk : p ≤ k := by
  rcases Nat.lt_or_ge k p with h | h
  ·have := (h2 k g hk).1 h; omega
  ·exact h
 have hpl : p < f.Odd.length := by omega
 have hpg := h2 p _ (List.getElem?_eq_getElem hpl)
 have : p = k := by
  rcases Nat.lt_or_ge p k with h | h
  ·have := hs.inc p k _ g h (List.getElem?_eq_getElem hpl) hk
   exact absurd (hpg.2 this) (Nat.lt_irrefl _)
  ·omega
 subst this
 unfold Z2S
 rw [h3]
 simp only [Option.bind_some]
 rw [Zg ⟨g, hk, rfl⟩, cond_true, at?_nat hpl]
 rw [List.getElem?_eq_getElem hpl] at hk
 cases hk; rfl
theorem Z75 {f : Form} (hl : Lim f) (hs : Shape f) {i : Int} (hi : In64 i) (ho : ¬ Z06 f i) : Z2S f i = if f.Count = 0 then some ([], 0, 0) else some (Z0r f i, (fitS (Z4J f i)).1, (fitS (Z4J f i)).2) := by
 obtain ⟨p, h1, h2, h3⟩ := Z5O hl hs.inc i
 unfold Z2S
 rw [h3]
 simp only [Option.bind_some]
 rw [Zs (by rintro ⟨g, hg, he⟩; exact ho ⟨g, List.mem_of_getElem? hg, he⟩), cond_false]
 by_cases h0 : f.Count = 0
 ·rw [beq_t h0, cond_true, if_pos h0]
 ·rw [beq_f h0, cond_false, if_neg h0, Z2O hi hl.count, Z40 (Z8r hs h0)];simp only [Option.bind_some];rw [(Z1i hs h0 i).1];simp only [Option.bind_some];have hq : In64 (i / f.Count) := by
   have hp := Z8r hs h0
   unfold In64 at hi ⊢
   constructor
   ·have : -9223372036854775808 ≤ i / f.Count := by
     rw [Int.le_ediv_iff_mul_le hp];have : (-9223372036854775808) * f.Count ≤ -9223372036854775808 := by
      have : (-9223372036854775808) * f.Count ≤ (-9223372036854775808) * 1 := Int.mul_le_mul_of_nonpos_left (by omega) (by omega)
      omega
     omega
    exact this
   ·have : i / f.Count ≤ 9223372036854775807 := by
     rcases Int.lt_or_le i 0 with h | h
     ·have : i / f.Count < 0 := Int.ediv_neg_of_neg_of_pos h hp
      omega
     ·have := Int.ediv_le_self f.Count h
      omega
    exact this
  rw [ZA0 hq hl.period]
  rfl
def fits (f : Form) (i : Int) : Prop := ∀ s ∈ ZQ f i, ZM s.From ∧ ZM s.To
theorem Z8K (l : List Span) : l.map (Zk 0) = l := by
 have : Zk 0 = id := by funext s; simp [Zk]
 rw [this, List.map_id]
theorem Z27 {f : Form} {i : Int} (ho : ¬ Z06 f i) (h0 : f.Count ≠ 0) : ZQ f i = [] ↔ Z0r f i = [] := by rw [Z2Z ho h0, List.map_eq_nil_iff]
open Classical in
theorem Z6x {f : Form} (hl : Lim f) (hs : Shape f) {i : Int} (hi : In64 i) : Z0Y f i = some (if ZM i ∧ fits f i then (ZQ f i, 0) else ([], 20)) := by
 unfold Z0Y
 rw [Z6S]
 by_cases ht : ZM i
 ·rw [Zg ht, Bool.not_true, cond_false]
  by_cases ho : Z06 f i
  ·obtain ⟨g, hg, rfl⟩ := ho
   have hset := Z0x hs.inc hg
   have hr := (hs.odd g hg).1
   have hf : fits f g.Index := by
    intro s hsm;rw [hset] at hsm;obtain ⟨k, hk⟩ := List.getElem?_of_mem hsm
    exact ⟨(hr.ok k s hk).1, (hr.ok k s hk).2.1⟩
   rw [Z7e hl hs hg, if_pos ⟨ht, hf⟩, hset];simp only [Option.bind_some]
   by_cases hn : g.Ticks = []
   ·rw [hn]; rfl
   ·have : ((g.Ticks.length : Int) == 0) = false := beq_f (by have := List.length_pos_iff.2 hn; omega)
    rw [this, cond_false];simp only [bne_self_eq_false, cond_false]
    rcases Z7k (b := 0) (hl.ticks g hg).2.1 hr.sp64 ⟨by decide, by decide⟩ with ⟨_, h2⟩ | ⟨h1, _⟩
    ·rw [h2, Z8K]; rfl
    ·refine absurd (fun s hsm => ?_) h1
     rw [← hset] at hsm
     simpa using hf s hsm
  ·rw [Z75 hl hs hi ho]
   by_cases h0 : f.Count = 0
   ·rw [if_pos h0, if_pos ⟨ht, by intro s hsm; rw [Z1g ho h0] at hsm; cases hsm⟩, Z1g ho h0]; rfl
   ·rw [if_neg h0];simp only [Option.bind_some]
    by_cases hn : Z0r f i = []
    ·rw [if_pos ⟨ht, by intro s hsm; rw [(Z27 ho h0).2 hn] at hsm; cases hsm⟩, (Z27 ho h0).2 hn, hn]; rfl
    ·have : (((Z0r f i).length : Int) == 0) = false := beq_f (by have := List.length_pos_iff.2 hn; omega)
     rw [this, cond_false];have hmem := (Z1i hs h0 i).2
     have hr := hs.core _ hmem
     have hfe : fits f i ↔ ∀ s ∈ Z0r f i, ZM (s.From + Z4J f i) ∧ ZM (s.To + Z4J f i) := by
      unfold fits; rw [Z2Z ho h0]
      constructor
      ·intro h s hsm; exact h (Zk (Z4J f i) s) (List.mem_map.2 ⟨s, hsm, rfl⟩)
      ·intro h s hsm;obtain ⟨s, hsm', rfl⟩ := List.mem_map.1 hsm
       exact h s hsm'
     rcases Z8H (Z4J f i) with ⟨q1, q2⟩ | ⟨q1, q2⟩ <;> rw [q2]
     ·simp only [bne_self_eq_false, cond_false]
      rcases Z7k (b := Z4J f i) (hl.sets _ hmem).1 hr.sp64 q1 with ⟨h1, h2⟩ | ⟨h1, h2⟩
      ·rw [h2, if_pos ⟨ht, hfe.2 h1⟩, Z2Z ho h0]; rfl
      ·rw [h2, if_neg (fun h => h1 (hfe.1 h.2))]; rfl
     ·rw [if_neg]
      ·rfl
      ·rintro ⟨_, h⟩;have h := hfe.1 h
       obtain ⟨s, hsm⟩ := List.exists_mem_of_ne_nil _ hn
       have h1 := (h s hsm).1
       obtain ⟨k, hk⟩ := List.getElem?_of_mem hsm
       have h2 := (hr.ok k s hk).1
       unfold ZM at h1 h2;exact q1 (by unfold In64; omega)
 ·rw [Zs ht, if_neg (fun h => ht h.1)]; rfl
open Classical in
theorem Z8N {f : Form} (hl : Lim f) (hs : Shape f) {i : Int} (hi : In64 i) : Z3w f i = some (decide (ZQ f i ≠ [])) := by
 unfold Z3w
 by_cases ho : Z06 f i
 ·obtain ⟨g, hg, rfl⟩ := ho
  rw [Z7e hl hs hg, Z0x hs.inc hg];simp only [Option.bind_some];cases g.Ticks <;> simp
 ·rw [Z75 hl hs hi ho]
  by_cases h0 : f.Count = 0
  ·rw [if_pos h0, Z1g ho h0]; rfl
  ·rw [if_neg h0];simp only [Option.bind_some, Ne, Z27 ho h0];cases Z0r f i <;> simp
end Go.Dn

namespace Go.Dn
open Go
theorem Z30 {α : Type} {l : List α} {b : Nat} (h : l.length * (b + 1) ≤ reachBytes) : (l.length : Int) < 4611686018427387904 := by
 have := Z2A
 have : l.length ≤ l.length * (b + 1) := Nat.le_mul_of_pos_right _ (by omega)
 omega
theorem Z9A {α : Type} {l : List α} {k : Nat} {x : α} (h : l[k]? = some x) : at? l (k : Int) = some x ∧ (k : Int) < l.length := by
 have hlt := (List.getElem?_eq_some_iff.1 h).1
 rw [List.getElem?_eq_getElem hlt] at h
 exact ⟨by rw [at?_nat hlt]; exact h, by omega⟩
theorem shape_core {f : Form} (hl : Lim f) : (ZF (Zj.s0 f) 0 = some (.go ()) ∧ ∀ l ∈ f.Core, RightL l) ∨ (ZF (Zj.s0 f) 0 = some (.ret false) ∧ ¬ ∀ l ∈ f.Core, RightL l) := by
 have hlen := Z30 (b := 23) hl.core
 rcases Z49 (l := f.Core) (step := Zj.s0 f) (fun _ x => RightL x) (no := .ret false) (yes := .go ()) (fun k x hk _ => by
   obtain ⟨h1, h2⟩ := Z9A hk
   obtain ⟨b, hb, hr⟩ := Z7A (hl.sets x (List.mem_of_getElem? hk)).1 (hl.sets x (List.mem_of_getElem? hk)).2
   unfold Zj.s0;rw [Zg h2, cond_true, h1];simp only [Option.bind_some, hb, ZS (show -9223372036854775808 ≤ (k : Int) + 1 ∧ (k : Int) + 1 ≤ 9223372036854775807 by omega)]
   cases b
   ·exact .inr ⟨rfl, fun h => by have := hr.2 h; cases this⟩
   ·exact .inl ⟨rfl, hr.1 rfl⟩) (by unfold Zj.s0; rw [Zs (by omega)]; rfl) with ⟨h1, h2⟩ | ⟨h1, h2⟩
 ·exact .inl ⟨h1, fun l hm => by obtain ⟨k, hk⟩ := List.getElem?_of_mem hm; exact h2 k l hk⟩
 ·exact .inr ⟨h1, fun h => h2 fun k x hk => h x (List.mem_of_getElem? hk)⟩
def goodOdd (f : Form) (k : Nat) (g : Granule) : Prop := RightL g.Ticks ∧ ZM g.Index ∧ ∀ p, k ≠ 0 → f.Odd[k - 1]? = some p → p.Index < g.Index
theorem shape_odd {f : Form} (hl : Lim f) : (ZF (Zj.s1 f) 0 = some (.go ()) ∧ ∀ k g, f.Odd[k]? = some g → goodOdd f k g) ∨ (ZF (Zj.s1 f) 0 = some (.ret false) ∧ ¬ ∀ k g, f.Odd[k]? = some g → goodOdd f k g) := by
 have hlen := Z30 (b := 31) hl.odd
 refine Z49 (l := f.Odd) (step := Zj.s1 f) (goodOdd f) (no := .ret false) (yes := .go ()) (fun k x hk _ => ?_) (by unfold Zj.s1; rw [Zs (by omega)]; rfl)
 obtain ⟨h1, h2⟩ := Z9A hk
 have hx := hl.ticks x (List.mem_of_getElem? hk)
 obtain ⟨b, hb, hr⟩ := Z7A hx.2.1 hx.2.2
 unfold Zj.s1
 rw [Zg h2, cond_true, h1]
 simp only [Option.bind_some, hb, Z6S, ZS (show -9223372036854775808 ≤ (k : Int) + 1 ∧ (k : Int) + 1 ≤ 9223372036854775807 by omega)]
 by_cases hbt : b = true ∧ ZM x.Index
 ·rw [hbt.1, Zg hbt.2];simp only [Bool.not_true, Bool.or_self, cond_false]
  by_cases h0 : k = 0
  ·subst h0;exact .inl ⟨by simp, hr.1 hbt.1, hbt.2, fun p h => absurd rfl h⟩
  ·have hpl : k - 1 < f.Odd.length := by omega
   rw [Zg (show (k : Int) > 0 by omega), cond_true, ZS (by omega), show (k : Int) - 1 = ((k - 1 : Nat) : Int) by omega, at?_nat hpl]
   simp only [Option.bind_some]
   by_cases hc : x.Index ≤ f.Odd[k - 1].Index
   ·rw [Zg hc];refine .inr ⟨rfl, fun h => ?_⟩
    have := h.2.2 _ h0 (List.getElem?_eq_getElem hpl); omega
   ·rw [Zs hc];refine .inl ⟨rfl, hr.1 hbt.1, hbt.2, fun p _ hp => ?_⟩
    rw [List.getElem?_eq_getElem hpl] at hp; cases hp; omega
 ·have : (!b || !decide (ZM x.Index)) = true := by
   cases b
   ·rfl
   ·rw [Zs (fun h => hbt ⟨rfl, h⟩)]; rfl
  rw [this, cond_true];exact .inr ⟨rfl, fun h => hbt ⟨hr.2 h.1, h.2.1⟩⟩
theorem inc_of {f : Form} (h : ∀ k g, f.Odd[k]? = some g → goodOdd f k g) : Inc f.Odd := by
 intro j k a b hjk ha hb
 induction k generalizing b with
 | zero => omega
 | succ k ih =>
  have hkl := (List.getElem?_eq_some_iff.1 hb).1
  have h1 := (h (k + 1) b hb).2.2 f.Odd[k] (by omega) (by simp [List.getElem?_eq_getElem (show k < f.Odd.length by omega)])
  rcases Nat.lt_or_ge j k with h2 | h2
  ·have := ih _ h2 (List.getElem?_eq_getElem (show k < f.Odd.length by omega)); omega
  ·have : j = k := by omega
   subst this;rw [List.getElem?_eq_getElem (show j < f.Odd.length by omega)] at ha; cases ha; exact h1
theorem gran_shape_eq {f : Form} (hl : Lim f) : ∃ b, Zj f = some b ∧ (b = true ↔ Shape f) := by
 unfold Zj
 by_cases h1 : f.Count = f.Core.length ∧ (f.Count = 0 ↔ f.Period = 0) ∧ 0 ≤ f.Period ∧ f.Period ≤ 1099511627776
 ·have e : (f.Count != (f.Core.length : Int) || (f.Count == 0) != (f.Period == 0) || decide (f.Period < 0) || decide (f.Period > 1099511627776)) = false := by
   rw [bne_f h1.1, Zs (show ¬ f.Period < 0 by omega), Zs (show ¬ f.Period > 1099511627776 by omega)]
   simp only [Bool.false_or, Bool.or_false, bne_eq_false_iff_eq, ibeq, decide_eq_decide];exact h1.2.1
  rw [e, cond_false]
  rcases shape_core hl with ⟨h2, h3⟩ | ⟨h2, h3⟩
  ·rw [h2];simp only [Option.bind_some, Jx.elim]
   rcases shape_odd hl with ⟨h4, h5⟩ | ⟨h4, h5⟩
   ·rw [h4];exact ⟨true, rfl, fun _ => ⟨h1.1, h1.2.1, h1.2.2, h3, fun g hg => by obtain ⟨k, hk⟩ := List.getElem?_of_mem hg; exact ⟨(h5 k g hk).1, (h5 k g hk).2.1⟩, inc_of h5⟩, fun _ => rfl⟩
   ·rw [h4];refine ⟨false, rfl, fun h => (by cases h), fun h => absurd (fun k g hk => ⟨(h.odd g (List.mem_of_getElem? hk)).1, (h.odd g (List.mem_of_getElem? hk)).2, fun p h0 hp => h.inc (k - 1) k p g (by omega) hp hk⟩) h5⟩
  ·rw [h2];exact ⟨false, rfl, fun h => (by cases h), fun h => absurd h.core h3⟩
 ·have e : (f.Count != (f.Core.length : Int) || (f.Count == 0) != (f.Period == 0) || decide (f.Period < 0) || decide (f.Period > 1099511627776)) = true := by
   apply Classical.byContradiction;intro hn;simp only [Bool.not_eq_true, Bool.or_eq_false_iff, bne_eq_false_iff_eq, decide_eq_false_iff_not, ibeq, decide_eq_decide] at hn;exact h1 ⟨hn.1.1.1, hn.1.1.2, by omega, by omega⟩
  rw [e, cond_true];exact ⟨false, rfl, fun h => (by cases h), fun h => absurd ⟨h.count, h.zero, h.per⟩ h1⟩
def fstT (l : List Span) : Int := (l.head?.map Span.From).getD 0
def lstT (l : List Span) : Int := (l.getLast?.map Span.To).getD 0
theorem ZBM {a b : List Span} (ha : a ≠ []) (hb : b ≠ []) : Z3M a b ↔ lstT a < fstT b := by
 unfold Z3M lstT fstT
 rw [List.getLast?_eq_some_getLast ha, List.head?_eq_some_head hb]
 simp
theorem RightL.tail {s : Span} {l : List Span} (h : RightL (s :: l)) : RightL l :=
 ⟨fun k x hk => h.ok (k + 1) x hk, fun k x y hx hy => h.gap (k + 1) x y hx hy⟩
theorem Z1y {l : List Span} (h : RightL l) (hn : l ≠ []) : fstT l ≤ lstT l := by
 induction l with
 | nil => exact absurd rfl hn
 | cons s l ih =>
  have h0 := h.ok 0 s rfl
  cases l with
  | nil => simp [fstT, lstT]; exact h0.2.2
  | cons t l =>
   have h1 := h.gap 0 s t rfl rfl
   have h2 := ih h.tail (by simp)
   have e1 : lstT (s :: t :: l) = lstT (t :: l) := by simp [lstT]
   have e2 : fstT (t :: l) = t.From := rfl
   have e3 : fstT (s :: t :: l) = s.From := rfl
   rw [e1, e3]; rw [e2] at h2; omega
theorem Z3T {l : List Span} (h : RightL l) (hn : l ≠ []) : ZM (lstT l) ∧ ZM (fstT l) := by
 have h1 : l.getLast? = some (l.getLast hn) := List.getLast?_eq_some_getLast hn
 have h2 : l.head? = some (l.head hn) := List.head?_eq_some_head hn
 obtain ⟨j, hj⟩ := List.getElem?_of_mem (List.getLast_mem hn)
 obtain ⟨k, hk⟩ := List.getElem?_of_mem (List.head_mem hn)
 unfold lstT fstT
 rw [h1, h2]
 exact ⟨(h.ok j _ hj).2.1, (h.ok k _ hk).1⟩
def full (f : Form) : List (List Span) := f.Core.filter (fun l => decide (l.length > 0))
def Turns (f : Form) : Prop := (∀ (k : Nat) (a b : List Span), (full f)[k]? = some a → (full f)[k + 1]? = some b → lstT a < fstT b) ∧ ∀ a b, (full f).getLast? = some a → (full f).head? = some b → lstT a < fstT b + f.Period
theorem full_loop {f : Form} (hl : Lim f) : ZF (Z0J.s0 f) (0, []) = some (full f) := by
 have hlen := Z30 (b := 23) hl.core
 refine Z2B (I := fun s r => r = full f ∧ ∃ k : Nat, k ≤ f.Core.length ∧ s = ((k : Int), (f.Core.take k).filter (fun l => decide (l.length > 0)))) (fun s => f.Core.length - s.1.toNat) ?_ ⟨rfl, 0, Nat.zero_le _, by simp⟩
 rintro s r ⟨rfl, k, hk, rfl⟩
 unfold Z0J.s0
 by_cases hlt : k < f.Core.length
 ·have htake : f.Core.take (k + 1) = f.Core.take k ++ [f.Core[k]] := List.take_succ_eq_append_getElem hlt
  simp only;rw [Zg (show (k : Int) < f.Core.length by omega), cond_true, at?_nat hlt, ZS (by omega)]
  simp only [Option.bind_some];refine .inl ?_;have hfl : ((f.Core.take k).filter (fun l => decide (l.length > 0))).length ≤ k := Nat.le_trans (List.length_filter_le _ _) (by rw [List.length_take]; exact Nat.min_le_left _ _)
  by_cases hc : f.Core[k].length > 0
  ·rw [Zg (show ((f.Core[k].length : Int) > 0) by omega), cond_true, app?_ok (by have h1 := hl.core; rw [Z2A] at h1; rw [Z8s]; simp only [List.length_singleton]; omega)]
   exact ⟨_, rfl, ⟨trivial, k + 1, hlt, by rw [htake, List.filter_append]; simp [hc]⟩, by simp; omega⟩
  ·rw [Zs (show ¬ ((f.Core[k].length : Int) > 0) by omega), cond_false]
   exact ⟨_, rfl, ⟨trivial, k + 1, hlt, by rw [htake, List.filter_append]; simp [hc]⟩, by simp; omega⟩
 ·have : k = f.Core.length := by omega
  subst this;simp only;rw [Zs (show ¬ ((f.Core.length : Int) < f.Core.length) by omega), cond_false, List.take_length]
  exact .inr rfl
theorem gran_turns_eq {f : Form} (hl : Lim f) (hs : Shape f) : ∃ b, Z0J f = some b ∧ (b = true ↔ Turns f) := by
 have hlen := Z30 (b := 23) hl.core
 have hfl : (full f).length ≤ f.Core.length := List.length_filter_le _ _
 have hmem : ∀ x ∈ full f, x ∈ f.Core ∧ x ≠ [] := fun x hx => by
  have := List.mem_filter.1 hx
  exact ⟨this.1, by rintro rfl; simp at this⟩
 unfold Z0J
 rw [full_loop hl]
 simp only [Option.bind_some]
 rcases Z49 (l := full f) (step := Z0J.s1 f (full f)) (fun k a => ∀ b, (full f)[(k + 1) % (full f).length]? = some b → lstT a < fstT b + (if k + 1 = (full f).length then f.Period else 0)) (no := .ret false) (yes := .go ()) (fun k a hk _ => by
   obtain ⟨h1, h2⟩ := Z9A hk
   have hkl : k < (full f).length := by omega
   have hmod : (k + 1) % (full f).length < (full f).length := Nat.mod_lt _ (by omega)
   have hnext : at? (full f) ((((k + 1) % (full f).length : Nat) : Int)) = some (full f)[(k + 1) % (full f).length] := at?_nat hmod
   obtain ⟨ha1, ha2⟩ := hmem a (List.mem_of_getElem? hk)
   obtain ⟨hb1, hb2⟩ := hmem _ (List.getElem_mem hmod)
   have hra := hs.core a ha1
   have hrb := hs.core _ hb1
   have hal : a.length - 1 < a.length := by have := List.length_pos_iff.2 ha2; omega
   have hlast : at? a (w64 ((a.length : Int) - 1)) = some a[a.length - 1] := by
    have := Z30 (b := 15) (hl.sets a ha1).1
    rw [ZS (by omega), show (a.length : Int) - 1 = ((a.length - 1 : Nat) : Int) by omega, at?_nat hal]
   have hlt : lstT a = a[a.length - 1].To := by unfold lstT; rw [List.getLast?_eq_getElem?, List.getElem?_eq_getElem hal]; rfl
   unfold Z0J.s1;rw [Zg h2, cond_true, h1, nz?_ok (by omega), ZS (x := (k : Int) + 1) (by omega)]
   have htm : ((k : Int) + 1).tmod ((full f).length : Int) = (((k + 1) % (full f).length : Nat) : Int) := by
    rw [Int.tmod_eq_emod_of_nonneg (by omega)]; push_cast; rfl
   simp only [Option.bind_some, htm, hnext, hlast];rw [List.getElem?_eq_getElem hmod];generalize (full f)[(k + 1) % (full f).length] = b at *
   have hb0 : at? b 0 = some (b.head hb2) := by
    cases b with
    | nil => exact absurd rfl hb2
    | cons y b => rfl
   have hbf : fstT b = (b.head hb2).From := by unfold fstT; rw [List.head?_eq_some_head hb2]; rfl
   have htick := (Z3T hrb hb2).2
   unfold ZM at htick;have hper := hs.per
   by_cases hl1 : k + 1 = (full f).length
   ·have e : ((k : Int) + 1 == ((full f).length : Int)) = true := beq_t (by omega)
    rw [e, cond_true];simp only [Option.bind_some, hb0, ← hbf, ZS (show -9223372036854775808 ≤ fstT b + f.Period ∧ fstT b + f.Period ≤ 9223372036854775807 by omega), ← hlt, if_pos hl1]
    by_cases hc : lstT a ≥ fstT b + f.Period
    ·rw [Zg hc]; exact .inr ⟨rfl, fun h => by have := h b rfl; omega⟩
    ·rw [Zs hc]; exact .inl ⟨rfl, fun b' hb' => by cases hb'; omega⟩
   ·have e : ((k : Int) + 1 == ((full f).length : Int)) = false := beq_f (by omega)
    rw [e, cond_false];simp only [Option.bind_some, hb0, ← hbf, ZS (show -9223372036854775808 ≤ fstT b + 0 ∧ fstT b + 0 ≤ 9223372036854775807 by omega), ← hlt, if_neg hl1]
    by_cases hc : lstT a ≥ fstT b + 0
    ·rw [Zg hc]; exact .inr ⟨rfl, fun h => by have := h b rfl; omega⟩
    ·rw [Zs hc]; exact .inl ⟨rfl, fun b' hb' => by cases hb'; omega⟩) (by unfold Z0J.s1; rw [Zs (by omega)]; rfl) with ⟨h1, h2⟩ | ⟨h1, h2⟩
 ·rw [h1];refine ⟨true, rfl, fun _ => ⟨fun k a b ha hb => ?_, fun a b ha hb => ?_⟩, fun _ => rfl⟩
  ·have hkl := (List.getElem?_eq_some_iff.1 hb).1
   have := h2 k a ha b (by rw [Nat.mod_eq_of_lt hkl]; exact hb)
   rw [if_neg (by omega)] at this; omega
  ·have hn : full f ≠ [] := by rintro e; rw [e] at ha; simp at ha
   have hpos := List.length_pos_iff.2 hn
   rw [List.getLast?_eq_getElem?] at ha;have e1 : (full f).length - 1 + 1 = (full f).length := by omega
   have := h2 _ a ha b (by rw [e1, Nat.mod_self, ← List.head?_eq_getElem?]; exact hb)
   rw [if_pos e1] at this; exact this
 ·rw [h1];refine ⟨false, rfl, fun h => (by cases h), fun h => absurd (fun k a hk b hb => ?_) h2⟩
  have hkl := (List.getElem?_eq_some_iff.1 hk).1
  by_cases hl1 : k + 1 = (full f).length
  ·rw [if_pos hl1];rw [hl1, Nat.mod_self, ← List.head?_eq_getElem?] at hb;exact h.2 a b (by rw [List.getLast?_eq_getElem?, ← hl1]; exact hk) hb
  ·rw [if_neg hl1];rw [Nat.mod_eq_of_lt (by omega)] at hb
   have := h.1 k a b hk hb; omega
end Go.Dn

namespace Go.Dn
open Go
theorem ZAD {l : List (List Span)} {p : List Span → Bool} (hl : l.length * 24 ≤ reachBytes) : Zb l (fun z => some (p z)) = some (decide (∃ x ∈ l, p x = true)) := by
 have hlen := Z30 (b := 23) hl
 unfold Zb ZJ
 by_cases hall : ∀ (k : Nat) (x : List Span), l[k]? = some x → ¬ p x = true
 ·have : ZF (ZJ.s0 l (fun z => some (p z))) 0 = some (.go ()) := by
   refine Z2B (I := fun (s : Int) r => r = .go () ∧ ∃ k : Nat, s = k ∧ k ≤ l.length) (fun s => l.length - s.toNat) ?_ ⟨rfl, 0, rfl, Nat.zero_le _⟩
   rintro s r ⟨rfl, k, rfl, hk⟩;unfold ZJ.s0
   by_cases hlt : k < l.length
   ·rw [Zg (show (k : Int) < l.length by omega), cond_true, at?_nat hlt, ZS (by omega)]
    have := hall k _ (List.getElem?_eq_getElem hlt)
    simp only [Option.bind_some, Bool.not_eq_true] at this ⊢;rw [this];exact .inl ⟨_, rfl, ⟨trivial, k + 1, by push_cast; rfl, hlt⟩, by simp; omega⟩
   ·rw [Zs (show ¬ (k : Int) < l.length by omega)]; exact .inr rfl
  rw [this, Zs (by rintro ⟨x, hx, hp⟩; obtain ⟨k, hk⟩ := List.getElem?_of_mem hx; exact hall k x hk hp)]
  rfl
 ·obtain ⟨k0, x0, hx0, hb0, hg⟩ := Z9O (good := fun _ x => ¬ p x = true) hall
  have hb0 : p x0 = true := Classical.byContradiction hb0
  have hlt0 := (List.getElem?_eq_some_iff.1 hx0).1
  have : ZF (ZJ.s0 l (fun z => some (p z))) 0 = some (.ret (k0 : Int)) := by
   refine Z2B (I := fun (s : Int) r => r = .ret (k0 : Int) ∧ ∃ k : Nat, s = k ∧ k ≤ k0) (fun s => l.length - s.toNat) ?_ ⟨rfl, 0, rfl, Nat.zero_le _⟩
   rintro s r ⟨rfl, k, rfl, hk⟩;unfold ZJ.s0;have hkl : k < l.length := by omega
   rw [Zg (show (k : Int) < l.length by omega), cond_true, at?_nat hkl, ZS (by omega)]
   by_cases hlt : k < k0
   ·have := hg k _ hlt (List.getElem?_eq_getElem hkl)
    simp only [Option.bind_some, Bool.not_eq_true] at this ⊢;rw [this];exact .inl ⟨_, rfl, ⟨trivial, k + 1, by push_cast; rfl, hlt⟩, by simp; omega⟩
   ·have : k = k0 := by omega
    subst this;rw [List.getElem?_eq_getElem hkl] at hx0;cases hx0;simp only [Option.bind_some, hb0];exact .inr rfl
  rw [this, Zg ⟨x0, List.mem_of_getElem? hx0, hb0⟩];simp only [Option.bind_some, Jx.elim];rw [Zg (by omega)]
def Bare (f : Form) : Prop := ∀ l ∈ f.Core, l = []
theorem Z6D {f : Form} (hl : Lim f) : ∃ b, Z2p f = some b ∧ (b = true ↔ Bare f) := by
 unfold Z2p
 rw [ZAD hl.core]
 refine ⟨_, rfl, ?_⟩
 simp only [Z4C, Bool.not_eq_true', decide_eq_false_iff_not, decide_eq_true_eq]
 constructor
 ·intro h l hm;apply Classical.byContradiction;intro hn;exact h ⟨l, hm, by have := List.length_pos_iff.2 hn; omega⟩
 ·rintro h ⟨l, hm, hp⟩;rw [h l hm] at hp; simp at hp
theorem Z6J {f : Form} (hs : Shape f) (hb : Bare f) {i : Int} (ho : ¬ Z06 f i) : ZQ f i = [] := by
 by_cases h0 : f.Count = 0
 ·exact Z1g ho h0
 ·exact (Z27 ho h0).2 (hb _ (Z1i hs h0 i).2)
def UpTo (f : Form) (i : Int) (r : Int × Bool) : Prop := (r.2 = true ∧ i ≤ r.1 ∧ ZM r.1 ∧ ZQ f r.1 ≠ [] ∧ ∀ k, i ≤ k → k < r.1 → ZQ f k = []) ∨ (r.2 = false ∧ r.1 = 0 ∧ ∀ k, i ≤ k → ZM k → ZQ f k = [])
def DownTo (f : Form) (i : Int) (r : Int × Bool) : Prop := (r.2 = true ∧ r.1 ≤ i ∧ ZM r.1 ∧ ZQ f r.1 ≠ [] ∧ ∀ k, k ≤ i → r.1 < k → ZQ f k = []) ∨ (r.2 = false ∧ r.1 = 0 ∧ ∀ k, k ≤ i → ZM k → ZQ f k = [])
theorem odd_split {f : Form} (hs : Shape f) {p : Nat} {i : Int} (hp : ∀ (k : Nat) (g : Granule), f.Odd[k]? = some g → (k < p ↔ g.Index < i)) {j : Int} (hj : Z06 f j) : ∃ (k : Nat) (g : Granule), f.Odd[k]? = some g ∧ g.Index = j ∧ (k < p ↔ j < i) := by
 obtain ⟨g, hg, rfl⟩ := hj
 obtain ⟨k, hk⟩ := List.getElem?_of_mem hg
 exact ⟨k, g, hk, rfl, hp k g hk⟩
theorem gran_step_up {f : Form} (hl : Lim f) (hs : Shape f) {i : Int} (hi : -1099511627776 ≤ i ∧ i ≤ 1099511627776) : ∃ r, Zw f i 1 = some r ∧ UpTo f i r := by
 have hi64 : In64 i := by unfold In64; omega
 obtain ⟨b, hb, hbb⟩ := Z6D hl
 have holen := Z30 (b := 31) hl.odd
 unfold Zw
 rw [hb]
 simp only [Option.bind_some]
 cases b with
 | true =>
  have hbare := hbb.1 rfl
  rw [cond_true];obtain ⟨p, h1, h2, h3⟩ := Z5O hl hs.inc i
  rw [h3];simp only [Option.bind_some, Zs (show ¬ (1 : Int) < 0 by omega), Bool.false_and, cond_false]
  obtain ⟨r, hr, hpost⟩ := Z1E (step := Zw.s0 f 1) (I := fun (s : Int) => ∃ k : Nat, s = k ∧ p ≤ k ∧ k ≤ f.Odd.length ∧ ∀ (j : Nat) (g : Granule), f.Odd[j]? = some g → p ≤ j → j < k → g.Ticks = []) (fun s => f.Odd.length - s.toNat)
   (fun r => (∃ (k : Nat) (g : Granule), r = .ret (g.Index, true) ∧ f.Odd[k]? = some g ∧ p ≤ k ∧ g.Ticks ≠ [] ∧ ∀ (j : Nat) (g' : Granule), f.Odd[j]? = some g' → p ≤ j → j < k → g'.Ticks = []) ∨ (r = .go () ∧ ∀ (j : Nat) (g' : Granule), f.Odd[j]? = some g' → p ≤ j → g'.Ticks = [])) (by
   rintro s ⟨k, rfl, hpk, hk, hn⟩;unfold Zw.s0
   by_cases hlt : k < f.Odd.length
   ·rw [Zg (show (k : Int) ≥ 0 by omega), Zg (show (k : Int) < f.Odd.length by omega), Bool.and_self, cond_true, at?_nat hlt, ZS (by omega)]
    simp only [Option.bind_some];have hget := List.getElem?_eq_getElem hlt
    by_cases hc : f.Odd[k].Ticks = []
    ·rw [hc];refine .inl ⟨(k : Int) + 1, rfl, ⟨k + 1, by push_cast; rfl, by omega, hlt, fun j g hj hpj hjk => ?_⟩, by simp; omega⟩
     rcases Nat.lt_or_ge j k with h | h
     ·exact hn j g hj hpj h
     ·have : j = k := by omega
      subst this; rw [hget] at hj; cases hj; exact hc
    ·rw [Zg (show ((f.Odd[k].Ticks.length : Int) > 0) by have := List.length_pos_iff.2 hc; omega), cond_true]
     exact .inr ⟨_, rfl, .inl ⟨k, _, rfl, hget, hpk, hc, hn⟩⟩
   ·rw [Zs (show ¬ (k : Int) < f.Odd.length by omega), Bool.and_false, cond_false]
    refine .inr ⟨_, rfl, .inr ⟨rfl, fun j g hj hpj => hn j g hj hpj ?_⟩⟩
    have := (List.getElem?_eq_some_iff.1 hj).1; omega) (p : Int) ⟨p, rfl, Nat.le_refl _, h1, fun j g _ h h' => by omega⟩
  rw [hr];simp only [Option.bind_some]
  rcases hpost with ⟨k, g, rfl, hk, hpk, hne, hn⟩ | ⟨rfl, hn⟩
  ·have hset := Z0x hs.inc (List.mem_of_getElem? hk)
   have hgi : ¬ g.Index < i := fun h => by have := (h2 k g hk).2 h; omega
   refine ⟨_, rfl, .inl ⟨rfl, by simp only; omega, (hs.odd g (List.mem_of_getElem? hk)).2, by simp only; rw [hset]; exact hne, fun j hij hjg => ?_⟩⟩
   simp only at hjg
   by_cases ho : Z06 f j
   ·obtain ⟨k', g', hk', rfl, hiff⟩ := odd_split hs h2 ho
    rw [Z0x hs.inc (List.mem_of_getElem? hk')];refine hn k' g' hk' ?_ ?_
    ·rcases Nat.lt_or_ge k' p with h | h
     ·have := hiff.1 h; omega
     ·exact h
    ·rcases Nat.lt_or_ge k' k with h | h
     ·exact h
     ·rcases Nat.lt_or_ge k k' with h' | h'
      ·have := hs.inc k k' g g' h' hk hk'; omega
      ·have : k = k' := by omega
       subst this; rw [hk] at hk'; cases hk'; omega
   ·exact Z6J hs hbare ho
  ·refine ⟨_, rfl, .inr ⟨rfl, rfl, fun j hij _ => ?_⟩⟩
   by_cases ho : Z06 f j
   ·obtain ⟨k', g', hk', rfl, hiff⟩ := odd_split hs h2 ho
    rw [Z0x hs.inc (List.mem_of_getElem? hk')];refine hn k' g' hk' ?_
    rcases Nat.lt_or_ge k' p with h | h
    ·have := hiff.1 h; omega
    ·exact h
   ·exact Z6J hs hbare ho
 | false =>
  rw [cond_false];obtain ⟨r, hr, hpost⟩ := Z1E (step := Zw.s1 f 1) (I := fun (s : Int) => i ≤ s ∧ s ≤ 1099511627777 ∧ ∀ k, i ≤ k → k < s → ZQ f k = []) (fun s => (1099511627777 - s).toNat)
   (fun r => (∃ j, r = .ret (j, true) ∧ i ≤ j ∧ ZM j ∧ ZQ f j ≠ [] ∧ ∀ k, i ≤ k → k < j → ZQ f k = []) ∨ (r = .go () ∧ ∀ k, i ≤ k → ZM k → ZQ f k = [])) (by
   rintro s ⟨hs1, hs2, hn⟩;unfold Zw.s1;rw [Z6S]
   by_cases ht : ZM s
   ·rw [Zg ht, cond_true, Z8N hl hs (Z33 ht), ZS (by unfold ZM at ht; omega)]
    simp only [Option.bind_some]
    by_cases hc : ZQ f s = []
    ·rw [hc];refine .inl ⟨s + 1, by simp, ⟨by omega, by unfold ZM at ht; omega, fun k hk hks => ?_⟩, by unfold ZM at ht; omega⟩
     by_cases h : k = s
     ·rw [h]; exact hc
     ·exact hn k hk (by omega)
    ·rw [Zg hc, cond_true];exact .inr ⟨_, rfl, .inl ⟨s, rfl, hs1, ht, hc, hn⟩⟩
   ·rw [Zs ht, cond_false];exact .inr ⟨_, rfl, .inr ⟨rfl, fun k hk htk => hn k hk (by unfold ZM at ht htk; omega)⟩⟩) i ⟨Int.le_refl _, by omega, fun k h h' => by omega⟩
  rw [hr];simp only [Option.bind_some]
  rcases hpost with ⟨j, rfl, h1, h2, h3, h4⟩ | ⟨rfl, hn⟩
  ·exact ⟨_, rfl, .inl ⟨rfl, h1, h2, h3, h4⟩⟩
  ·exact ⟨_, rfl, .inr ⟨rfl, rfl, hn⟩⟩
theorem ZBP {f : Form} (hl : Lim f) (hs : Shape f) {i : Int} (hi : -1099511627776 ≤ i ∧ i ≤ 1099511627776) : ∃ r, Zw f i (-1) = some r ∧ DownTo f i r := by
 have hi64 : In64 i := by unfold In64; omega
 obtain ⟨b, hb, hbb⟩ := Z6D hl
 have holen := Z30 (b := 31) hl.odd
 unfold Zw
 rw [hb]
 simp only [Option.bind_some]
 cases b with
 | true =>
  have hbare := hbb.1 rfl
  rw [cond_true];obtain ⟨p, h1, h2, h3⟩ := Z5O hl hs.inc i
  rw [h3]
  -- the number of exceptions up to the index
  obtain ⟨q, hq1, hq2, hq3⟩ : ∃ q : Nat, q ≤ f.Odd.length ∧ (∀ (k : Nat) (g : Granule), f.Odd[k]? = some g → (k < q ↔ g.Index ≤ i)) ∧ ((bif (decide ((-1 : Int) < 0) && !decide (∃ g, f.Odd[p]? = some g ∧ g.Index = i)) then some (w64 ((p : Int) - 1)) else some (p : Int)) : Option Int) = some ((q : Int) - 1) := by
   by_cases he : ∃ g, f.Odd[p]? = some g ∧ g.Index = i
   ·obtain ⟨g, hg, hgi⟩ := he
    have hpl := (List.getElem?_eq_some_iff.1 hg).1
    refine ⟨p + 1, by omega, fun k g' hk => ?_, by rw [Zg (p := ∃ g, f.Odd[p]? = some g ∧ g.Index = i) ⟨g, hg, hgi⟩]; simp⟩
    have := h2 k g' hk
    constructor
    ·intro h
     rcases Nat.lt_or_ge k p with h' | h'
     ·have := this.1 h'; omega
     ·have : k = p := by omega
      subst this; rw [hg] at hk; cases hk; omega
    ·intro h
     rcases Nat.lt_or_ge p k with h' | h'
     ·have := hs.inc p k g g' h' hg hk; omega
     ·omega
   ·refine ⟨p, h1, fun k g' hk => ?_, by rw [Zs (p := ∃ g, f.Odd[p]? = some g ∧ g.Index = i) he, ZS (by omega)]; simp⟩
    have := h2 k g' hk
    constructor
    ·intro h; have := this.1 h; omega
    ·intro h
     by_cases hgi : g'.Index = i
     ·exfalso
      have hkp : ¬ k < p := fun h' => by have := this.1 h'; omega
      rcases Nat.lt_or_ge p k with h' | h'
      ·have hpl : p < f.Odd.length := by have := (List.getElem?_eq_some_iff.1 hk).1; omega
       have h5 := hs.inc p k _ g' h' (List.getElem?_eq_getElem hpl) hk
       have h6 := (h2 p _ (List.getElem?_eq_getElem hpl)).2 (by omega)
       omega
      ·have : k = p := by omega
       subst this;exact he ⟨g', hk, hgi⟩
     ·exact this.2 (by omega)
  simp only [Option.bind_some];rw [hq3];simp only [Option.bind_some];obtain ⟨r, hr, hpost⟩ := Z1E (step := Zw.s0 f (-1)) (I := fun (s : Int) => ∃ k : Nat, s = (k : Int) - 1 ∧ k ≤ q ∧ ∀ (j : Nat) (g : Granule), f.Odd[j]? = some g → k ≤ j → j < q → g.Ticks = []) (fun s => (s + 1).toNat)
   (fun r => (∃ (k : Nat) (g : Granule), r = .ret (g.Index, true) ∧ f.Odd[k]? = some g ∧ k < q ∧ g.Ticks ≠ [] ∧ ∀ (j : Nat) (g' : Granule), f.Odd[j]? = some g' → k < j → j < q → g'.Ticks = []) ∨ (r = .go () ∧ ∀ (j : Nat) (g' : Granule), f.Odd[j]? = some g' → j < q → g'.Ticks = [])) (by
   rintro s ⟨k, rfl, hk, hn⟩;unfold Zw.s0
   by_cases h0 : 0 < k
   ·have hlt : k - 1 < f.Odd.length := by omega
    rw [Zg (show (k : Int) - 1 ≥ 0 by omega), Zg (show (k : Int) - 1 < f.Odd.length by omega), Bool.and_self, cond_true, show (k : Int) - 1 = ((k - 1 : Nat) : Int) by omega, at?_nat hlt, ZS (by omega)]
    simp only [Option.bind_some];have hget := List.getElem?_eq_getElem hlt
    by_cases hc : f.Odd[k - 1].Ticks = []
    ·rw [hc];refine .inl ⟨((k - 1 : Nat) : Int) + -1, rfl, ⟨k - 1, by omega, by omega, fun j g hj hpj hjk => ?_⟩, by simp; omega⟩
     rcases Nat.lt_or_ge j k with h | h
     ·have : j = k - 1 := by omega
      subst this; rw [hget] at hj; cases hj; exact hc
     ·exact hn j g hj h hjk
    ·rw [Zg (show ((f.Odd[k - 1].Ticks.length : Int) > 0) by have := List.length_pos_iff.2 hc; omega), cond_true]
     exact .inr ⟨_, rfl, .inl ⟨k - 1, _, rfl, hget, by omega, hc, fun j g hj h1 h2 => hn j g hj (by omega) h2⟩⟩
   ·rw [Zs (show ¬ (k : Int) - 1 ≥ 0 by omega), Bool.false_and, cond_false]
    exact .inr ⟨_, rfl, .inr ⟨rfl, fun j g hj hjq => hn j g hj (by omega) hjq⟩⟩) ((q : Int) - 1) ⟨q, rfl, Nat.le_refl _, fun j g _ h h' => by omega⟩
  rw [hr];simp only [Option.bind_some]
  rcases hpost with ⟨k, g, rfl, hk, hkq, hne, hn⟩ | ⟨rfl, hn⟩
  ·have hset := Z0x hs.inc (List.mem_of_getElem? hk)
   have hgi := (hq2 k g hk).1 hkq
   refine ⟨_, rfl, .inl ⟨rfl, hgi, (hs.odd g (List.mem_of_getElem? hk)).2, by simp only; rw [hset]; exact hne, fun j hij hjg => ?_⟩⟩
   simp only at hjg
   by_cases ho : Z06 f j
   ·obtain ⟨g', hg', rfl⟩ := ho
    obtain ⟨k', hk'⟩ := List.getElem?_of_mem hg'
    rw [Z0x hs.inc hg'];refine hn k' g' hk' ?_ ((hq2 k' g' hk').2 hij)
    rcases Nat.lt_or_ge k k' with h | h
    ·exact h
    ·rcases Nat.lt_or_ge k' k with h' | h'
     ·have := hs.inc k' k g' g h' hk' hk; omega
     ·have : k = k' := by omega
      subst this; rw [hk] at hk'; cases hk'; omega
   ·exact Z6J hs hbare ho
  ·refine ⟨_, rfl, .inr ⟨rfl, rfl, fun j hij _ => ?_⟩⟩
   by_cases ho : Z06 f j
   ·obtain ⟨g', hg', rfl⟩ := ho
    obtain ⟨k', hk'⟩ := List.getElem?_of_mem hg'
    rw [Z0x hs.inc hg'];exact hn k' g' hk' ((hq2 k' g' hk').2 hij)
   ·exact Z6J hs hbare ho
 | false =>
  rw [cond_false];obtain ⟨r, hr, hpost⟩ := Z1E (step := Zw.s1 f (-1)) (I := fun (s : Int) => s ≤ i ∧ -1099511627777 ≤ s ∧ ∀ k, k ≤ i → s < k → ZQ f k = []) (fun s => (s + 1099511627777).toNat)
   (fun r => (∃ j, r = .ret (j, true) ∧ j ≤ i ∧ ZM j ∧ ZQ f j ≠ [] ∧ ∀ k, k ≤ i → j < k → ZQ f k = []) ∨ (r = .go () ∧ ∀ k, k ≤ i → ZM k → ZQ f k = [])) (by
   rintro s ⟨hs1, hs2, hn⟩;unfold Zw.s1;rw [Z6S]
   by_cases ht : ZM s
   ·rw [Zg ht, cond_true, Z8N hl hs (Z33 ht), ZS (by unfold ZM at ht; omega)]
    simp only [Option.bind_some]
    by_cases hc : ZQ f s = []
    ·rw [hc];refine .inl ⟨s + -1, by simp, ⟨by omega, by unfold ZM at ht; omega, fun k hk hks => ?_⟩, by unfold ZM at ht; omega⟩
     by_cases h : k = s
     ·rw [h]; exact hc
     ·exact hn k hk (by omega)
    ·rw [Zg hc, cond_true];exact .inr ⟨_, rfl, .inl ⟨s, rfl, hs1, ht, hc, hn⟩⟩
   ·rw [Zs ht, cond_false];exact .inr ⟨_, rfl, .inr ⟨rfl, fun k hk htk => hn k hk (by unfold ZM at ht htk; omega)⟩⟩) i ⟨Int.le_refl _, by omega, fun k h h' => by omega⟩
  rw [hr];simp only [Option.bind_some]
  rcases hpost with ⟨j, rfl, h1, h2, h3, h4⟩ | ⟨rfl, hn⟩
  ·exact ⟨_, rfl, .inl ⟨rfl, h1, h2, h3, h4⟩⟩
  ·exact ⟨_, rfl, .inr ⟨rfl, rfl, hn⟩⟩
def Above (f : Form) (i : Int) (r : Int × Bool) : Prop := (r.2 = true ∧ i < r.1 ∧ ZM r.1 ∧ ZQ f r.1 ≠ [] ∧ ∀ k, i < k → k < r.1 → ZM k → ZQ f k = []) ∨ (r.2 = false ∧ r.1 = 0 ∧ ∀ k, i < k → ZM k → ZQ f k = [])
def Under (f : Form) (i : Int) (r : Int × Bool) : Prop := (r.2 = true ∧ r.1 < i ∧ ZM r.1 ∧ ZQ f r.1 ≠ [] ∧ ∀ k, k < i → r.1 < k → ZM k → ZQ f k = []) ∨ (r.2 = false ∧ r.1 = 0 ∧ ∀ k, k < i → ZM k → ZQ f k = [])
theorem Z59 {f : Form} (hl : Lim f) (hs : Shape f) {i : Int} (hi : In64 i) : ∃ r, Z1p f i = some r ∧ Above f i r := by
 unfold Z1p
 by_cases h : i ≥ 1099511627776
 ·rw [Zg h, cond_true];exact ⟨_, rfl, .inr ⟨rfl, rfl, fun k hk ht => by unfold ZM at ht; omega⟩⟩
 ·rw [Zs h, cond_false, ZS (by unfold In64 at hi; omega)]
  have hm : iMax (i + 1) (-1099511627776) = max (i + 1) (-1099511627776) := by unfold iMax; omega
  rw [hm];obtain ⟨r, h1, h2⟩ := gran_step_up hl hs (i := max (i + 1) (-1099511627776)) (by omega)
  rw [h1];refine ⟨r, rfl, ?_⟩
  rcases h2 with ⟨a, b, c, d, e⟩ | ⟨a, b, e⟩
  ·exact .inl ⟨a, by omega, c, d, fun k hk hkr ht => e k (by unfold ZM at ht; omega) hkr⟩
  ·exact .inr ⟨a, b, fun k hk ht => e k (by have := ht; unfold ZM at this; omega) ht⟩
theorem Z58 {f : Form} (hl : Lim f) (hs : Shape f) {i : Int} (hi : In64 i) : ∃ r, Z1S f i = some r ∧ Under f i r := by
 unfold Z1S
 by_cases h : i ≤ -1099511627776
 ·rw [Zg h, cond_true];exact ⟨_, rfl, .inr ⟨rfl, rfl, fun k hk ht => by unfold ZM at ht; omega⟩⟩
 ·rw [Zs h, cond_false, ZS (by unfold In64 at hi; omega)]
  have hm : iMin (i - 1) 1099511627776 = min (i - 1) 1099511627776 := by unfold iMin; omega
  rw [hm];obtain ⟨r, h1, h2⟩ := ZBP hl hs (i := min (i - 1) 1099511627776) (by omega)
  rw [h1];refine ⟨r, rfl, ?_⟩
  rcases h2 with ⟨a, b, c, d, e⟩ | ⟨a, b, e⟩
  ·exact .inl ⟨a, by omega, c, d, fun k hk hkr ht => e k (by unfold ZM at ht; omega) hkr⟩
  ·exact .inr ⟨a, b, fun k hk ht => e k (by have := ht; unfold ZM at this; omega) ht⟩
end Go.Dn

namespace Go.Dn
open Go
def BesideR (f : Form) (i : Int) (lo hi : Int × Bool) : Prop :=
 fits f i ∧ (lo.2 = true → fits f lo.1 ∧ Z3M (ZQ f lo.1) (ZQ f i)) ∧ (hi.2 = true → fits f hi.1 ∧ Z3M (ZQ f i) (ZQ f hi.1)) ∧ (lo.2 = true → hi.2 = true → Z3M (ZQ f lo.1) (ZQ f hi.1))
theorem aheadL_nil_l (b : List Span) : Z3M [] b := by intro x hx; cases hx
theorem aheadL_nil_r (a : List Span) : Z3M a [] := by intro x _ y hy; cases hy
theorem Z9T {f : Form} (hl : Lim f) (hs : Shape f) (i : Int) : Len (ZQ f i) := by
 by_cases ho : Z06 f i
 ·obtain ⟨g, hg, rfl⟩ := ho
  rw [Z0x hs.inc hg]; exact (hl.ticks g hg).2.1
 ·by_cases h0 : f.Count = 0
  ·rw [Z1g ho h0]; unfold Len; simp
  ·rw [Z2Z ho h0]; unfold Len; rw [List.length_map]; exact (hl.sets _ (Z1i hs h0 i).2).1
theorem ZA1 {f : Form} (hs : Shape f) {i : Int} (hf : fits f i) : RightL (ZQ f i) := by
 by_cases ho : Z06 f i
 ·obtain ⟨g, hg, rfl⟩ := ho
  rw [Z0x hs.inc hg]; exact (hs.odd g hg).1
 ·by_cases h0 : f.Count = 0
  ·rw [Z1g ho h0]; exact ⟨by simp, by simp⟩
  ·unfold fits at hf;rw [Z2Z ho h0] at hf ⊢;exact (hs.core _ (Z1i hs h0 i).2).shift fun s hs' => hf (Zk (Z4J f i) s) (List.mem_map.2 ⟨s, hs', rfl⟩)
theorem near_l {c : Bool} {X S : List Span} : Z3M (if c = true then X else []) S ↔ (c = true → Z3M X S) := by
 cases c
 ·simp [aheadL_nil_l]
 ·simp
theorem near_r {c : Bool} {X S : List Span} : Z3M S (if c = true then X else []) ↔ (c = true → Z3M S X) := by
 cases c
 ·simp [aheadL_nil_r]
 ·simp
noncomputable def sideG (f : Form) (r : Int × Bool) : Option (Jx (List Span) Bool) :=
 (bif r.2 then (Z0Y f r.1).bind fun x => (bif (x.2 != 0) then some (.ret false) else some (.go x.1)) else some (.go []))
open Classical in
theorem sideG_eq {f : Form} (hl : Lim f) (hs : Shape f) {r : Int × Bool} (ht : r.2 = true → ZM r.1) : (r.2 = true ∧ ¬ fits f r.1 ∧ sideG f r = some (.ret false)) ∨ ((r.2 = true → fits f r.1) ∧ sideG f r = some (.go (if r.2 = true then ZQ f r.1 else []))) := by
 obtain ⟨j, c⟩ := r
 unfold sideG
 cases c with
 | false => exact .inr ⟨by simp, by simp⟩
 | true =>
  simp only [cond_true];rw [Z6x hl hs (Z33 (ht rfl))]
  by_cases hfl : fits f j
  ·rw [if_pos ⟨ht rfl, hfl⟩]; exact .inr ⟨fun _ => hfl, by simp⟩
  ·rw [if_neg (fun h => hfl h.2)]; exact .inl ⟨trivial, hfl, rfl⟩
open Classical in
theorem ZAd {f : Form} (hl : Lim f) (hs : Shape f) {i : Int} (hi : ZM i) {lo hi' : Int × Bool} (hlo : Z1S f i = some lo) (hhi : Z1p f i = some hi') (tlo : lo.2 = true → ZM lo.1) (thi : hi'.2 = true → ZM hi'.1) :
  ∃ b, Z1t f i = some b ∧ (b = true ↔ BesideR f i lo hi') := by
 have e : Z1t f i = (Z0Y f i).bind fun x1 => (bif (x1.2 != 0) then some false else (sideG f lo).bind fun y1 => y1.elim (fun r' => some r') fun a2 => (sideG f hi').bind fun y2 => y2.elim (fun r' => some r') fun a4 =>
   (Z0f a2 x1.1).bind fun x6 => ((bif x6 then (Z0f x1.1 a4).bind fun x7 => some x7 else some false)).bind fun y3 => ((bif y3 then (Z0f a2 a4).bind fun x8 => some x8 else some false)).bind fun y4 => some y4) := by
  unfold Z1t sideG;rw [hlo, hhi];simp only [Option.bind_some]
 rw [e, Z6x hl hs (Z33 hi)]
 clear e
 by_cases hf : fits f i
 ·rw [if_pos ⟨hi, hf⟩];simp only [Option.bind_some, bne_self_eq_false, cond_false]
  rcases sideG_eq hl hs tlo with ⟨h1, h2, h0⟩ | ⟨h1, h0⟩
  ·rw [h0];exact ⟨false, rfl, fun h => (by cases h), fun h => absurd (h.2.1 h1).1 h2⟩
  ·rw [h0];simp only [Option.bind_some, Jx.elim]
   rcases sideG_eq hl hs thi with ⟨h3, h4, h0'⟩ | ⟨h3, h0'⟩
   ·rw [h0'];exact ⟨false, rfl, fun h => (by cases h), fun h => absurd (h.2.2.1 h3).1 h4⟩
   ·rw [h0'];simp only [Option.bind_some];have lenA : Len (if lo.2 = true then ZQ f lo.1 else []) := by
     by_cases hc : lo.2 = true
     ·rw [if_pos hc]; exact Z9T hl hs _
     ·rw [if_neg hc]; unfold Len; simp
    generalize hA : (if lo.2 = true then ZQ f lo.1 else []) = A at lenA
    generalize hB : (if hi'.2 = true then ZQ f hi'.1 else []) = B
    obtain ⟨r1, q1, p1⟩ := Z4v (b := ZQ f i) lenA
    obtain ⟨r2, q2, p2⟩ := Z4v (a := ZQ f i) (b := B) (Z9T hl hs i)
    obtain ⟨r3, q3, p3⟩ := Z4v (b := B) lenA
    rw [q1, q2, q3];subst hA hB;rw [near_l] at p1;rw [near_r] at p2;rw [near_l, near_r] at p3;refine ⟨r1 && r2 && r3, by cases r1 <;> cases r2 <;> rfl, ?_⟩
    rw [Bool.and_eq_true, Bool.and_eq_true, p1, p2, p3]
    constructor
    ·rintro ⟨⟨a, b⟩, c⟩;exact ⟨hf, fun h => ⟨h1 h, a h⟩, fun h => ⟨h3 h, b h⟩, c⟩
    ·rintro ⟨_, a, b, c⟩;exact ⟨⟨fun h => (a h).2, fun h => (b h).2⟩, c⟩
 ·rw [if_neg (fun h => hf h.2)]
  exact ⟨false, rfl, fun h => (by cases h), fun h => absurd h.1 hf⟩
def Beside (f : Form) (i : Int) : Prop := ∀ lo hi, Under f i lo → Above f i hi → BesideR f i lo hi
theorem Under.uniq {f : Form} {i : Int} {r r' : Int × Bool} (h : Under f i r) (h' : Under f i r') : r = r' := by
 obtain ⟨a, b⟩ := r
 obtain ⟨a', b'⟩ := r'
 rcases h with ⟨rfl, h1, h2, h3, h4⟩ | ⟨rfl, rfl, h4⟩ <;> rcases h' with ⟨rfl, k1, k2, k3, k4⟩ | ⟨rfl, rfl, k4⟩
 ·simp only at *
  rcases Int.lt_trichotomy a a' with h | h | h
  ·exact absurd (h4 a' k1 h k2) k3
  ·rw [h]
  ·exact absurd (k4 a h1 h h2) h3
 ·exact absurd (k4 a h1 h2) h3
 ·exact absurd (h4 a' k1 k2) k3
 ·rfl
theorem Above.uniq {f : Form} {i : Int} {r r' : Int × Bool} (h : Above f i r) (h' : Above f i r') : r = r' := by
 obtain ⟨a, b⟩ := r
 obtain ⟨a', b'⟩ := r'
 rcases h with ⟨rfl, h1, h2, h3, h4⟩ | ⟨rfl, rfl, h4⟩ <;> rcases h' with ⟨rfl, k1, k2, k3, k4⟩ | ⟨rfl, rfl, k4⟩
 ·simp only at *
  rcases Int.lt_trichotomy a a' with h | h | h
  ·exact absurd (k4 a h1 h h2) h3
  ·rw [h]
  ·exact absurd (h4 a' k1 h k2) k3
 ·exact absurd (k4 a h1 h2) h3
 ·exact absurd (h4 a' k1 k2) k3
 ·rfl
theorem ZAE {f : Form} (hl : Lim f) (hs : Shape f) {i : Int} (hi : ZM i) : ∃ b, Z1t f i = some b ∧ (b = true ↔ Beside f i) := by
 obtain ⟨lo, h1, h2⟩ := Z58 hl hs (Z33 hi)
 obtain ⟨hi', h3, h4⟩ := Z59 hl hs (Z33 hi)
 obtain ⟨b, h5, h6⟩ := ZAd hl hs hi h1 h3 (fun h => by rcases h2 with ⟨_, _, h, _⟩ | ⟨h', _⟩ <;> simp_all) (fun h => by rcases h4 with ⟨_, _, h, _⟩ | ⟨h', _⟩ <;> simp_all)
 refine ⟨b, h5, h6.trans ⟨fun h lo' hi'' q1 q2 => ?_, fun h => h lo hi' h2 h4⟩⟩
 rw [q1.uniq h2, q2.uniq h4]; exact h
def Z6s (f : Form) : Nat := (f.Core.map List.length).sum + (f.Odd.map (·.Ticks.length)).sum
theorem sum_take {α : Type} (g : α → Nat) {l : List α} {k : Nat} (h : k < l.length) : ((l.take (k + 1)).map g).sum = ((l.take k).map g).sum + g l[k] := by
 rw [List.take_succ_eq_append_getElem h, List.map_append, List.sum_append]; simp
theorem Z8u {f : Form} (hl : Lim f) (hc : f.Core.length ≤ 6000) (ho : f.Odd.length ≤ 6000) : Z09 f = some (Z6s f : Int) := by
 have hr := Z2A
 have lenC : ∀ l ∈ f.Core, l.length ≤ 8796093022207 := fun l hm => by have := (hl.sets l hm).1; unfold Len at this; omega
 have lenO : ∀ g ∈ f.Odd, g.Ticks.length ≤ 8796093022207 := fun l hm => by have := (hl.ticks l hm).2.1; unfold Len at this; omega
 obtain ⟨a, h1, h2, h3⟩ := fold_loop (l := f.Core) (step := Z09.s0 f) (f := fun a _ x => a + (x.length : Int)) (fin := id) (a0 := (0 : Int)) (fun k a => a = ((((f.Core.take k).map List.length).sum : Nat) : Int) ∧ a ≤ k * 8796093022207) ⟨by simp, by simp⟩ (fun k x a hk ⟨ha, hb⟩ => by
   obtain ⟨q1, q2⟩ := Z9A hk
   have hx := lenC x (List.mem_of_getElem? hk)
   have hkl : k < f.Core.length := by omega
   have h0 : 0 ≤ a := by rw [ha]; omega
   unfold Z09.s0;simp only;rw [Zg q2, cond_true, q1, ZS (x := (k : Int) + 1) (by omega)]
   simp only [Option.bind_some];rw [ZS (x := a + (x.length : Int)) (by omega)]
   refine ⟨rfl, ?_, by push_cast; omega⟩
   rw [sum_take _ hkl];rw [List.getElem?_eq_getElem hkl] at hk;cases hk; rw [ha]; push_cast; rfl) (fun a _ => by unfold Z09.s0; simp only; rw [Zs (by omega)]; rfl)
 rw [List.take_length] at h2
 obtain ⟨b, h4, h5, h6⟩ := fold_loop (l := f.Odd) (step := Z09.s1 f) (f := fun a _ x => a + (x.Ticks.length : Int)) (fin := id) (a0 := a) (fun k b => b = a + ((((f.Odd.take k).map (·.Ticks.length)).sum : Nat) : Int) ∧ b ≤ a + k * 8796093022207) ⟨by simp, by simp⟩ (fun k x b hk ⟨ha, hb⟩ => by
   obtain ⟨q1, q2⟩ := Z9A hk
   have hx := lenO x (List.mem_of_getElem? hk)
   have hkl : k < f.Odd.length := by omega
   have h0 : 0 ≤ b := by rw [ha, h2]; omega
   unfold Z09.s1;simp only;rw [Zg q2, cond_true, q1, ZS (x := (k : Int) + 1) (by omega)]
   simp only [Option.bind_some];rw [ZS (x := b + (x.Ticks.length : Int)) (by omega)]
   refine ⟨rfl, ?_, by push_cast; omega⟩
   rw [sum_take _ hkl];rw [List.getElem?_eq_getElem hkl] at hk;cases hk; rw [ha]; push_cast; omega) (fun a _ => by unfold Z09.s1; simp only; rw [Zs (by omega)]; rfl)
 rw [List.take_length] at h5
 unfold Z09
 rw [h1]
 simp only [Option.bind_some, id]
 rw [h4]
 simp only [Option.bind_some, id, h5, h2, Z6s]
 push_cast; rfl
structure RightF (f : Form) : Prop where
 shape : Shape f
 turns : Turns f
 beside : ∀ g ∈ f.Odd, Beside f g.Index
def LongF (f : Form) : Prop := 6000 < f.Core.length ∨ 6000 < f.Odd.length ∨ 60000 < Z6s f
theorem gran_Right_eq {f : Form} (hl : Lim f) : (LongF f ∧ Z05 f = some 3) ∨ (¬ LongF f ∧ RightF f ∧ Z05 f = some 0) ∨ (¬ LongF f ∧ ¬ RightF f ∧ Z05 f = some 50) := by
 have holen := Z30 (b := 31) hl.odd
 unfold Z05
 by_cases h1 : 6000 < f.Core.length ∨ 6000 < f.Odd.length
 ·have e : (decide ((f.Core.length : Int) > 6000) || decide ((f.Odd.length : Int) > 6000)) = true := by
   rcases h1 with h | h
   ·rw [Zg (show (f.Core.length : Int) > 6000 by omega)]; rfl
   ·rw [Zg (show (f.Odd.length : Int) > 6000 by omega)]; simp
  rw [e];exact .inl ⟨h1.elim .inl (fun h => .inr (.inl h)), rfl⟩
 ·have e : (decide ((f.Core.length : Int) > 6000) || decide ((f.Odd.length : Int) > 6000)) = false := by
   rw [Zs (show ¬ (f.Core.length : Int) > 6000 by omega), Zs (show ¬ (f.Odd.length : Int) > 6000 by omega)]; rfl
  rw [e, cond_false, Z8u hl (by omega) (by omega)]
  simp only [Option.bind_some]
  by_cases h2 : 60000 < Z6s f
  ·rw [Zg (show (Z6s f : Int) > 60000 by omega)]
   exact .inl ⟨.inr (.inr h2), rfl⟩
  ·have hnl : ¬ LongF f := by unfold LongF; omega
   rw [Zs (show ¬ (Z6s f : Int) > 60000 by omega), cond_false]
   obtain ⟨b, hb, hbs⟩ := gran_shape_eq hl
   rw [hb];simp only [Option.bind_some];refine .inr ?_;cases b with
   | false => exact .inr ⟨hnl, fun h => (by have := hbs.2 h.shape; cases this), rfl⟩
   | true =>
    have hs := hbs.1 rfl
    obtain ⟨c, hc, hct⟩ := gran_turns_eq hl hs
    rw [hc];simp only [Option.bind_some, Bool.not_true, cond_false];cases c with
    | false => exact .inr ⟨hnl, fun h => (by have := hct.2 h.turns; cases this), rfl⟩
    | true =>
     simp only [Bool.not_true, cond_false]
     rcases Z49 (l := f.Odd) (step := Z05.s0 f) (fun _ g => Beside f g.Index) (no := .ret 50) (yes := .go ()) (fun k g hk _ => by
       obtain ⟨q1, q2⟩ := Z9A hk
       obtain ⟨b, hb, hbb⟩ := ZAE hl hs (hs.odd g (List.mem_of_getElem? hk)).2
       unfold Z05.s0;rw [Zg q2, cond_true, q1, ZS (by omega)]
       simp only [Option.bind_some, hb];cases b
       ·exact .inr ⟨rfl, fun h => by have := hbb.2 h; cases this⟩
       ·exact .inl ⟨rfl, hbb.1 rfl⟩) (by unfold Z05.s0; rw [Zs (by omega)]; rfl) with ⟨q1, q2⟩ | ⟨q1, q2⟩
     ·rw [q1];exact .inl ⟨hnl, ⟨hs, hct.1 rfl, fun g hg => by obtain ⟨k, hk⟩ := List.getElem?_of_mem hg; exact q2 k g hk⟩, rfl⟩
     ·rw [q1];exact .inr ⟨hnl, fun h => q2 fun k g hk => h.beside g (List.mem_of_getElem? hk), rfl⟩
def SmallF (f : Form) : Prop := f.Core.length ≤ 12 ∧ f.Odd.length ≤ 8 ∧ Z6s f ≤ 60
theorem Z7R {f : Form} (hl : Lim f) : ∃ b, Z0m f = some b ∧ (b = true ↔ SmallF f) := by
 unfold Z0m
 by_cases h : f.Core.length ≤ 12 ∧ f.Odd.length ≤ 8
 ·rw [Zg (show (f.Core.length : Int) ≤ 12 by omega), Zg (show (f.Odd.length : Int) ≤ 8 by omega), Z8u hl (by omega) (by omega)]
  refine ⟨decide ((Z6s f : Int) ≤ 60), rfl, ?_⟩;rw [decide_eq_true_iff];exact ⟨fun h' => ⟨h.1, h.2, by omega⟩, fun h' => by have := h'.2.2; omega⟩
 ·have e : (decide ((f.Core.length : Int) ≤ 12) && decide ((f.Odd.length : Int) ≤ 8)) = false := by
   by_cases h1 : f.Core.length ≤ 12
   ·rw [Zs (show ¬ (f.Odd.length : Int) ≤ 8 by omega)]; simp
   ·rw [Zs (show ¬ (f.Core.length : Int) ≤ 12 by omega)]; rfl
  rw [e];exact ⟨false, rfl, fun h => (by cases h), fun h' => absurd ⟨h'.1, h'.2.1⟩ h⟩
end Go.Dn

namespace Go.Dn
open Go
theorem Z38 {f : Form} {l : List Span} : l ∈ full f ↔ l ∈ f.Core ∧ l ≠ [] := by
 unfold full
 rw [List.mem_filter, decide_eq_true_iff, gt_iff_lt, List.length_pos_iff]
theorem full_pair {f : Form} (hs : Shape f) (ht : Turns f) : (full f).Pairwise (fun a b => lstT a < fstT b) := by
 have hm : ∀ x ∈ full f, fstT x ≤ lstT x := fun x hx => Z1y (hs.core x (Z38.1 hx).1) (Z38.1 hx).2
 have h1 := ht.1
 generalize full f = l at hm h1
 induction l with
 | nil => exact .nil
 | cons x l ih =>
  have ih := ih (fun y hy => hm y (List.mem_cons_of_mem _ hy)) (fun k a b ha hb => h1 (k + 1) a b ha hb)
  refine List.pairwise_cons.2 ⟨fun y hy => ?_, ih⟩
  cases l with
  | nil => cases hy
  | cons z l =>
   have hxz := h1 0 x z rfl rfl
   rcases List.mem_cons.1 hy with rfl | hy
   ·exact hxz
   ·have := (List.pairwise_cons.1 ih).1 y hy
    have := hm z (by simp)
    omega
theorem core_pair {f : Form} (hs : Shape f) (ht : Turns f) {j k : Nat} {a b : List Span} (hjk : j < k) (ha : f.Core[j]? = some a) (hb : f.Core[k]? = some b) (na : a ≠ []) (nb : b ≠ []) : lstT a < fstT b := by
 have h := full_pair hs ht
 unfold full at h
 rw [List.pairwise_filter] at h
 have hj := (List.getElem?_eq_some_iff.1 ha)
 have hk := (List.getElem?_eq_some_iff.1 hb)
 obtain ⟨hj, rfl⟩ := hj
 obtain ⟨hk, rfl⟩ := hk
 exact List.pairwise_iff_getElem.1 h j k hj hk hjk (by rw [decide_eq_true_iff]; exact List.length_pos_iff.2 na) (by rw [decide_eq_true_iff]; exact List.length_pos_iff.2 nb)
theorem core_turn {f : Form} (hs : Shape f) (ht : Turns f) {a b : List Span} (ha : a ∈ f.Core) (hb : b ∈ f.Core) (na : a ≠ []) (nb : b ≠ []) : lstT a < fstT b + f.Period := by
 have hA := Z38.2 ⟨ha, na⟩
 have hB := Z38.2 ⟨hb, nb⟩
 have hm : ∀ x ∈ full f, fstT x ≤ lstT x := fun x hx => Z1y (hs.core x (Z38.1 hx).1) (Z38.1 hx).2
 have hn : full f ≠ [] := List.ne_nil_of_mem hA
 have hlast := List.getLast?_eq_some_getLast hn
 have hhead := List.head?_eq_some_head hn
 have h2 := ht.2 _ _ hlast hhead
 have hp := full_pair hs ht
 have e1 : lstT a ≤ lstT ((full f).getLast hn) := by
  obtain ⟨j, hj⟩ := List.getElem?_of_mem hA
  obtain ⟨hjl, hj⟩ := List.getElem?_eq_some_iff.1 hj
  by_cases hc : j = (full f).length - 1
  ·subst hc;rw [List.getLast_eq_getElem, hj];exact Int.le_refl _
  ·have := List.pairwise_iff_getElem.1 hp j ((full f).length - 1) hjl (by omega) (by omega)
   rw [hj] at this;have h5 := hm _ (List.getLast_mem hn)
   rw [List.getLast_eq_getElem] at h5 ⊢;omega
 have e2 : fstT ((full f).head hn) ≤ fstT b := by
  obtain ⟨j, hj⟩ := List.getElem?_of_mem hB
  obtain ⟨hjl, hj⟩ := List.getElem?_eq_some_iff.1 hj
  have hh : (full f).head hn = (full f)[0]'(by omega) := List.head_eq_getElem hn
  by_cases hc : j = 0
  ·subst hc;rw [hh, hj];exact Int.le_refl _
  ·have := List.pairwise_iff_getElem.1 hp 0 j (by omega) hjl (by omega)
   rw [hj, ← hh] at this;have h5 := hm _ (List.head_mem hn)
   omega
 omega
theorem ZAx {f : Form} (hs : Shape f) (h0 : f.Count ≠ 0) (i : Int) : f.Core[(i % f.Count).toNat]? = some (Z0r f i) := by
 have := (Z1i hs h0 i).1
 unfold at? at this
 rwa [if_pos (Int.emod_nonneg i h0)] at this
theorem ZBI {f : Form} (hs : Shape f) (ht : Turns f) (h0 : f.Count ≠ 0) {i k : Int} (hik : i < k) (ni : Z0r f i ≠ []) (nk : Z0r f k ≠ []) : lstT (Z0r f i) + Z4J f i < fstT (Z0r f k) + Z4J f k := by
 have hp := Z8r hs h0
 have di := Int.emod_add_mul_ediv i f.Count
 have dk := Int.emod_add_mul_ediv k f.Count
 have mi := Int.emod_nonneg i h0
 have mk := Int.emod_nonneg k h0
 have li := Int.emod_lt_of_pos i hp
 have lk := Int.emod_lt_of_pos k hp
 have hq : i / f.Count ≤ k / f.Count := Int.ediv_le_ediv hp (by omega)
 unfold Z4J
 rcases Int.lt_or_eq_of_le hq with h | h
 ·have h1 := core_turn hs ht (Z1i hs h0 i).2 (Z1i hs h0 k).2 ni nk
  have h2 : (i / f.Count + 1) * f.Period ≤ k / f.Count * f.Period := Int.mul_le_mul_of_nonneg_right (by omega) hs.per.1
  rw [Int.add_mul, Int.one_mul] at h2;omega
 ·rw [h] at di ⊢;have : i % f.Count < k % f.Count := by omega
  have h1 := core_pair hs ht (j := (i % f.Count).toNat) (k := (k % f.Count).toNat) (by omega) (ZAx hs h0 i) (ZAx hs h0 k) ni nk
  omega
theorem Z0B {l : List Span} (d : Int) (hn : l ≠ []) : lstT (l.map (Zk d)) = lstT l + d ∧ fstT (l.map (Zk d)) = fstT l + d := by
 unfold lstT fstT
 rw [List.getLast?_map, List.head?_map, List.getLast?_eq_some_getLast hn, List.head?_eq_some_head hn]
 exact ⟨rfl, rfl⟩
theorem under_some {f : Form} (hl : Lim f) (hs : Shape f) {i k : Int} (hk : In64 k) (hik : i < k) (ti : ZM i) (ni : ZQ f i ≠ []) : ∃ j, Under f k (j, true) ∧ i ≤ j := by
 obtain ⟨r, _, h⟩ := Z58 hl hs hk
 obtain ⟨j, b⟩ := r
 have h' := h
 rcases h with ⟨rfl, h1, h2, h3, h4⟩ | ⟨rfl, _, h4⟩
 ·refine ⟨j, h', ?_⟩;apply Classical.byContradiction;intro hc;exact ni (h4 i hik (by simp only; omega) ti)
 ·exact absurd (h4 i hik ti) ni
theorem above_some {f : Form} (hl : Lim f) (hs : Shape f) {i k : Int} (hk : In64 k) (hik : k < i) (ti : ZM i) (ni : ZQ f i ≠ []) : ∃ j, Above f k (j, true) ∧ j ≤ i := by
 obtain ⟨r, _, h⟩ := Z59 hl hs hk
 obtain ⟨j, b⟩ := r
 have h' := h
 rcases h with ⟨rfl, h1, h2, h3, h4⟩ | ⟨rfl, _, h4⟩
 ·refine ⟨j, h', ?_⟩;apply Classical.byContradiction;intro hc;exact ni (h4 i hik (by simp only; omega) ti)
 ·exact absurd (h4 i hik ti) ni
theorem RightF.order {f : Form} (hl : Lim f) (hr : RightF f) : ∀ (n : Nat) (i k : Int), (k - i).toNat = n → i < k → ZM i → ZM k → fits f i → fits f k → ZQ f i ≠ [] → ZQ f k ≠ [] → lstT (ZQ f i) < fstT (ZQ f k) := by
 have hs := hr.shape
 intro n
 induction n using Nat.strongRecOn with
 | _ n ih =>
  intro i k hn hik ti tk fi fk ni nk
  by_cases ok : Z06 f k
  ·obtain ⟨g, hg, rfl⟩ := ok
   obtain ⟨j, hj, hij⟩ := under_some hl hs (Z33 tk) hik ti ni
   obtain ⟨hi', _, hab⟩ := Z59 hl hs (Z33 tk)
   obtain ⟨_, hlo, _, _⟩ := hr.beside g hg _ _ hj hab
   obtain ⟨fj, aj⟩ := hlo rfl
   have hj2 := hj
   rcases hj2 with ⟨_, j1, j2, j3, j4⟩ | ⟨h, _⟩
   ·simp only at fj aj j1 j2 j3;have hjk := (ZBM j3 nk).1 aj
    by_cases hji : i = j
    ·rw [hji]; exact hjk
    ·have h1 := ih (j - i).toNat (by omega) i j rfl (by omega) ti j2 fi fj ni j3
     have h2 := Z1y (ZA1 hs fj) j3
     omega
   ·cases h
  ·by_cases oi : Z06 f i
   ·obtain ⟨g, hg, rfl⟩ := oi
    obtain ⟨j, hj, hij⟩ := above_some hl hs (Z33 ti) hik tk nk
    obtain ⟨lo', _, hun⟩ := Z58 hl hs (Z33 ti)
    obtain ⟨_, _, hhi, _⟩ := hr.beside g hg _ _ hun hj
    obtain ⟨fj, aj⟩ := hhi rfl
    have hj2 := hj
    rcases hj2 with ⟨_, j1, j2, j3, j4⟩ | ⟨h, _⟩
    ·simp only at fj aj j1 j2 j3;have hjk := (ZBM ni j3).1 aj
     by_cases hji : j = k
     ·rw [← hji]; exact hjk
     ·have h1 := ih (k - j).toNat (by omega) j k rfl (by omega) j2 tk fj fk j3 nk
      have h2 := Z1y (ZA1 hs fj) j3
      omega
    ·cases h
   ·have h0 : f.Count ≠ 0 := fun h => ni (Z1g oi h)
    have ni' := fun h => ni ((Z27 oi h0).2 h)
    have nk' := fun h => nk ((Z27 ok h0).2 h)
    rw [Z2Z oi h0, Z2Z ok h0, (Z0B _ ni').1, (Z0B _ nk').2];exact ZBI hs hr.turns h0 hik ni' nk'
end Go.Dn

namespace Go.Dn
open Go
theorem Above.tick {f : Form} {i : Int} {r : Int × Bool} (h : Above f i r) (hr : r.2 = true) : i < r.1 ∧ ZM r.1 ∧ ZQ f r.1 ≠ [] ∧ ∀ k, i < k → k < r.1 → ZM k → ZQ f k = [] := by
 rcases h with ⟨_, h1, h2, h3, h4⟩ | ⟨h, _⟩
 ·exact ⟨h1, h2, h3, h4⟩
 ·rw [hr] at h; cases h
theorem Under.tick {f : Form} {i : Int} {r : Int × Bool} (h : Under f i r) (hr : r.2 = true) : r.1 < i ∧ ZM r.1 ∧ ZQ f r.1 ≠ [] ∧ ∀ k, k < i → r.1 < k → ZM k → ZQ f k = [] := by
 rcases h with ⟨_, h1, h2, h3, h4⟩ | ⟨h, _⟩
 ·exact ⟨h1, h2, h3, h4⟩
 ·rw [hr] at h; cases h
end Go.Dn

namespace Go.Dn
open Go
theorem eqf_loop {α β : Type} {a : List α} {b : List β} {step : Int → Option (Int ⊕ Jx Unit Bool)} {eq : α → β → Option Bool} (P : α → β → Prop)
  (hl : (a.length : Int) < 9223372036854775807) (hab : a.length = b.length)
  (heq : ∀ (k : Nat) x y, a[k]? = some x → b[k]? = some y → ∃ r, eq x y = some r ∧ (r = true ↔ P x y))
  (hstep : ∀ s, step s = bif decide (s < (a.length : Int)) then (at? a s).bind fun x1 => (at? b s).bind fun x2 => (eq x1 x2).bind fun x3 => bif (!x3) then some (.inr (.ret false)) else some (.inl (w64 (s + 1))) else some (.inr (.go ()))) :
  (ZF step 0 = some (.go ()) ∧ ∀ (k : Nat) x y, a[k]? = some x → b[k]? = some y → P x y) ∨ (ZF step 0 = some (.ret false) ∧ ¬ ∀ (k : Nat) x y, a[k]? = some x → b[k]? = some y → P x y) := by
 rcases Z49 (l := a) (step := step) (fun k x => ∀ y, b[k]? = some y → P x y) (no := .ret false) (yes := .go ()) (fun k x hk hp => by
  have hlt := (List.getElem?_eq_some_iff.1 hk).1
  have hat : at? a (k : Int) = some x := by rw [at?_nat hlt]; rw [List.getElem?_eq_getElem hlt] at hk; exact hk
  have hbt : at? b (k : Int) = some (b[k]'(by omega)) := at?_nat (by omega)
  have hbk : b[k]? = some (b[k]'(by omega)) := List.getElem?_eq_getElem (by omega)
  obtain ⟨r, h1, h2⟩ := heq k x _ hk hbk
  rw [hstep, Zg (show (k : Int) < a.length by omega), cond_true, hat, hbt, ZS (show _ by omega)]
  simp only [Option.bind_some, h1];cases r with
  | true => exact .inl ⟨rfl, fun y hy => by rw [hbk] at hy; cases hy; exact h2.1 rfl⟩
  | false => exact .inr ⟨rfl, fun h => by have := h2.2 (h _ hbk); cases this⟩) (by
  rw [hstep, Zs (by omega)]; rfl) with ⟨h1, h2⟩ | ⟨h1, h2⟩
 ·exact .inl ⟨h1, fun k x y hx hy => h2 k x hx y hy⟩
 ·exact .inr ⟨h1, fun h => h2 fun k x hx y hy => h k x y hx hy⟩
theorem ZA8 {a b : List Span} {d : Int} (hl : a.length = b.length) : (∀ (k : Nat) x y, a[k]? = some x → b[k]? = some y → y.From - x.From = d ∧ y.To - x.To = d) ↔ b = a.map (Zk d) := by
 constructor
 ·intro h;apply List.ext_getElem?;intro k
  by_cases hk : k < a.length
  ·have h1 : a[k]? = some a[k] := List.getElem?_eq_getElem hk
   have h2 : b[k]? = some (b[k]'(by omega)) := List.getElem?_eq_getElem (by omega)
   rw [h2, List.getElem?_map, h1];obtain ⟨q1, q2⟩ := h k _ _ h1 h2
   simp only [Option.map_some, Zk, Option.some.injEq];generalize b[k]'(by omega) = y at q1 q2 ⊢
   obtain ⟨y1, y2⟩ := y
   simp only at q1 q2;simp only [Span.mk.injEq];omega
  ·rw [List.getElem?_eq_none (by omega), List.getElem?_eq_none (by simp; omega)]
 ·rintro rfl k x y hx hy;rw [List.getElem?_map, hx] at hy;simp only [Option.map_some, Option.some.injEq] at hy;subst hy;simp only [Zk];omega
theorem Z9H {a b : List Span} {d : Int} (ha : RightL a) (hb : RightL b) (hl : Len a) : ∃ r, Z20 a b d = some r ∧ (r = true ↔ b = a.map (Zk d)) := by
 have hl' : (a.length : Int) < 9223372036854775807 := by have := Z2A; unfold Len at hl; omega
 unfold Z20 ZE
 by_cases hlen : a.length = b.length
 ·rw [bne_f (by omega), cond_false]
  have tk : ∀ {l : List Span}, RightL l → ∀ (k : Nat) s, l[k]? = some s → ZM s.From ∧ ZM s.To := fun {l} h k s hs => by
   have := Z61.1 h k s hs
   unfold Z4H at this;exact ⟨this.1, this.2.1⟩
  rcases eqf_loop (a := a) (b := b) (step := ZE.s0 a b (fun z0 z1 => some (Z1J z0 z1 d))) (eq := fun z0 z1 => some (Z1J z0 z1 d)) (fun x y => y.From - x.From = d ∧ y.To - x.To = d) hl' hlen (fun k x y hx hy => by
   refine ⟨_, rfl, ?_⟩;obtain ⟨x1, x2⟩ := tk ha k x hx
   obtain ⟨y1, y2⟩ := tk hb k y hy
   unfold ZM at x1 x2 y1 y2;unfold Z1J;rw [ZS (by omega), ZS (by omega)]
   simp) (fun s => rfl) with ⟨h1, h2⟩ | ⟨h1, h2⟩
  ·rw [h1];exact ⟨true, rfl, ⟨fun _ => (ZA8 hlen).1 h2, fun _ => rfl⟩⟩
  ·rw [h1];refine ⟨false, rfl, by simp only [Bool.false_eq_true, false_iff]; exact fun h => h2 ((ZA8 hlen).2 h)⟩
 ·rw [bne_t (by omega), cond_true]
  refine ⟨false, rfl, by simp only [Bool.false_eq_true, false_iff]; rintro rfl; exact hlen (by simp)⟩
end Go.Dn

namespace Go.Dn
open Go
noncomputable def cs (f : Form) (i : Int) : List Span := (Z0r f i).map (Zk (Z4J f i))
theorem Z1W (l : List Span) (a b : Int) : (l.map (Zk a)).map (Zk b) = l.map (Zk (a + b)) := by
 rw [List.map_map]
 congr 1
 funext s
 simp only [Function.comp, Zk, Span.mk.injEq]
 omega
theorem shift_inj {a b : List Span} {d : Int} (h : a.map (Zk d) = b.map (Zk d)) : a = b := by
 have := congrArg (List.map (Zk (-d))) h
 rw [Z1W, Z1W, Int.add_right_neg, Z8K, Z8K] at this
 exact this
theorem Z5u {f : Form} (h0 : f.Count ≠ 0) (i : Int) : cs f (i + f.Count) = (cs f i).map (Zk f.Period) := by
 unfold cs Z0r Z4J
 rw [Z1W, Int.add_emod_right, Int.add_ediv_of_dvd_right (Int.dvd_refl _), Int.ediv_self h0, Int.add_mul, Int.one_mul]
theorem Z60 {f : Form} (h0 : f.Count ≠ 0) (i k : Int) : cs f (i + f.Count * k) = (cs f i).map (Zk (k * f.Period)) := by
 unfold cs Z0r Z4J
 rw [Z1W, Int.add_mul_emod_self_left, Int.add_mul_ediv_left _ _ h0, Int.add_mul]
theorem Z37 {f : Form} {i : Int} (h0 : 0 ≤ i) (h1 : i < f.Count) : cs f i = f.Core.getD i.toNat [] := by
 unfold cs Z0r Z4J
 rw [Int.emod_eq_of_lt h0 h1, Int.ediv_eq_zero_of_lt h0 h1, Int.zero_mul, Z8K]
def TurnZ (f : Form) (d q : Int) : Prop := ∀ i, cs f (i + d) = (cs f i).map (Zk q)
theorem turn_of {f : Form} (h0 : 0 < f.Count) {d q : Int} (h : ∀ i, 0 ≤ i → i < f.Count → cs f (i + d) = (cs f i).map (Zk q)) : TurnZ f d q := by
 intro i
 have e : i = i % f.Count + f.Count * (i / f.Count) := (Int.emod_add_mul_ediv i f.Count).symm
 have h1 := h (i % f.Count) (Int.emod_nonneg i (by omega)) (Int.emod_lt_of_pos i h0)
 have e2 : i + d = (i % f.Count + d) + f.Count * (i / f.Count) := by omega
 rw [e2, Z60 (by omega), h1]
 conv => rhs; rw [e, Z60 (by omega)]
 rw [Z1W, Z1W, Int.add_comm]
def Z5h (f : Form) (d k : Int) : Int := if k + d ≥ f.Count then k + d - f.Count else k + d
def Z6u (f : Form) (d k : Int) : Int := if k + d ≥ f.Count then f.Period else 0
theorem wrap_cs {f : Form} {d k : Int} (hd : 1 ≤ d) (hdn : d ≤ f.Count) (h0 : 0 ≤ k) (h1 : k < f.Count) : 0 ≤ Z5h f d k ∧ Z5h f d k < f.Count ∧ cs f (k + d) = (cs f (Z5h f d k)).map (Zk (Z6u f d k)) := by
 unfold Z5h Z6u
 by_cases h : k + d ≥ f.Count
 ·rw [if_pos h, if_pos h];refine ⟨by omega, by omega, ?_⟩
  rw [← Z5u (by omega)]
  congr 1; omega
 ·rw [if_neg h, if_neg h, Z8K];exact ⟨by omega, by omega, rfl⟩
theorem canon_turn_eq {f : Form} (hl : Lim f) (hs : Shape f) {d q : Int} (hd : 1 ≤ d) (hdn : d ≤ f.Count) (hq : 0 ≤ q ∧ q ≤ 1099511627776) : ∃ r, Z0l f d q = some r ∧ (r = true ↔ TurnZ f d q) := by
 have hcl : (f.Core.length : Int) < 4611686018427387904 := Z30 (b := 23) hl.core
 have hcnt := hs.count
 have key : ∀ k : Int, 0 ≤ k → k < f.Count → (cs f (Z5h f d k) = (cs f k).map (Zk (q - Z6u f d k)) ↔ cs f (k + d) = (cs f k).map (Zk q)) := fun k k0 k1 => by
  obtain ⟨_, _, h⟩ := wrap_cs hd hdn k0 k1
  rw [h]
  constructor
  ·intro e;rw [e, Z1W]
   congr 2; omega
  ·intro e;apply shift_inj (d := Z6u f d k)
   rw [e, Z1W]
   congr 2; omega
 unfold Z0l
 rcases Z49 (l := f.Core) (step := Z0l.s0 f d q) (fun k x => cs f (Z5h f d k) = x.map (Zk (q - Z6u f d k))) (no := .ret false) (yes := .go ()) (fun k x hk hp => by
  have hlt := (List.getElem?_eq_some_iff.1 hk).1
  have hat : at? f.Core (k : Int) = some x := by rw [at?_nat hlt]; rw [List.getElem?_eq_getElem hlt] at hk; exact hk
  obtain ⟨w0, w1, _⟩ := wrap_cs (f := f) (k := (k : Int)) hd hdn (by omega) (by omega)
  have hx := hs.core x (List.mem_of_getElem? hk)
  have hlx := (hl.sets x (List.mem_of_getElem? hk)).1
  have hwl : (Z5h f d k).toNat < f.Core.length := by omega
  have hgw : cs f (Z5h f d k) = f.Core[(Z5h f d k).toNat] := by rw [Z37 w0 w1, List.getD_eq_getElem?_getD, List.getElem?_eq_getElem hwl]; rfl
  have hy := hs.core _ (List.getElem_mem hwl)
  have hat2 : at? f.Core (Z5h f d k) = some f.Core[(Z5h f d k).toNat] := at?_lt w0 (by omega)
  have hpk : (bif decide (w64 ((k : Int) + d) ≥ f.Count) then some (w64 (w64 ((k : Int) + d) - f.Count), f.Period) else some (w64 ((k : Int) + d), 0)) = some (Z5h f d k, Z6u f d k) := by
   rw [ZS (show _ by omega)]
   unfold Z5h Z6u
   by_cases h : (k : Int) + d ≥ f.Count
   ·rw [Zg h, cond_true, if_pos h, if_pos h, ZS (show _ by omega)]
   ·rw [Zs h, cond_false, if_neg h, if_neg h]
  obtain ⟨r, h1, h2⟩ := Z9H (d := q - Z6u f d k) hx hy hlx
  have hwp : 0 ≤ Z6u f d k ∧ Z6u f d k ≤ 1099511627776 := by have := hs.per; unfold Z6u; split <;> omega
  unfold Z0l.s0;rw [Zg (show (k : Int) < f.Core.length by omega), cond_true, hat]
  simp only [Option.bind_some, hpk, hat2];rw [ZS (show _ by omega), h1]
  simp only [Option.bind_some];rw [hgw];cases r with
  | true => exact .inl ⟨by simp only [Bool.not_true, cond_false, Option.bind_some, Jx.elim]; rw [ZS (show _ by omega)], h2.1 rfl⟩
  | false => exact .inr ⟨rfl, fun h => by have := h2.2 h; cases this⟩) (by
  unfold Z0l.s0; rw [Zs (by omega)]; rfl) with ⟨h1, h2⟩ | ⟨h1, h2⟩
 ·rw [h1];refine ⟨true, rfl, ⟨fun _ => turn_of (by omega) fun i i0 i1 => ?_, fun _ => rfl⟩⟩
  have hlt : i.toNat < f.Core.length := by omega
  have := h2 i.toNat _ (List.getElem?_eq_getElem hlt)
  rw [Int.toNat_of_nonneg i0] at this;refine (key i i0 i1).1 ?_;rw [this, Z37 i0 i1, List.getD_eq_getElem?_getD, List.getElem?_eq_getElem hlt]; rfl
 ·rw [h1];refine ⟨false, rfl, ⟨(fun h => nomatch h), fun ht => absurd (fun k x hk => ?_) h2⟩⟩
  have hlt := (List.getElem?_eq_some_iff.1 hk).1
  have := (key k (by omega) (by omega)).2 (ht k)
  rw [this, Z37 (by omega) (by omega), List.getD_eq_getElem?_getD, Int.toNat_natCast, hk]; rfl
end Go.Dn

namespace Go.Dn
open Go
structure Good (f : Form) (d : Int) : Prop where
 pos : 1 ≤ d
 dvd : d ∣ f.Count
 rest : f.Period % (f.Count / d) = 0
 turn : TurnZ f d (f.Period / (f.Count / d))
theorem good_self {f : Form} (h0 : 0 < f.Count) : Good f f.Count := by
 have e : f.Count / f.Count = 1 := Int.ediv_self (by omega)
 exact ⟨by omega, Int.dvd_refl _, by rw [e]; omega, by rw [e, Int.ediv_one]; exact Z5u (by omega)⟩
theorem copy_loop {x4 : List (List Span)} (hc : x4.length * 24 ≤ reachBytes) (hs : ∀ l ∈ x4, Len l) : ZF (Zr.s1 x4) (0, []) = some x4 := by
 have hcl : (x4.length : Int) < 4611686018427387904 := Z30 (b := 23) hc
 have hr := Z2A
 have hro := Z8s
 refine Z2B (I := fun s r => r = x4 ∧ ∃ k : Nat, k ≤ x4.length ∧ s = ((k : Int), x4.take k)) (fun s => x4.length - s.1.toNat) ?_ ⟨rfl, 0, Nat.zero_le _, rfl⟩
 rintro s r ⟨rfl, k, hk, rfl⟩
 unfold Zr.s1
 by_cases hlt : k < r.length
 ·left
  have hl := hs _ (List.getElem_mem hlt)
  unfold Len at hl;have hcp : clone? 16 r[k] = some r[k] := by unfold clone?; rw [if_pos (by omega)]
  have hap : app? 24 (r.take k) [r[k]] = some (r.take (k + 1)) := by
   rw [app?_ok (by simp only [List.length_take, List.length_cons, List.length_nil]; have : min k r.length + 1 ≤ r.length := (by omega); have := Nat.mul_le_mul_right 24 this; omega)]
   rw [List.take_append_getElem hlt]
  refine ⟨((k : Int) + 1, r.take (k + 1)), ?_, ⟨rfl, k + 1, hlt, by push_cast; rfl⟩, by simp; omega⟩
  rw [Zg (show (k : Int) < r.length by omega), cond_true, at?_nat hlt]
  simp only [Option.bind_some, hcp, hap];rw [ZS (show _ by omega)]
 ·right
  have : k = r.length := by omega
  subst this;rw [Zs (show ¬ ((r.length : Int) < r.length) by omega), cond_false, List.take_length]
theorem core_b0_eq {f : Form} (hl : Lim f) (hs : Shape f) {d : Int} (hd : 1 ≤ d) (hdn : d ∣ f.Count) (h0 : 0 < f.Count) :
  (Good f d ∧ Zr.b0 f ([], 0, 0) d = some ((f.Core.take d.toNat, f.Period / (f.Count / d), d), 1)) ∨ (¬ Good f d ∧ Zr.b0 f ([], 0, 0) d = some (([], 0, 0), 0)) := by
 have hle : d ≤ f.Count := Int.le_of_dvd h0 hdn
 have hcl : (f.Core.length : Int) < 4611686018427387904 := Z30 (b := 23) hl.core
 have hcnt := hs.count
 have hm : 0 < f.Count / d := Int.ediv_pos_of_pos_of_dvd h0 (by omega) hdn
 have hmle : f.Count / d ≤ f.Count := Int.ediv_le_self _ (by omega)
 have htd : f.Count.tdiv d = f.Count / d := Int.tdiv_eq_ediv_of_nonneg (by omega)
 have hq : 0 ≤ f.Period / (f.Count / d) ∧ f.Period / (f.Count / d) ≤ 1099511627776 := by
  have h1 := hs.per
  have h2 : f.Period / (f.Count / d) ≤ f.Period := Int.ediv_le_self _ h1.1
  have h3 : 0 ≤ f.Period / (f.Count / d) := Int.ediv_nonneg h1.1 (by omega)
  omega
 have hfl : Z0P f.Period (w64 (f.Count.tdiv d)) = some (f.Period / (f.Count / d), f.Period % (f.Count / d), 0) := by
  rw [htd, ZS (show _ by omega), Z2O hl.period (by unfold In64; omega), Z40 hm]
 unfold Zr.b0
 rw [nz?_ok (by omega), hfl]
 simp only [Option.bind_some]
 by_cases hr : f.Period % (f.Count / d) = 0
 ·rw [bne_f hr, cond_false];obtain ⟨r, h1, h2⟩ := canon_turn_eq hl hs hd hle hq
  rw [h1];cases r with
  | true =>
   left
   refine ⟨⟨hd, hdn, hr, h2.1 rfl⟩, ?_⟩;have hcut : cut? f.Core 0 d = some (f.Core.take d.toNat) := by
    unfold cut?;rw [if_pos ⟨by omega, by omega, by omega⟩]
    rfl
   simp only [Option.bind_some, Bool.not_true, cond_false, hcut];have := copy_loop (x4 := f.Core.take d.toNat) (by have := hl.core; simp only [List.length_take]; have h := Nat.mul_le_mul_right 24 (Nat.min_le_right d.toNat f.Core.length); omega) (fun l hl' => (hl.sets l (List.mem_of_mem_take hl')).1)
   rw [this]
   rfl
  | false =>
   right
   exact ⟨fun g => (by have := h2.2 g.turn; cases this), rfl⟩
 ·right
  refine ⟨fun g => hr g.rest, ?_⟩
  rw [bne_t hr]
  rfl
theorem least_good {f : Form} (h0 : 0 < f.Count) : ∃ d, Good f d ∧ ∀ d', Good f d' → d ≤ d' := by
 have : ∃ n : Nat, Good f n := ⟨f.Count.toNat, by rw [Int.toNat_of_nonneg (by omega)]; exact good_self h0⟩
 obtain ⟨n, hn⟩ := this
 induction n using Nat.strongRecOn with
 | _ n ih =>
  by_cases h : ∃ m : Nat, m < n ∧ Good f m
  ·obtain ⟨m, h1, h2⟩ := h
   exact ih m h1 h2
  ·refine ⟨n, hn, fun d' hd' => ?_⟩
   apply Classical.byContradiction;intro hlt;have := hd'.pos
   exact h ⟨d'.toNat, by omega, by rw [Int.toNat_of_nonneg (by omega)]; exact hd'⟩
theorem canon_bare_eq {f : Form} (hl : Lim f) : Z3O f = Z2p f := by
 unfold Z3O Z2p
 rfl
theorem canon_core_eq {f : Form} (hl : Lim f) (hs : Shape f) : (Bare f ∧ Zr f = some (Form.mk 0 0 [] [])) ∨
  (¬ Bare f ∧ 0 < f.Count ∧ ∃ d, Good f d ∧ (∀ d', Good f d' → d ≤ d') ∧ Zr f = some (Form.mk (f.Period / (f.Count / d)) d (f.Core.take d.toNat) [])) := by
 have hcl : (f.Core.length : Int) < 4611686018427387904 := Z30 (b := 23) hl.core
 have hcnt := hs.count
 obtain ⟨b, h1, h2⟩ := Z6D hl
 unfold Zr
 rw [canon_bare_eq hl, h1]
 cases b with
 | true => exact .inl ⟨h2.1 rfl, rfl⟩
 | false =>
  right
  have hnb : ¬ Bare f := fun h => by have := h2.2 h; cases this
  have h0 : 0 < f.Count := by
   rcases Nat.eq_zero_or_pos f.Core.length with h | h
   ·exact absurd (fun l hl' => by rw [List.length_eq_zero_iff.1 h] at hl'; cases hl') hnb
   ·omega
  obtain ⟨d, hg, hmin⟩ := least_good h0
  refine ⟨hnb, h0, d, hg, hmin, ?_⟩;have hdn : d ≤ f.Count := Int.le_of_dvd h0 hg.dvd
  have hd1 := hg.pos
  have hloop : ZF (Zx.s0 f.Count (Z31 (Zr.b0 f))) (1, (([], 0, 0), 0)) = some (.ret ((f.Core.take d.toNat, f.Period / (f.Count / d), d), 1)) := by
   refine Z2B (I := fun s r => r = .ret ((f.Core.take d.toNat, f.Period / (f.Count / d), d), 1) ∧ ∃ k : Int, 1 ≤ k ∧ k ≤ d ∧ s = (k, (([], 0, 0), 0))) (fun s => (d - s.1).toNat) ?_ ⟨rfl, 1, by omega, hd1, rfl⟩
   rintro s r ⟨rfl, k, k1, k2, rfl⟩;unfold Zx.s0;rw [Zg (show k ≤ f.Count by omega), cond_true, nz?_ok (by omega)]
   simp only [Option.bind_some]
   by_cases hkd : k ∣ f.Count
   ·rw [beq_t (show f.Count.tmod k = 0 from Int.tmod_eq_zero_of_dvd hkd), cond_true]
    rcases core_b0_eq hl hs k1 hkd h0 with ⟨g, e⟩ | ⟨g, e⟩
    ·have : k = d := by have := hmin k g; omega
     subst this
     right
     simp only [Z31, if_true, e, Option.map_some, Option.bind_some]
     rfl
    ·left
     have hne : k ≠ d := fun h => g (h ▸ hg)
     refine ⟨(k + 1, (([], 0, 0), 0)), ?_, ⟨trivial, k + 1, by omega, by omega, rfl⟩, by simp; omega⟩
     simp only [Z31, if_true, e, Option.map_some, Option.bind_some];rw [ZS (show _ by omega)]
     rfl
   ·left
    have hne : k ≠ d := fun h => hkd (h ▸ hg.dvd)
    refine ⟨(k + 1, (([], 0, 0), 0)), ?_, ⟨trivial, k + 1, by omega, by omega, rfl⟩, by simp; omega⟩
    rw [beq_f (fun h => hkd (Int.dvd_of_tmod_eq_zero h)), cond_false]
    simp only [Option.bind_some, cond_false];rw [ZS (show _ by omega)]
  unfold Zx;rw [hloop]
  rfl
end Go.Dn

namespace Go.Dn
open Go
def Turn (h : Int → List Span) (d q : Int) : Prop := ∀ i, h (i + d) = (h i).map (Zk q)
theorem Turn.neg {h : Int → List Span} {d q : Int} (t : Turn h d q) : Turn h (-d) (-q) := fun i => by
 have := t (i + -d)
 rw [show i + -d + d = i by omega] at this
 rw [this, Z1W, Int.add_right_neg, Z8K]
theorem Turn.add {h : Int → List Span} {d q d' q' : Int} (t : Turn h d q) (t' : Turn h d' q') : Turn h (d + d') (q + q') := fun i => by
 rw [show i + (d + d') = (i + d) + d' by omega, t', t, Z1W]
theorem Turn.zero (h : Int → List Span) : Turn h 0 0 := fun i => by rw [Int.add_zero, Z8K]
theorem Turn.nat {h : Int → List Span} {d q : Int} (t : Turn h d q) : ∀ k : Nat, Turn h (k * d) (k * q)
 | 0 => by simpa using Turn.zero h
 | k + 1 => by
  have := (Turn.nat t k).add t
  push_cast
  rw [Int.add_mul, Int.one_mul, Int.add_mul, Int.one_mul];exact this
theorem Turn.mul {h : Int → List Span} {d q : Int} (t : Turn h d q) (k : Int) : Turn h (k * d) (k * q) := by
 rcases Int.natAbs_eq k with e | e
 ·rw [e]; exact t.nat _
 ·rw [e, Int.neg_mul, Int.neg_mul]; exact (t.nat _).neg
theorem Turn.agree {h h' : Int → List Span} {d q a : Int} (t : Turn h d q) (t' : Turn h' d q) (hd : 0 < d) (he : ∀ i, a ≤ i → i < a + d → h i = h' i) : h = h' := by
 funext i
 have e : i = ((i - a) % d + a) + (i - a) / d * d := by
  have := Int.emod_add_mul_ediv (i - a) d
  rw [Int.mul_comm] at this;omega
 have h1 := Int.emod_nonneg (i - a) (show d ≠ 0 by omega)
 have h2 := Int.emod_lt_of_pos (i - a) hd
 rw [e, t.mul, t'.mul, he _ (by omega) (by omega)]
noncomputable def csz (f : Form) (i : Int) : List Span := if f.Count = 0 then [] else cs f i
theorem Z2U {f : Form} (h0 : 0 < f.Count) : csz f = cs f := by funext i; exact if_neg (by omega)
theorem Z2u {f : Form} {i : Int} (h : ¬ Z06 f i) : ZQ f i = csz f i := by
 unfold csz
 by_cases h0 : f.Count = 0
 ·rw [if_pos h0, Z1g h h0]
 ·rw [if_neg h0, Z2Z h h0]; rfl
theorem csz_bare {f : Form} (hs : Shape f) (hb : Bare f) (i : Int) : csz f i = [] := by
 unfold csz
 by_cases h0 : f.Count = 0
 ·rw [if_pos h0]
 ·rw [if_neg h0]; unfold cs; rw [hb _ (Z1i hs h0 i).2]; rfl
def Z21 (f c : Form) : Prop := (Bare f ∧ c = Form.mk 0 0 [] []) ∨ (¬ Bare f ∧ 0 < f.Count ∧ ∃ d, Good f d ∧ (∀ d', Good f d' → d ≤ d') ∧ c = Form.mk (f.Period / (f.Count / d)) d (f.Core.take d.toNat) [])
theorem canon_core_ok {f : Form} (hl : Lim f) (hs : Shape f) : ∃ c, Zr f = some c ∧ Z21 f c := by
 rcases canon_core_eq hl hs with ⟨h1, h2⟩ | ⟨h1, h2, d, h3, h4, h5⟩
 ·exact ⟨_, h2, .inl ⟨h1, rfl⟩⟩
 ·exact ⟨_, h5, .inr ⟨h1, h2, d, h3, h4, rfl⟩⟩
theorem Z21.odd {f c : Form} (h : Z21 f c) : c.Odd = [] := by
 rcases h with ⟨_, rfl⟩ | ⟨_, _, d, _, _, rfl⟩ <;> rfl
theorem Z21.csz {f c : Form} (hs : Shape f) (h : Z21 f c) : csz c = csz f := by
 rcases h with ⟨hb, rfl⟩ | ⟨hb, h0, d, hg, _, rfl⟩
 ·funext i; rw [csz_bare hs hb]; rfl
 ·have hd := hg.pos
  have hdn : d ≤ f.Count := Int.le_of_dvd h0 hg.dvd
  have hcnt := hs.count
  rw [Z2U h0, Z2U (show 0 < (Form.mk (f.Period / (f.Count / d)) d (f.Core.take d.toNat) []).Count by show 0 < d; omega)]
  refine Turn.agree (a := 0) (d := d) (q := f.Period / (f.Count / d)) (Z5u (f := Form.mk (f.Period / (f.Count / d)) d (f.Core.take d.toNat) []) (show d ≠ 0 by omega)) hg.turn (by omega) (fun i i0 i1 => ?_)
  rw [Z37 i0 (show i < d by omega), Z37 i0 (by omega)]
  show (f.Core.take d.toNat).getD i.toNat [] = _
  rw [List.getD_eq_getElem?_getD, List.getD_eq_getElem?_getD, List.getElem?_take_of_lt (by omega)]
theorem Z21.shape {f c : Form} (hs : Shape f) (h : Z21 f c) : Shape c := by
 rcases h with ⟨hb, rfl⟩ | ⟨hb, h0, d, hg, _, rfl⟩
 ·exact ⟨rfl, by simp, by simp, by simp, by simp, fun j k a b _ h => by simp at h⟩
 ·have hd := hg.pos
  have hdn : d ≤ f.Count := Int.le_of_dvd h0 hg.dvd
  have hcnt := hs.count
  have hm : 0 < f.Count / d := Int.ediv_pos_of_pos_of_dvd h0 (by omega) hg.dvd
  have hp : 0 < f.Period := by
   have := hs.per; have := hs.zero
   rcases Int.lt_or_le 0 f.Period with h | h
   ·exact h
   ·have : f.Period = 0 := by omega
    have := hs.zero.2 this
    omega
  have hq : 0 < f.Period / (f.Count / d) := Int.ediv_pos_of_pos_of_dvd hp (by omega) (Int.dvd_of_emod_eq_zero hg.rest)
  have hq2 : f.Period / (f.Count / d) ≤ f.Period := Int.ediv_le_self _ (by omega)
  refine ⟨?_, ?_, ?_, ?_, by simp, fun j k a b _ h => by simp at h⟩
  ·simp only [List.length_take]; omega
  ·simp only; omega
  ·simp only; have := hs.per; omega
  ·intro l hl'; exact hs.core l (List.mem_of_mem_take hl')
theorem Z21.lim {f c : Form} (hl : Lim f) (hs : Shape f) (h : Z21 f c) : Lim c := by
 have hsc := h.shape hs
 have hn : c.Core.length ≤ f.Core.length ∧ ∀ l ∈ c.Core, l ∈ f.Core := by
  rcases h with ⟨hb, rfl⟩ | ⟨hb, h0, d, hg, _, rfl⟩
  ·exact ⟨Nat.zero_le _, fun l hl' => by cases hl'⟩
  ·exact ⟨by simp only [List.length_take]; omega, fun l hl' => List.mem_of_mem_take hl'⟩
 have hc := hl.core
 have h24 := Nat.mul_le_mul_right 24 hn.1
 have hp := hsc.per
 have hcnt := hsc.count
 have hcl : (f.Core.length : Int) < 4611686018427387904 := Z30 (b := 23) hl.core
 exact ⟨by omega, fun l hl' => hl.sets l (hn.2 l hl'), by rw [h.odd]; simp [Z2A], by rw [h.odd]; simp, by unfold In64; omega, by unfold In64; omega⟩
theorem Z21.ZQ {f c : Form} (hs : Shape f) (h : Z21 f c) (i : Int) : ZQ c i = Go.Dn.csz f i := by
 rw [Z2u (by rintro ⟨g, hg, _⟩; rw [h.odd] at hg; cases hg), h.csz hs]
theorem ZB8 {f c : Form} (hl : Lim f) (hs : Shape f) (h : Z21 f c) {g : Granule} (hg : g ∈ f.Odd) : ∃ r, Z2a c g = some r ∧ (r = true ↔ csz f g.Index = g.Ticks) := by
 obtain ⟨hr, ht⟩ := hs.odd g hg
 have hlc := h.lim hl hs
 have hsc := h.shape hs
 unfold Z2a
 rw [Z6x hlc hsc (Z33 ht)]
 by_cases hf : fits c g.Index
 ·rw [if_pos ⟨ht, hf⟩];obtain ⟨r, h1, h2⟩ := spans_Same_eq (a := Go.Dn.ZQ c g.Index) (b := g.Ticks) (Z9T hlc hsc _)
  refine ⟨r, ?_, ?_⟩
  ·simp only [Option.bind_some];rw [beq_t rfl, cond_true, h1]; rfl
  ·rw [h2, h.ZQ hs]
 ·rw [if_neg (fun h' => hf h'.2)]
  refine ⟨false, rfl, ⟨(fun h' => nomatch h'), fun e => absurd (fun s hs' => ?_) hf⟩⟩
  rw [h.ZQ hs, e] at hs';obtain ⟨k, hk⟩ := List.getElem?_of_mem hs'
  have := Z61.1 hr k s hk
  exact ⟨this.1, this.2.1⟩
open Classical in
noncomputable def oddly (f : Form) (g : Granule) : Bool := decide (¬ csz f g.Index = g.Ticks)
noncomputable def Z2H (f c : Form) : Form := Form.mk c.Period c.Count c.Core (f.Odd.filter (oddly f))
theorem Z5c {f : Form} (hl : Lim f) (hs : Shape f) : ∃ c, Z21 f c ∧ Zc f = some (Z2H f c) := by
 obtain ⟨c, h1, hc⟩ := canon_core_ok hl hs
 refine ⟨c, hc, ?_⟩
 unfold Zc
 rw [h1]
 simp only [Option.bind_some]
 have hol : (f.Odd.length : Int) < 4611686018427387904 := Z30 (b := 31) hl.odd
 have hr := Z2A
 have hro := Z8s
 have : ZF (Zc.s0 f c) (0, []) = some (f.Odd.filter (oddly f)) := by
  refine Z2B (I := fun s r => r = f.Odd.filter (oddly f) ∧ ∃ k : Nat, k ≤ f.Odd.length ∧ s = ((k : Int), (f.Odd.take k).filter (oddly f))) (fun s => f.Odd.length - s.1.toNat) ?_ ⟨rfl, 0, Nat.zero_le _, rfl⟩
  rintro s r ⟨rfl, k, hk, rfl⟩;unfold Zc.s0
  by_cases hlt : k < f.Odd.length
  ·left
   have hmem := List.getElem_mem hlt
   obtain ⟨r, p1, p2⟩ := ZB8 hl hs hc hmem
   have htk : f.Odd.take (k + 1) = f.Odd.take k ++ [f.Odd[k]] := (List.take_append_getElem hlt).symm
   have hlen := (hl.ticks _ hmem).2.1
   unfold Len at hlen;refine ⟨((k : Int) + 1, (f.Odd.take (k + 1)).filter (oddly f)), ?_, ⟨rfl, k + 1, hlt, by push_cast; rfl⟩, by simp; omega⟩
   rw [Zg (show (k : Int) < f.Odd.length by omega), cond_true, at?_nat hlt]
   simp only [Option.bind_some, p1];rw [ZS (show _ by omega), htk, List.filter_append]
   cases r with
   | true =>
    have : oddly f f.Odd[k] = false := by unfold oddly; rw [decide_eq_false_iff_not]; exact fun h => h (p2.1 rfl)
    simp only [Bool.not_true, cond_false, Option.bind_some, List.filter_cons, this, Bool.false_eq_true, if_false, List.filter_nil, List.append_nil]
   | false =>
    have : oddly f f.Odd[k] = true := by unfold oddly; rw [decide_eq_true_iff]; exact fun h => by have := p2.2 h; cases this
    have hcp : clone? 16 f.Odd[k].Ticks = some f.Odd[k].Ticks := by unfold clone?; rw [if_pos (by omega)]
    have hfl : ((f.Odd.take k).filter (oddly f)).length ≤ k := by
     have := List.length_filter_le (oddly f) (f.Odd.take k)
     simp only [List.length_take] at this;omega
    have hap : app? 32 ((f.Odd.take k).filter (oddly f)) [Granule.mk f.Odd[k].Index f.Odd[k].Ticks] = some ((f.Odd.take k).filter (oddly f) ++ [f.Odd[k]]) := by
     rw [app?_ok (by simp only [List.length_cons, List.length_nil]; have h3 := hl.odd; have := Nat.mul_le_mul_right 32 (show ((f.Odd.take k).filter (oddly f)).length + 1 ≤ f.Odd.length by omega); omega)]
    simp only [Bool.not_false, cond_true, Option.bind_some, hcp, hap, List.filter_cons, this, if_true, List.filter_nil]
  ·right
   have : k = f.Odd.length := by omega
   subst this;rw [Zs (show ¬ ((f.Odd.length : Int) < f.Odd.length) by omega), cond_false, List.take_length]
 rw [this]
 rfl
end Go.Dn

namespace Go.Dn
open Go
theorem form_ext {a b : Form} : a = b ↔ a.Period = b.Period ∧ a.Count = b.Count ∧ a.Core = b.Core ∧ a.Odd = b.Odd := by
 obtain ⟨a1, a2, a3, a4⟩ := a
 obtain ⟨b1, b2, b3, b4⟩ := b
 simp
end Go.Dn

namespace Go.Dn
open Go
theorem Z8m {l : List Granule} : Inc l ↔ l.Pairwise (fun a b => a.Index < b.Index) := by
 rw [List.pairwise_iff_getElem]
 constructor
 ·intro h i j hi hj hij;exact h i j _ _ hij (List.getElem?_eq_getElem hi) (List.getElem?_eq_getElem hj)
 ·intro h j k a b hjk ha hb;obtain ⟨h1, rfl⟩ := List.getElem?_eq_some_iff.1 ha
  obtain ⟨h2, rfl⟩ := List.getElem?_eq_some_iff.1 hb
  exact h j k h1 h2 hjk
theorem Inc.filter {l : List Granule} (h : Inc l) (p : Granule → Bool) : Inc (l.filter p) := Z8m.2 ((Z8m.1 h).filter p)
theorem Z4l {f c : Form} (hs : Shape f) (h : Z21 f c) : csz (Z2H f c) = csz f := by
 rw [← h.csz hs]; rfl
theorem oddly_iff {f : Form} {g : Granule} : oddly f g = true ↔ ¬ csz f g.Index = g.Ticks := by unfold oddly; rw [decide_eq_true_iff]
theorem Z3N {f c : Form} {g : Granule} : g ∈ (Z2H f c).Odd ↔ g ∈ f.Odd ∧ oddly f g = true := List.mem_filter
theorem Z68 {f c : Form} (hs : Shape f) (h : Z21 f c) : ZQ (Z2H f c) = ZQ f := by
 funext i
 by_cases ho : Z06 f i
 ·obtain ⟨g, hg, rfl⟩ := ho
  rw [Z0x hs.inc hg]
  by_cases hod : oddly f g = true
  ·exact Z0x (hs.inc.filter _) (Z3N.2 ⟨hg, hod⟩)
  ·have he : csz f g.Index = g.Ticks := Classical.byContradiction fun hn => hod (oddly_iff.2 hn)
   rw [Z2u (f := Z2H f c), Z4l hs h, he]
   rintro ⟨g', hg', e⟩;obtain ⟨m1, m2⟩ := Z3N.1 hg'
   have := hs.inc.uniq m1 hg e
   subst this;exact hod m2
 ·rw [Z2u ho, Z2u (f := Z2H f c), Z4l hs h]
  rintro ⟨g', hg', e⟩;exact ho ⟨g', (Z3N.1 hg').1, e⟩
theorem Z4e {f c : Form} (hs : Shape f) (h : Z21 f c) : Shape (Z2H f c) := by
 have := h.shape hs
 exact ⟨this.count, this.zero, this.per, this.core, fun g hg => hs.odd g (Z3N.1 hg).1, hs.inc.filter _⟩
theorem ZAe {f c : Form} (hl : Lim f) (hs : Shape f) (h : Z21 f c) : Lim (Z2H f c) := by
 have := h.lim hl hs
 refine ⟨this.core, this.sets, ?_, fun g hg => hl.ticks g (Z3N.1 hg).1, this.count, this.period⟩
 have h1 : (Z2H f c).Odd.length ≤ f.Odd.length := List.length_filter_le _ _
 have := hl.odd
 have := Nat.mul_le_mul_right 32 h1
 omega
theorem turns_of {f : Form} (hs : Shape f) (h : 0 < f.Count → ∀ i k, i < k → cs f i ≠ [] → cs f k ≠ [] → lstT (cs f i) < fstT (cs f k)) : Turns f := by
 have hcnt := hs.count
 have at_ : ∀ (j : Nat) (a : List Span), f.Core[j]? = some a → cs f j = a := fun j a ha => by
  have := (List.getElem?_eq_some_iff.1 ha).1
  rw [Z37 (by omega) (by omega), List.getD_eq_getElem?_getD, Int.toNat_natCast, ha]; rfl
 have hpw : f.Core.Pairwise (fun a b => a ≠ [] → b ≠ [] → lstT a < fstT b) := by
  rw [List.pairwise_iff_getElem];intro i j hi hj hij na nb;have h1 := at_ i _ (List.getElem?_eq_getElem hi)
  have h2 := at_ j _ (List.getElem?_eq_getElem hj)
  have := h (by omega) i j (by omega) (by rw [h1]; exact na) (by rw [h2]; exact nb)
  rw [h1, h2] at this;exact this
 constructor
 ·intro k a b ha hb;have hp := hpw.filter (fun l => decide (l.length > 0))
  rw [List.pairwise_iff_getElem] at hp;obtain ⟨h1, rfl⟩ := List.getElem?_eq_some_iff.1 ha
  obtain ⟨h2, rfl⟩ := List.getElem?_eq_some_iff.1 hb
  exact hp k (k + 1) h1 h2 (by omega) (Z38.1 (List.getElem_mem h1)).2 (Z38.1 (List.getElem_mem h2)).2
 ·intro a b ha hb;obtain ⟨ma, na⟩ := Z38.1 (List.mem_of_getLast? ha)
  obtain ⟨mb, nb⟩ := Z38.1 (List.mem_of_head? hb)
  obtain ⟨j, hj⟩ := List.getElem?_of_mem ma
  obtain ⟨k, hk⟩ := List.getElem?_of_mem mb
  have hjl := (List.getElem?_eq_some_iff.1 hj).1
  have h1 := at_ j _ hj
  have h2 := at_ k _ hk
  have h3 : cs f ((k : Int) + f.Count) = b.map (Zk f.Period) := by rw [Z5u (by omega), h2]
  have := h (by omega) j ((k : Int) + f.Count) (by omega) (by rw [h1]; exact na) (by rw [h3]; simpa using nb)
  rw [h1, h3, (Z0B _ nb).2] at this;exact this
theorem csz_order {f : Form} (hs : Shape f) (ht : Turns f) {i k : Int} (hik : i < k) (ni : csz f i ≠ []) (nk : csz f k ≠ []) : lstT (csz f i) < fstT (csz f k) := by
 have h0 : f.Count ≠ 0 := fun h => ni (by unfold csz; rw [if_pos h])
 unfold csz at ni nk ⊢
 rw [if_neg h0] at ni nk ⊢
 rw [if_neg h0]
 have n1 : Z0r f i ≠ [] := fun h => ni (by unfold cs; rw [h]; rfl)
 have n2 : Z0r f k ≠ [] := fun h => nk (by unfold cs; rw [h]; rfl)
 have := ZBI hs ht h0 hik n1 n2
 unfold cs
 rw [(Z0B _ n1).1, (Z0B _ n2).2]
 exact this
theorem beside_congr {f g : Form} (h : ZQ g = ZQ f) {i : Int} (hb : Beside f i) : Beside g i := by
 intro lo hi hlo hhi
 have hu : Under f i lo := by unfold Under at hlo ⊢; rw [h] at hlo; exact hlo
 have ha : Above f i hi := by unfold Above at hhi ⊢; rw [h] at hhi; exact hhi
 have := hb lo hi hu ha
 unfold BesideR fits at this ⊢
 rw [h]
 exact this
theorem Z8P {f c : Form} (hr : RightF f) (h : Z21 f c) : RightF (Z2H f c) := by
 have hs := hr.shape
 refine ⟨Z4e hs h, turns_of (Z4e hs h) (fun h0 i k hik ni nk => ?_), fun g hg => beside_congr (Z68 hs h) (hr.beside g (Z3N.1 hg).1)⟩
 rw [← Z2U h0, Z4l hs h] at ni nk ⊢
 exact csz_order hs hr.turns hik ni nk
theorem canonF_fix {f c : Form} (hs : Shape f) (h : Z21 f c) : Z21 (Z2H f c) c ∧ Z2H (Z2H f c) c = Z2H f c := by
 have hcz := Z4l hs h
 have hodd : (Z2H f c).Odd.filter (oddly (Z2H f c)) = (Z2H f c).Odd := by
  rw [List.filter_eq_self];intro g hg;have := (Z3N.1 hg).2
  rw [oddly_iff] at this ⊢;rw [hcz]; exact this
 have hco := h.odd
 refine ⟨?_, by unfold Z2H at hodd ⊢; rw [form_ext]; exact ⟨rfl, rfl, rfl, hodd⟩⟩
 rcases h with ⟨hb, rfl⟩ | ⟨hb, h0, d, hg, hmin, rfl⟩
 ·exact .inl ⟨(fun l hl => by cases hl), rfl⟩
 ·right
  have hd := hg.pos
  have hdn : d ≤ f.Count := Int.le_of_dvd h0 hg.dvd
  have hcnt := hs.count
  generalize hc' : Z2H f (Form.mk (f.Period / (f.Count / d)) d (f.Core.take d.toNat) []) = c' at hcz;have e1 : c'.Count = d := by rw [← hc']; rfl
  have e2 : c'.Period = f.Period / (f.Count / d) := by rw [← hc']; rfl
  have e3 : c'.Core = f.Core.take d.toNat := by rw [← hc']; rfl
  have hcs : cs c' = cs f := by rw [← Z2U (show 0 < c'.Count by omega), ← Z2U h0, hcz]
  have hlen : (f.Core.take d.toNat).length = d.toNat := by rw [List.length_take]; omega
  have good_up : ∀ d', Good c' d' → Good f d' := fun d' g => by
   have q1 := g.pos
   have q2 := g.dvd
   have q3 := g.rest
   have q4 := g.turn
   rw [e1] at q2 q3 q4;rw [e2] at q3 q4;have hdd : d' ∣ f.Count := Int.dvd_trans q2 hg.dvd
   obtain ⟨a, ha⟩ := q2
   obtain ⟨b, hb'⟩ := hg.dvd
   have hbp : 0 < b := by
    rcases Int.lt_or_le 0 b with h | h
    ·exact h
    ·have : d * b ≤ 0 := Int.mul_nonpos_of_nonneg_of_nonpos (by omega) h
     omega
   have hap : 0 < a := by
    rcases Int.lt_or_le 0 a with h | h
    ·exact h
    ·have : d' * a ≤ 0 := Int.mul_nonpos_of_nonneg_of_nonpos (by omega) h
     omega
   have f1 : f.Count / d = b := by rw [hb', Int.mul_ediv_cancel_left _ (by omega)]
   have f2 : d / d' = a := by rw [ha, Int.mul_ediv_cancel_left _ (by omega)]
   have f3 : f.Count / d' = a * b := by rw [hb', ha, Int.mul_assoc, Int.mul_ediv_cancel_left _ (by omega)]
   have hrest := hg.rest
   rw [f1] at hrest q3 q4;rw [f2] at q3 q4;have f4 : f.Period = a * (f.Period / b / a) * b := by
    have z1 := Int.ediv_mul_cancel (Int.dvd_of_emod_eq_zero hrest)
    have z2 := Int.ediv_mul_cancel (Int.dvd_of_emod_eq_zero q3)
    rw [Int.mul_comm a, z2, z1]
   have f5 : f.Period = (f.Period / b / a) * (a * b) := by
    conv => lhs; rw [f4]
    rw [Int.mul_comm a, Int.mul_assoc]
   have hab : a * b ≠ 0 := by
    have := Int.mul_pos hap hbp
    omega
   have f6 : f.Period / (a * b) = f.Period / b / a := by
    conv => lhs; rw [f5]
    exact Int.mul_ediv_cancel _ hab
   refine ⟨q1, hdd, ?_, ?_⟩
   ·rw [f3]; exact Int.emod_eq_zero_of_dvd ⟨f.Period / b / a, by rw [Int.mul_comm]; exact f5⟩
   ·rw [f3, f6]; intro i; have := q4 i; rw [hcs] at this; exact this
  have hself : Good c' c'.Count := good_self (by omega)
  refine ⟨fun hbare => hb ?_, by omega, d, by rw [← e1]; exact hself, fun d' g => hmin d' (good_up d' g), ?_⟩
  ·intro l hl;obtain ⟨k, hk⟩ := List.getElem?_of_mem hl
   have hkl := (List.getElem?_eq_some_iff.1 hk).1
   have hbz : ∀ i, cs f i = [] := fun i => by
    rw [← hcs];have hcore : ∀ i, Z0r c' i ∈ c'.Core := fun i => by
     unfold Z0r;have h1 := Int.emod_nonneg i (show c'.Count ≠ 0 by omega)
     have h2 := Int.emod_lt_of_pos i (show 0 < c'.Count by omega)
     have : (i % c'.Count).toNat < c'.Core.length := by rw [e3, hlen]; omega
     rw [List.getD_eq_getElem?_getD, List.getElem?_eq_getElem this];exact List.getElem_mem _
    unfold cs;rw [hbare _ (hcore i)]; rfl
   have := hbz k
   rw [Z37 (by omega) (by omega), List.getD_eq_getElem?_getD, Int.toNat_natCast, hk] at this
   exact this
  ·rw [form_ext];have hdd : d / d = 1 := Int.ediv_self (by omega)
   refine ⟨?_, rfl, ?_, rfl⟩
   ·show _ = c'.Period / (c'.Count / d)
    rw [e1, e2, hdd, Int.ediv_one]
   ·show _ = c'.Core.take d.toNat
    rw [e3, List.take_take, Nat.min_self]
end Go.Dn

namespace Go.Dn
open Go
theorem Z7X {α : Type} (g : α → Nat) (p : α → Bool) : ∀ l : List α, ((l.filter p).map g).sum ≤ (l.map g).sum
 | [] => Nat.le_refl _
 | x :: l => by
  have := Z7X g p l
  rw [List.filter_cons]
  split <;> simp only [List.map_cons, List.sum_cons] <;> omega
theorem Z9y {α : Type} (g : α → Nat) : ∀ (n : Nat) (l : List α), ((l.take n).map g).sum ≤ (l.map g).sum
 | 0, l => by simp
 | n + 1, [] => by simp
 | n + 1, x :: l => by
  have := Z9y g n l
  simp only [List.take_succ_cons, List.map_cons, List.sum_cons]; omega
theorem coreOf_le {f c : Form} (hs : Shape f) (h : Z21 f c) : c.Count ≤ f.Count ∧ c.Period ≤ f.Period ∧ c.Core.length ≤ f.Core.length ∧ (c.Core.map List.length).sum ≤ (f.Core.map List.length).sum := by
 have hp := hs.per
 have hcnt := hs.count
 rcases h with ⟨hb, rfl⟩ | ⟨hb, h0, d, hg, hmin, rfl⟩
 ·exact ⟨by simp only; omega, by simp only; omega, Nat.zero_le _, Nat.zero_le _⟩
 ·exact ⟨Int.le_of_dvd h0 hg.dvd, Int.ediv_le_self _ hp.1, by simp only [List.length_take]; omega, Z9y _ _ _⟩
theorem canon_facts {f : Form} (hl : Lim f) (hr : RightF f) : ∃ g, Zc f = some g ∧ Lim g ∧ RightF g ∧ ZQ g = ZQ f ∧ Zc g = some g ∧ g.Count ≤ f.Count ∧ g.Period ≤ f.Period ∧ g.Core.length ≤ f.Core.length ∧ g.Odd.length ≤ f.Odd.length ∧ Z6s g ≤ Z6s f := by
 have hs := hr.shape
 obtain ⟨c, hc, hf⟩ := Z5c hl hs
 have hl' := ZAe hl hs hc
 have hs' := Z4e hs hc
 obtain ⟨hfx, hfe⟩ := canonF_fix hs hc
 have hcl := coreOf_le hs hc
 refine ⟨_, hf, hl', Z8P hr hc, Z68 hs hc, ?_, hcl.1, hcl.2.1, hcl.2.2.1, List.length_filter_le _ _, ?_⟩
 ·obtain ⟨c2, hc2, hf2⟩ := Z5c hl' hs'
  have : c2 = c := by
   rcases hfx with ⟨b1, e1⟩ | ⟨b1, z1, d1, g1, m1, e1⟩ <;> rcases hc2 with ⟨b2, e2⟩ | ⟨b2, z2, d2, g2, m2, e2⟩
   ·rw [e1, e2]
   ·exact absurd b1 b2
   ·exact absurd b2 b1
   ·have : d1 = d2 := by have := m1 d2 g2; have := m2 d1 g1; omega
    subst this;rw [e2]; exact e1.symm
  rw [hf2, this, hfe]
 ·have h1 := hcl.2.2.2
  have h2 := Z7X (fun g : Granule => g.Ticks.length) (oddly f) f.Odd
  unfold Z6s
  show (c.Core.map List.length).sum + ((f.Odd.filter (oddly f)).map (fun g => g.Ticks.length)).sum ≤ _
  omega
end Go.Dn

namespace Go.Dn
open Go
theorem shift_ne {l : List Span} (hn : l ≠ []) {a b : Int} (h : l.map (Zk a) = l.map (Zk b)) : a = b := by
 cases l with
 | nil => exact absurd rfl hn
 | cons s l =>
  simp only [List.map_cons, List.cons.injEq, Zk, Span.mk.injEq] at h;omega
theorem Turn.uniq {h : Int → List Span} {d q q' : Int} (t : Turn h d q) (t' : Turn h d q') {i : Int} (hn : h i ≠ []) : q = q' := shift_ne hn ((t i).symm.trans (t' i))
theorem ZAz {f : Form} (h0 : 0 < f.Count) : Turn (cs f) f.Count f.Period := Z5u (by omega)
theorem cs_some {f : Form} (hs : Shape f) (hb : ¬ Bare f) (h0 : 0 < f.Count) (a : Int) : ∃ i, a ≤ i ∧ i < a + f.Count ∧ cs f i ≠ [] := by
 apply Classical.byContradiction
 intro hn
 apply hb
 have hz : cs f = fun _ => [] := Turn.agree (a := a) (ZAz h0) (fun i => rfl) h0 (fun i i0 i1 => Classical.byContradiction fun h => hn ⟨i, i0, i1, h⟩)
 intro l hl
 obtain ⟨k, hk⟩ := List.getElem?_of_mem hl
 have hkl := (List.getElem?_eq_some_iff.1 hk).1
 have hcnt := hs.count
 have := congrFun hz (k : Int)
 rw [Z37 (by omega) (by omega), List.getD_eq_getElem?_getD, Int.toNat_natCast, hk] at this
 exact this
def NearF (f : Form) (m : Int) : Prop := ∀ g ∈ f.Odd, -m ≤ g.Index ∧ g.Index ≤ m
end Go.Dn

namespace Go.Dn
open Go
end Go.Dn

namespace Go.Dn
open Go
theorem pigeon : ∀ (l : List Int) (c : Nat → Int), (∀ a b, c a = c b → a = b) → ∃ k, k ≤ l.length ∧ c k ∉ l
 | [], c, _ => ⟨0, Nat.le_refl _, by simp⟩
 | x :: l, c, hc => by
  by_cases h : ∃ k0, c k0 = x
  ·obtain ⟨k0, rfl⟩ := h
   obtain ⟨k, h1, h2⟩ := pigeon l (fun k => if k < k0 then c k else c (k + 1)) (fun a b hab => by
    split at hab <;> split at hab <;> have := hc _ _ hab <;> omega)
   split at h2
   ·rename_i hk;refine ⟨k, by simp; omega, ?_⟩
    rw [List.mem_cons];rintro (h | h)
    ·have := hc _ _ h; omega
    ·exact h2 h
   ·rename_i hk;refine ⟨k + 1, by simp; omega, ?_⟩
    rw [List.mem_cons];rintro (h | h)
    ·have := hc _ _ h; omega
    ·exact h2 h
  ·obtain ⟨k, h1, h2⟩ := pigeon l c hc
   refine ⟨k, by simp; omega, ?_⟩
   rw [List.mem_cons];rintro (h' | h')
   ·exact h ⟨k, h'⟩
   ·exact h2 h'
theorem free_core {f : Form} (hs : Shape f) (hb : ¬ Bare f) (h0 : 0 < f.Count) (ho : f.Odd.length ≤ 8) (a : Int) : ∃ j, a ≤ j ∧ j < a + f.Count * 9 ∧ ¬ Z06 f j ∧ ZQ f j ≠ [] := by
 obtain ⟨i, h1, h2, h3⟩ := cs_some hs hb h0 a
 obtain ⟨k, hk, hn⟩ := pigeon (f.Odd.map (·.Index)) (fun k => i + f.Count * k) (fun a b hab => by
  have h4 : f.Count * (a : Int) = f.Count * b := by omega
  have := Int.eq_of_mul_eq_mul_left (by omega) h4
  omega)
 rw [List.length_map] at hk
 have hk9 : (k : Int) + 1 ≤ 9 := by omega
 have hkc : f.Count * ((k : Int) + 1) ≤ f.Count * 9 := Int.mul_le_mul_of_nonneg_left hk9 (by omega)
 rw [Int.mul_add, Int.mul_one] at hkc
 have hkn : 0 ≤ f.Count * (k : Int) := Int.mul_nonneg (by omega) (by omega)
 have hno : ¬ Z06 f (i + f.Count * k) := by
  rintro ⟨g, hg, he⟩;exact hn (List.mem_map.2 ⟨g, hg, he⟩)
 refine ⟨i + f.Count * k, by omega, by omega, hno, ?_⟩
 rw [Z2u hno, Z2U h0, Z60 (by omega)]
 intro h
 rw [List.map_eq_nil_iff] at h
 exact h3 h
end Go.Dn

namespace Go.Dn
open Go
def Mid (x : Int) : Prop := -1000000000000000000 ≤ x ∧ x ≤ 1000000000000000000
end Go.Dn

namespace Go.Dn
open Go
end Go.Dn

namespace Go.Dn
open Go
theorem search_eq {n : Int} (h0 : 0 ≤ n) (hn : n ≤ 4611686018427387904) {f : Int → Option Bool} {p : Int → Bool} (hf : ∀ z, 0 ≤ z → z < n → f z = some (p z)) (hm : ∀ a b, 0 ≤ a → a ≤ b → b < n → p a = true → p b = true) :
  ∃ r, Z0V n f = some r ∧ 0 ≤ r ∧ r ≤ n ∧ (∀ z, 0 ≤ z → z < r → p z = false) ∧ (∀ z, r ≤ z → z < n → p z = true) := by
 unfold Z0V
 obtain ⟨r, h1, h2⟩ := Z1E (step := Z0V.s0 f)
  (fun s => 0 ≤ s.1 ∧ s.1 ≤ s.2 ∧ s.2 ≤ n ∧ (∀ z, 0 ≤ z → z < s.1 → p z = false) ∧ (∀ z, s.2 ≤ z → z < n → p z = true))
  (fun s => (s.2 - s.1).toNat) (fun r => 0 ≤ r ∧ r ≤ n ∧ (∀ z, 0 ≤ z → z < r → p z = false) ∧ (∀ z, r ≤ z → z < n → p z = true)) (by
   rintro ⟨i, j⟩ ⟨a1, a2, a3, a4, a5⟩;simp only at a1 a2 a3 a4 a5;unfold Z0V.s0;simp only
   by_cases hlt : i < j
   ·left
    rw [Zg hlt, cond_true];have e : w64 ((IntKind.u64.wrap (w64 (i + j))).fdiv (2 ^ 1)) = (i + j) / 2 := by
     rw [ZS (x := i + j) (by omega), Z5j, Int.fdiv_eq_ediv_of_nonneg _ (by decide)]
     have : (2 ^ 1 : Int) = 2 := rfl
     rw [this, ZS (by omega)]
     omega
    rw [e, hf _ (by omega) (by omega)]
    simp only [Option.bind_some];cases hp : p ((i + j) / 2) with
    | false =>
     simp only [Bool.not_false, cond_true, Option.bind_some];rw [ZS (by omega)]
     refine ⟨_, rfl, ⟨by simp only; omega, by simp only; omega, a3, ?_, a5⟩, by simp only; omega⟩
     intro z z0 z1;cases hz : p z with
     | false => rfl
     | true =>
      have := hm z ((i + j) / 2) z0 (by simp only at z1; omega) (by omega) hz
      rw [hp] at this; cases this
    | true =>
     simp only [Bool.not_true, cond_false, Option.bind_some];refine ⟨_, rfl, ⟨a1, by simp only; omega, by simp only; omega, a4, ?_⟩, by simp only; omega⟩
     intro z z0 z1;exact hm ((i + j) / 2) z (by omega) z0 z1 hp
   ·right
    rw [Zs hlt, cond_false];exact ⟨_, rfl, a1, by omega, a4, fun z z0 z1 => a5 z (by omega) z1⟩) (0, n) ⟨by simp, h0, by simp, fun z z0 z1 => by simp only at z1; omega, fun z z0 z1 => by simp only at z0; omega⟩
 rw [h1]
 exact ⟨r, rfl, h2⟩
theorem Z8e {l : List Span} (hl : Len l) : Z17 l = some (if l = [] then (⟨0, 0⟩, false) else (⟨fstT l, lstT l⟩, true)) := by
 have hlen := Z30 (b := 15) hl
 unfold Z17
 by_cases h : l = []
 ·subst h; rfl
 ·have hp : 0 < l.length := List.length_pos_iff.2 h
  rw [if_neg h, beq_f (by omega), cond_false, ZS (by omega)]
  have e1 : at? l 0 = some (l.head h) := by
   have := at?_nat (l := l) (k := 0) hp
   rw [show ((0 : Nat) : Int) = 0 from rfl] at this
   rw [this, List.head_eq_getElem]
  have e2 : at? l ((l.length : Int) - 1) = some (l.getLast h) := by
   have := at?_nat (l := l) (k := l.length - 1) (by omega)
   rw [show ((l.length - 1 : Nat) : Int) = (l.length : Int) - 1 by omega] at this
   rw [this, List.getLast_eq_getElem]
  rw [e1, e2];simp only [Option.bind_some];unfold fstT lstT;rw [List.head?_eq_some_head h, List.getLast?_eq_some_getLast h]
  rfl
def Z76 (g : Form) (j : Nat) : Option size_spot := if g.Core.getD j [] = [] then none else some ⟨(j : Int), ⟨fstT (g.Core.getD j []), lstT (g.Core.getD j [])⟩⟩
def Z6K (g : Form) (k : Nat) : List size_spot := (List.range k).filterMap (Z76 g)
theorem spotsUp_succ (g : Form) (k : Nat) : Z6K g (k + 1) = Z6K g k ++ (Z76 g k).toList := by
 unfold Z6K
 rw [List.range_succ, List.filterMap_append]
 cases h : Z76 g k <;> simp [h]
theorem Z6z (g : Form) (k : Nat) : (Z6K g k).length ≤ k := by
 have := List.length_filterMap_le (Z76 g) (List.range k)
 rw [List.length_range] at this
 exact this
abbrev Z1F (g : Form) : List size_spot := Z6K g g.Core.length
theorem made_eq {f g : Form} (hg : Zc f = some g) (hl : Lim g) (hc : g.Core.length ≤ 12) : Z0c f = some ⟨g, Z1F g⟩ := by
 have hr := Z8s
 unfold Z0c
 rw [hg]
 simp only [Option.bind_some]
 have : ZF (Z0c.s0 g) (0, []) = some (Z1F g) := by
  refine Z2B (I := fun s r => r = Z1F g ∧ ∃ k : Nat, k ≤ g.Core.length ∧ s = ((k : Int), Z6K g k)) (fun s => g.Core.length - s.1.toNat) ?_ ⟨rfl, 0, Nat.zero_le _, rfl⟩
  rintro s r ⟨rfl, k, hk, rfl⟩;unfold Z0c.s0
  by_cases hlt : k < g.Core.length
  ·left
   have hm := List.getElem_mem hlt
   have hgd : g.Core.getD k [] = g.Core[k] := by rw [List.getD_eq_getElem?_getD, List.getElem?_eq_getElem hlt]; rfl
   have hul := Z6z g k
   simp only;rw [Zg (show (k : Int) < g.Core.length by omega), cond_true, at?_nat hlt]
   simp only [Option.bind_some];rw [Z8e (hl.sets _ hm).1];simp only [Option.bind_some];have hsp := spotsUp_succ g k
   unfold Z76 at hsp;rw [hgd] at hsp
   by_cases hne : g.Core[k] = []
   ·rw [if_pos hne];rw [if_pos hne] at hsp;simp only [cond_false, Option.bind_some];rw [ZS (by omega)]
    exact ⟨_, rfl, ⟨trivial, k + 1, hlt, by rw [hsp]; push_cast; simp⟩, by simp only; omega⟩
   ·rw [if_neg hne];rw [if_neg hne] at hsp;simp only [cond_true];rw [app?_ok (by simp only [List.length_cons, List.length_nil]; omega)]
    simp only [Option.bind_some];rw [ZS (by omega)]
    exact ⟨_, rfl, ⟨trivial, k + 1, hlt, by rw [hsp]; push_cast; simp⟩, by simp only; omega⟩
  ·right
   have : k = g.Core.length := by omega
   subst this;rw [Zs (by simp only; omega), cond_false]
 rw [this]
 rfl
structure Spots (g : Form) (l : List size_spot) : Prop where
 mem : ∀ s ∈ l, 0 ≤ s.index ∧ s.index < g.Count ∧ cs g s.index ≠ [] ∧ s.place.first = fstT (cs g s.index) ∧ s.place.last = lstT (cs g s.index)
 all : ∀ j, 0 ≤ j → j < g.Count → cs g j ≠ [] → ∃ s ∈ l, s.index = j
 inc : l.Pairwise (fun a b => a.index < b.index)
theorem spots_ok {g : Form} (hs : Shape g) : Spots g (Z1F g) := by
 have hcnt := hs.count
 have hcs : ∀ j : Nat, j < g.Core.length → cs g j = g.Core.getD j [] := fun j hj => by
  rw [Z37 (by omega) (by omega)]; rfl
 refine ⟨?_, ?_, ?_⟩
 ·intro s hs';obtain ⟨j, hj, hjs⟩ := List.mem_filterMap.1 hs'
  have hj := List.mem_range.1 hj
  unfold Z76 at hjs
  split at hjs
  ·cases hjs
  ·rename_i hne;cases hjs;refine ⟨by simp only; omega, by simp only; omega, ?_, ?_, ?_⟩ <;> simp only <;> rw [hcs j hj]
   exact hne
 ·intro j h0 h1 hne;have hj : j.toNat < g.Core.length := by omega
  have e : ((j.toNat : Nat) : Int) = j := by omega
  have := hcs j.toNat hj
  rw [e] at this;rw [this] at hne;refine ⟨⟨(j.toNat : Int), ⟨fstT (g.Core.getD j.toNat []), lstT (g.Core.getD j.toNat [])⟩⟩, List.mem_filterMap.2 ⟨j.toNat, List.mem_range.2 hj, ?_⟩, e⟩;unfold Z76;rw [if_neg hne]
 ·unfold Z1F Z6K;rw [List.pairwise_filterMap];refine List.Pairwise.imp ?_ List.pairwise_lt_range;intro a b hab x hx y hy;unfold Z76 at hx hy
  split at hx <;> split at hy <;> simp_all
  subst hx hy;simp only; omega
theorem Z5r {g : Form} (hs : Shape g) (ht : Turns g) (h0 : 0 < g.Count) {i k : Int} (hik : i < k) (ni : cs g i ≠ []) (nk : cs g k ≠ []) : lstT (cs g i) < fstT (cs g k) := by
 have := csz_order hs ht hik (by rw [Z2U h0]; exact ni) (by rw [Z2U h0]; exact nk)
 rwa [Z2U h0] at this
theorem Z2l {g : Form} (hs : Shape g) (h0 : 0 < g.Count) {j : Int} (j0 : 0 ≤ j) (j1 : j < g.Count) : RightL (cs g j) := by
 rw [Z37 j0 j1]
 have := hs.count
 have hj : j.toNat < g.Core.length := by omega
 rw [List.getD_eq_getElem?_getD, List.getElem?_eq_getElem hj]
 exact hs.core _ (List.getElem_mem hj)
theorem Z3e {g : Form} (h0 : 0 < g.Count) (i q : Int) : cs g (i + g.Count * q) = (cs g i).map (Zk (q * g.Period)) := Z60 (by omega) i q
def LastC (g : Form) (t i : Int) : Prop := cs g i ≠ [] ∧ fstT (cs g i) ≤ t ∧ ∀ k, i < k → cs g k ≠ [] → t < fstT (cs g k)
def FirstC (g : Form) (t i : Int) : Prop := cs g i ≠ [] ∧ t ≤ lstT (cs g i) ∧ ∀ k, k < i → cs g k ≠ [] → lstT (cs g k) < t
theorem at?_get {α : Type} {l : List α} {i : Int} (h0 : 0 ≤ i) (h1 : i < l.length) : ∃ x, at? l i = some x ∧ l[i.toNat]? = some x ∧ x ∈ l := by
 have h : i.toNat < l.length := by omega
 exact ⟨l[i.toNat], at?_lt h0 h1, List.getElem?_eq_getElem h, List.getElem_mem h⟩
theorem Z4i {g : Form} {l : List size_spot} (h : Spots g l) {a b : Nat} {x y : size_spot} (ha : l[a]? = some x) (hb : l[b]? = some y) (hab : a < b) : x.index < y.index := by
 have h1 := (List.getElem?_eq_some_iff.1 ha)
 have h2 := (List.getElem?_eq_some_iff.1 hb)
 obtain ⟨l1, e1⟩ := h1
 obtain ⟨l2, e2⟩ := h2
 have := List.pairwise_iff_getElem.1 h.inc a b l1 l2 hab
 rw [e1, e2] at this
 exact this
structure Fit (g : Form) : Prop where
 lim : Lim g
 shape : Shape g
 turns : Turns g
 few : g.Core.length ≤ 12
 odds : g.Odd.length ≤ 8
theorem Fit.per {g : Form} (h : Fit g) (h0 : 0 < g.Count) : 0 < g.Period := by
 have h1 := h.shape.per
 have h2 := h.shape.zero
 omega
def BigT (t : Int) : Prop := -4398046511104 ≤ t ∧ t ≤ 4398046511104
theorem Z3r {g : Form} (h0 : 0 < g.Count) (k : Int) : ∃ j q, 0 ≤ j ∧ j < g.Count ∧ k = j + g.Count * q ∧ cs g k = (cs g j).map (Zk (q * g.Period)) := by
 have e : k = k % g.Count + g.Count * (k / g.Count) := (Int.emod_add_mul_ediv k g.Count).symm
 refine ⟨k % g.Count, k / g.Count, Int.emod_nonneg k (by omega), Int.emod_lt_of_pos k h0, e, ?_⟩
 conv => lhs; rw [e]
 exact Z3e h0 _ _
theorem ZAh {n p : Int} (hp : 0 < p) (hn : -8796093022208 ≤ n ∧ n ≤ 8796093022208) : -8796093022208 ≤ n / p ∧ n / p ≤ 8796093022208 := by
 constructor
 ·have : -8796093022208 ≤ n / p ↔ -8796093022208 * p ≤ n := Int.le_ediv_iff_mul_le hp
  rw [this];have : -8796093022208 * p ≤ -8796093022208 * 1 := by omega
  omega
 ·by_cases h : 0 ≤ n
  ·have := Int.ediv_le_self p h; omega
  ·have := Int.ediv_neg_of_neg_of_pos (show n < 0 by omega) hp; omega
theorem ZBO {q c : Int} (hq : -8796093022208 ≤ q ∧ q ≤ 8796093022208) (hc : 0 ≤ c ∧ c ≤ 12) : -105553116266496 ≤ q * c ∧ q * c ≤ 105553116266496 := by
 constructor
 ·have := Int.mul_le_mul_of_nonneg_right hq.1 hc.1
  omega
 ·have := Int.mul_le_mul_of_nonneg_right hq.2 hc.1
  omega
theorem Z8a {g : Form} (h : Fit g) (h0 : 0 < g.Count) {sp : List size_spot} (hsp : Spots g sp) (hn : sp ≠ []) (hln : sp.length ≤ 12) {t : Int} (ht : BigT t) :
  ∃ i, Z0G ⟨g, sp⟩ t false = some i ∧ LastC g t i ∧ -211106232532992 ≤ i ∧ i ≤ 211106232532992 := by
 unfold BigT at ht
 have hs := h.shape
 have hper := h.per h0
 have hper2 := hs.per
 have hcnt := hs.count
 have hfew := h.few
 have hlen : 0 < sp.length := List.length_pos_iff.2 hn
 obtain ⟨x5, a1, a2, a3⟩ := at?_get (l := sp) (i := 0) (by omega) (by omega)
 obtain ⟨b1, b2, b3, b4, b5⟩ := hsp.mem x5 a3
 have r5 := Z3T (Z2l hs h0 b1 b2) b3
 rw [← b4, ← b5] at r5
 unfold ZM at r5
 unfold Z0G
 rw [cond_false]
 simp only
 rw [a1]
 simp only [Option.bind_some]
 rw [ZS (x := t - x5.place.first) (by omega), Z2O (by unfold In64; omega) (by unfold In64; omega), Z40 hper]
 simp only [Option.bind_some]
 have qb := ZAh hper (n := t - x5.place.first) (by omega)
 have qm := Int.emod_add_mul_ediv (t - x5.place.first) g.Period
 have q0 := Int.emod_nonneg (t - x5.place.first) (show g.Period ≠ 0 by omega)
 have q1 := Int.emod_lt_of_pos (t - x5.place.first) hper
 generalize (t - x5.place.first) / g.Period = q at *
 have qp : -10995116277760 ≤ q * g.Period ∧ q * g.Period ≤ 10995116277760 := by rw [Int.mul_comm]; omega
 obtain ⟨r, s1, s2, s3, s4, s5⟩ := search_eq (n := (sp.length : Int)) (by omega) (by omega)
  (f := fun z0 => Z1a z0 ⟨g, sp⟩ q t) (p := fun z => match sp[z.toNat]? with | some s => decide (s.place.first + q * g.Period > t) | none => true) (by
   intro z z0 z1;obtain ⟨x, e1, e2, e3⟩ := at?_get (l := sp) z0 z1
   obtain ⟨c1, c2, c3, c4, c5⟩ := hsp.mem x e3
   have rx := Z3T (Z2l hs h0 c1 c2) c3
   rw [← c4, ← c5] at rx;unfold ZM at rx;unfold Z1a;simp only;rw [e1, e2];simp only [Option.bind_some];rw [ZS (x := q * g.Period) (by omega), ZS (by omega)]) (by
   intro a b a0 hab hb hp;obtain ⟨x, e1, e2, e3⟩ := at?_get (l := sp) a0 (by omega)
   obtain ⟨y, f1, f2, f3⟩ := at?_get (l := sp) (show 0 ≤ b by omega) hb
   simp only [e2, f2, decide_eq_true_eq] at hp ⊢
   by_cases hne : a = b
   ·subst hne; rw [e2] at f2; cases f2; exact hp
   ·have hlt := Z4i hsp e2 f2 (by omega)
    obtain ⟨c1, c2, c3, c4, c5⟩ := hsp.mem x e3
    obtain ⟨d1, d2, d3, d4, d5⟩ := hsp.mem y f3
    have o1 := Z5r hs h.turns h0 hlt c3 d3
    have o2 := Z1y (Z2l hs h0 c1 c2) c3
    omega)
 rw [s1]
 simp only [Option.bind_some]
 have r1 : 1 ≤ r := by
  by_cases hr : 1 ≤ r
  ·exact hr
  ·have : r = 0 := by omega
   subst this;have := s5 0 (by omega) (by omega)
   rw [show (0 : Int).toNat = 0 from rfl] at this
   rw [show (0 : Int).toNat = 0 from rfl] at a2
   simp only [a2, decide_eq_true_eq] at this;rw [Int.mul_comm] at this;omega
 rw [ZS (x := r - 1) (by omega)]
 obtain ⟨x8, e1, e2, e3⟩ := at?_get (l := sp) (i := r - 1) (by omega) (by omega)
 rw [e1]
 simp only [Option.bind_some]
 obtain ⟨c1, c2, c3, c4, c5⟩ := hsp.mem x8 e3
 have hqc := ZBO qb (c := g.Count) (by omega)
 rw [ZS (x := q * g.Count) (by omega), ZS (by omega)]
 refine ⟨_, rfl, ⟨?_, ?_, ?_⟩, by omega, by omega⟩
 ·rw [Int.mul_comm q, Z3e h0]; simpa using c3
 ·rw [Int.mul_comm q, Z3e h0, (Z0B _ c3).2, ← c4];have := s4 (r - 1) (by omega) (by omega)
  simp only [e2, decide_eq_false_iff_not] at this;omega
 ·intro k hk hkn;obtain ⟨j, q', j0, j1, rfl, ek⟩ := Z3r h0 k
  rw [ek] at hkn ⊢;have hjn : cs g j ≠ [] := fun h => hkn (by rw [h]; rfl)
  rw [(Z0B _ hjn).2];obtain ⟨y, y1, rfl⟩ := hsp.all j j0 j1 hjn
  obtain ⟨d1, d2, d3, d4, d5⟩ := hsp.mem y y1
  obtain ⟨z, hz⟩ := List.getElem?_of_mem y1
  have hz2 := (List.getElem?_eq_some_iff.1 hz).1
  have fy : x5.place.first ≤ y.place.first := by
   by_cases hz0 : z = 0
   ·subst hz0;rw [show (0 : Int).toNat = 0 from rfl] at a2
    rw [a2] at hz; cases hz; exact Int.le_refl _
   ·have hlt := Z4i hsp a2 hz (by omega)
    have o1 := Z5r hs h.turns h0 hlt b3 d3
    have o2 := Z1y (Z2l hs h0 b1 b2) b3
    omega
  rw [← d4]
  by_cases hqq : q' ≤ q
  ·have hqe : q' = q := by
    by_cases h' : q' = q
    ·exact h'
    ·have : g.Count * (q' + 1) ≤ g.Count * q := Int.mul_le_mul_of_nonneg_left (by omega) (by omega)
     rw [Int.mul_add, Int.mul_one] at this;rw [Int.mul_comm q] at hk;omega
   subst hqe;rw [Int.mul_comm q'] at hk;have hyi : x8.index < y.index := by omega
   have hzr : r ≤ (z : Int) := by
    by_cases h' : r ≤ (z : Int)
    ·exact h'
    ·by_cases h'' : z = (r - 1).toNat
     ·subst h''; rw [e2] at hz; cases hz; omega
     ·have := Z4i hsp hz e2 (by omega); omega
   have := s5 z hzr (by omega)
   rw [Int.toNat_natCast] at this;simp only [hz, decide_eq_true_eq] at this;omega
  ·have : g.Period * (q + 1) ≤ g.Period * q' := Int.mul_le_mul_of_nonneg_left (by omega) (by omega)
   rw [Int.mul_add, Int.mul_one] at this;rw [Int.mul_comm q'];omega
end Go.Dn

namespace Go.Dn
open Go
theorem ZB4 {g : Form} (h : Fit g) (h0 : 0 < g.Count) {sp : List size_spot} (hsp : Spots g sp) (hn : sp ≠ []) (hln : sp.length ≤ 12) {t : Int} (ht : BigT t) :
  ∃ i, Z0G ⟨g, sp⟩ t true = some i ∧ FirstC g t i ∧ -211106232532992 ≤ i ∧ i ≤ 211106232532992 := by
 unfold BigT at ht
 have hs := h.shape
 have hper := h.per h0
 have hper2 := hs.per
 have hcnt := hs.count
 have hfew := h.few
 have hlen : 0 < sp.length := List.length_pos_iff.2 hn
 obtain ⟨x5, a1, a2, a3⟩ := at?_get (l := sp) (i := (sp.length : Int) - 1) (by omega) (by omega)
 obtain ⟨b1, b2, b3, b4, b5⟩ := hsp.mem x5 a3
 have r5 := Z3T (Z2l hs h0 b1 b2) b3
 rw [← b4, ← b5] at r5
 unfold ZM at r5
 unfold Z0G
 rw [cond_true]
 simp only
 rw [ZS (x := (sp.length : Int) - 1) (by omega), a1]
 simp only [Option.bind_some]
 rw [ZS (x := x5.place.last - t) (by omega), Z2O (by unfold In64; omega) (by unfold In64; omega), Z40 hper]
 simp only [Option.bind_some]
 have qb := ZAh hper (n := x5.place.last - t) (by omega)
 have qm := Int.emod_add_mul_ediv (x5.place.last - t) g.Period
 have q0 := Int.emod_nonneg (x5.place.last - t) (show g.Period ≠ 0 by omega)
 have q1 := Int.emod_lt_of_pos (x5.place.last - t) hper
 generalize (x5.place.last - t) / g.Period = q at *
 have qp : -10995116277760 ≤ q * g.Period ∧ q * g.Period ≤ 10995116277760 := by rw [Int.mul_comm]; omega
 obtain ⟨r, s1, s2, s3, s4, s5⟩ := search_eq (n := (sp.length : Int)) (by omega) (by omega)
  (f := fun z0 => Z1c z0 ⟨g, sp⟩ q t) (p := fun z => match sp[z.toNat]? with | some s => decide (s.place.last - q * g.Period ≥ t) | none => true) (by
   intro z z0 z1;obtain ⟨x, e1, e2, e3⟩ := at?_get (l := sp) z0 z1
   obtain ⟨c1, c2, c3, c4, c5⟩ := hsp.mem x e3
   have rx := Z3T (Z2l hs h0 c1 c2) c3
   rw [← c4, ← c5] at rx;unfold ZM at rx;unfold Z1c;simp only;rw [e1, e2];simp only [Option.bind_some];rw [ZS (x := q * g.Period) (by omega), ZS (by omega)]) (by
   intro a b a0 hab hb hp;obtain ⟨x, e1, e2, e3⟩ := at?_get (l := sp) a0 (by omega)
   obtain ⟨y, f1, f2, f3⟩ := at?_get (l := sp) (show 0 ≤ b by omega) hb
   simp only [e2, f2, decide_eq_true_eq] at hp ⊢
   by_cases hne : a = b
   ·subst hne; rw [e2] at f2; cases f2; exact hp
   ·have hlt := Z4i hsp e2 f2 (by omega)
    obtain ⟨c1, c2, c3, c4, c5⟩ := hsp.mem x e3
    obtain ⟨d1, d2, d3, d4, d5⟩ := hsp.mem y f3
    have o1 := Z5r hs h.turns h0 hlt c3 d3
    have o2 := Z1y (Z2l hs h0 d1 d2) d3
    omega)
 rw [s1]
 simp only [Option.bind_some]
 have r1 : r < sp.length := by
  by_cases hr : r < sp.length
  ·exact hr
  ·have := s4 ((sp.length : Int) - 1) (by omega) (by omega)
   simp only [a2, decide_eq_false_iff_not] at this;rw [Int.mul_comm] at this;omega
 obtain ⟨x8, e1, e2, e3⟩ := at?_get (l := sp) (i := r) (by omega) (by omega)
 rw [e1]
 simp only [Option.bind_some]
 obtain ⟨c1, c2, c3, c4, c5⟩ := hsp.mem x8 e3
 have hqc := ZBO qb (c := g.Count) (by omega)
 rw [ZS (x := q * g.Count) (by omega), ZS (by omega)]
 have ei : x8.index - q * g.Count = x8.index + g.Count * (-q) := by rw [Int.mul_neg, Int.mul_comm]; omega
 refine ⟨_, rfl, ⟨?_, ?_, ?_⟩, by omega, by omega⟩
 ·rw [ei, Z3e h0]; simpa using c3
 ·rw [ei, Z3e h0, (Z0B _ c3).1, ← c5];have := s5 r (by omega) (by omega)
  simp only [e2, decide_eq_true_eq] at this;rw [Int.neg_mul];omega
 ·intro k hk hkn;obtain ⟨j, q', j0, j1, rfl, ek⟩ := Z3r h0 k
  rw [ek] at hkn ⊢;have hjn : cs g j ≠ [] := fun h => hkn (by rw [h]; rfl)
  rw [(Z0B _ hjn).1];obtain ⟨y, y1, rfl⟩ := hsp.all j j0 j1 hjn
  obtain ⟨d1, d2, d3, d4, d5⟩ := hsp.mem y y1
  obtain ⟨z, hz⟩ := List.getElem?_of_mem y1
  have hz2 := (List.getElem?_eq_some_iff.1 hz).1
  have fy : y.place.last ≤ x5.place.last := by
   by_cases hz0 : z = ((sp.length : Int) - 1).toNat
   ·subst hz0;rw [a2] at hz; cases hz; exact Int.le_refl _
   ·have hlt := Z4i hsp hz a2 (by omega)
    have o1 := Z5r hs h.turns h0 hlt d3 b3
    have o2 := Z1y (Z2l hs h0 b1 b2) b3
    omega
  rw [← d5]
  by_cases hqq : -q ≤ q'
  ·have hqe : q' = -q := by
    by_cases h' : q' = -q
    ·exact h'
    ·have : g.Count * (-q + 1) ≤ g.Count * q' := Int.mul_le_mul_of_nonneg_left (by omega) (by omega)
     rw [Int.mul_add, Int.mul_one] at this;rw [ei] at hk;omega
   subst hqe;rw [ei] at hk;have hyi : y.index < x8.index := by omega
   have hzr : (z : Int) < r := by
    by_cases h' : (z : Int) < r
    ·exact h'
    ·by_cases h'' : z = r.toNat
     ·subst h''; rw [e2] at hz; cases hz; omega
     ·have := Z4i hsp e2 hz (by omega); omega
   have := s4 z (by omega) hzr
   rw [Int.toNat_natCast] at this;simp only [hz, decide_eq_false_iff_not] at this;rw [Int.neg_mul];omega
  ·have : g.Period * q' ≤ g.Period * (-q - 1) := Int.mul_le_mul_of_nonneg_left (by omega) (by omega)
   rw [Int.mul_sub, Int.mul_one, Int.mul_neg] at this;rw [Int.mul_comm q'];omega
def putB (b : Int × Bool) (n : Int) : Int × Bool := if b.2 = false ∨ n > b.1 then (n, true) else b
structure Best (S : Int → Prop) (b : Int × Bool) : Prop where
 yes : b.2 = true → S b.1 ∧ ∀ n, S n → n ≤ b.1
 no : b.2 = false → b.1 = 0 ∧ ∀ n, ¬ S n
theorem Best.put {S S' : Int → Prop} {b : Int × Bool} {n : Int} (h : Best S b) (hS : ∀ m, S' m ↔ S m ∨ m = n) : Best S' (putB b n) := by
 unfold putB
 split
 ·rename_i hc;refine ⟨fun _ => ⟨(hS n).2 (.inr rfl), fun m hm => ?_⟩, fun h => by cases h⟩
  rcases (hS m).1 hm with h1 | h1
  ·cases hb : b.2 with
   | false => exact absurd h1 ((h.no hb).2 m)
   | true =>
    have := (h.yes hb).2 m h1
    rcases hc with h2 | h2
    ·rw [hb] at h2; cases h2
    ·simp only; omega
  ·subst h1; exact Int.le_refl _
 ·rename_i hc;have hb : b.2 = true := by cases hb : b.2 <;> simp_all
  refine ⟨fun _ => ⟨(hS b.1).2 (.inl (h.yes hb).1), fun m hm => ?_⟩, fun h => by rw [hb] at h; cases h⟩
  rcases (hS m).1 hm with h1 | h1
  ·exact (h.yes hb).2 m h1
  ·subst h1;have : ¬ (m > b.1) := fun h => hc (.inr h)
   omega
theorem Best.congr {S S' : Int → Prop} {b : Int × Bool} (h : Best S b) (hS : ∀ m, S' m ↔ S m) : Best S' b :=
 ⟨fun hb => ⟨(hS _).2 (h.yes hb).1, fun n hn => (h.yes hb).2 n ((hS n).1 hn)⟩, fun hb => ⟨(h.no hb).1, fun n hn => (h.no hb).2 n ((hS n).1 hn)⟩⟩
theorem Best.none {S : Int → Prop} (h : ∀ n, ¬ S n) : Best S (0, false) := ⟨fun h => by (cases h), fun _ => ⟨rfl, h⟩⟩
theorem Z62 (n b : Int) (c : Bool) : ZF (ZD.s1) (([n].length : Int), 0, [n], b, c) = some ([n], putB (b, c) n) := by
 rw [Z13]
 have e1 : ZD.s1 (([n].length : Int), 0, [n], b, c) = some (.inl (([n].length : Int), 1, [n], putB (b, c) n)) := by
  unfold ZD.s1;simp only;rw [Zg (show (0 : Int) < ([n].length : Int) by simp), cond_true, show at? [n] 0 = some n from rfl]
  simp only [Option.bind_some];unfold putB;cases c with
  | false => rfl
  | true =>
   by_cases h : n > b
   ·simp only [h, decide_true, Bool.or_true, cond_true, or_true, if_true]; rfl
   ·simp only [h, decide_false, Bool.not_true, Bool.or_false, cond_false, Bool.true_eq_false, or_self, if_false]; rfl
 rw [e1]
 simp only
 rw [Z13]
 have e2 : ZD.s1 (([n].length : Int), 1, [n], putB (b, c) n) = some (.inr ([n], putB (b, c) n)) := by
  unfold ZD.s1;simp only;rw [Zs (show ¬ (1 : Int) < ([n].length : Int) by simp), cond_false]
 rw [e2]
theorem Z6C (n b : Int) (c : Bool) : ZF (ZD.s3) (([n].length : Int), 0, [n], b, c) = some ([n], putB (b, c) n) := by
 rw [Z13]
 have e1 : ZD.s3 (([n].length : Int), 0, [n], b, c) = some (.inl (([n].length : Int), 1, [n], putB (b, c) n)) := by
  unfold ZD.s3;simp only;rw [Zg (show (0 : Int) < ([n].length : Int) by simp), cond_true, show at? [n] 0 = some n from rfl]
  simp only [Option.bind_some];unfold putB;cases c with
  | false => rfl
  | true =>
   by_cases h : n > b
   ·simp only [h, decide_true, Bool.or_true, cond_true, or_true, if_true]; rfl
   ·simp only [h, decide_false, Bool.not_true, Bool.or_false, cond_false, Bool.true_eq_false, or_self, if_false]; rfl
 rw [e1]
 simp only
 rw [Z13]
 have e2 : ZD.s3 (([n].length : Int), 1, [n], putB (b, c) n) = some (.inr ([n], putB (b, c) n)) := by
  unfold ZD.s3;simp only;rw [Zs (show ¬ (1 : Int) < ([n].length : Int) by simp), cond_false]
 rw [e2]
theorem ZAH (n b : Int) (c : Bool) : ZF (ZP.s1) (([n].length : Int), 0, [n], b, c) = some ([n], putB (b, c) n) := by
 rw [Z13]
 have e1 : ZP.s1 (([n].length : Int), 0, [n], b, c) = some (.inl (([n].length : Int), 1, [n], putB (b, c) n)) := by
  unfold ZP.s1;simp only;rw [Zg (show (0 : Int) < ([n].length : Int) by simp), cond_true, show at? [n] 0 = some n from rfl]
  simp only [Option.bind_some];unfold putB;cases c with
  | false => rfl
  | true =>
   by_cases h : n > b
   ·simp only [h, decide_true, Bool.or_true, cond_true, or_true, if_true]; rfl
   ·simp only [h, decide_false, Bool.not_true, Bool.or_false, cond_false, Bool.true_eq_false, or_self, if_false]; rfl
 rw [e1]
 simp only
 rw [Z13]
 have e2 : ZP.s1 (([n].length : Int), 1, [n], putB (b, c) n) = some (.inr ([n], putB (b, c) n)) := by
  unfold ZP.s1;simp only;rw [Zs (show ¬ (1 : Int) < ([n].length : Int) by simp), cond_false]
 rw [e2]
theorem ZAT (n b : Int) (c : Bool) : ZF (ZP.s3) (([n].length : Int), 0, [n], b, c) = some ([n], putB (b, c) n) := by
 rw [Z13]
 have e1 : ZP.s3 (([n].length : Int), 0, [n], b, c) = some (.inl (([n].length : Int), 1, [n], putB (b, c) n)) := by
  unfold ZP.s3;simp only;rw [Zg (show (0 : Int) < ([n].length : Int) by simp), cond_true, show at? [n] 0 = some n from rfl]
  simp only [Option.bind_some];unfold putB;cases c with
  | false => rfl
  | true =>
   by_cases h : n > b
   ·simp only [h, decide_true, Bool.or_true, cond_true, or_true, if_true]; rfl
   ·simp only [h, decide_false, Bool.not_true, Bool.or_false, cond_false, Bool.true_eq_false, or_self, if_false]; rfl
 rw [e1]
 simp only
 rw [Z13]
 have e2 : ZP.s3 (([n].length : Int), 1, [n], putB (b, c) n) = some (.inr ([n], putB (b, c) n)) := by
  unfold ZP.s3;simp only;rw [Zs (show ¬ (1 : Int) < ([n].length : Int) by simp), cond_false]
 rw [e2]
theorem ZAG (n b : Int) (c : Bool) : ZF (ZP.s4) (([n].length : Int), 0, [n], b, c) = some ([n], putB (b, c) n) := by
 rw [Z13]
 have e1 : ZP.s4 (([n].length : Int), 0, [n], b, c) = some (.inl (([n].length : Int), 1, [n], putB (b, c) n)) := by
  unfold ZP.s4;simp only;rw [Zg (show (0 : Int) < ([n].length : Int) by simp), cond_true, show at? [n] 0 = some n from rfl]
  simp only [Option.bind_some];unfold putB;cases c with
  | false => rfl
  | true =>
   by_cases h : n > b
   ·simp only [h, decide_true, Bool.or_true, cond_true, or_true, if_true]; rfl
   ·simp only [h, decide_false, Bool.not_true, Bool.or_false, cond_false, Bool.true_eq_false, or_self, if_false]; rfl
 rw [e1]
 simp only
 rw [Z13]
 have e2 : ZP.s4 (([n].length : Int), 1, [n], putB (b, c) n) = some (.inr ([n], putB (b, c) n)) := by
  unfold ZP.s4;simp only;rw [Zs (show ¬ (1 : Int) < ([n].length : Int) by simp), cond_false]
 rw [e2]
end Go.Dn

namespace Go.Dn
open Go
theorem ZA3 {g : Form} {sp : List size_spot} (hl : Lim g) (hs : Shape g) (i : Int) : ∃ n, Z1C ⟨g, sp⟩ i = some n ∧ (0 ≤ n ↔ Z06 g i) := by
 obtain ⟨p, h1, h2, h3⟩ := Z8G (t := i) hl.odd hs.inc
 have e : ZB g.Odd i (fun z0 z1 => some (Z1l z0 z1)) = some ((p : Int), decide (∃ x, g.Odd[p]? = some x ∧ x.Index = i)) := h3
 unfold Z1C
 simp only
 rw [e]
 simp only [Option.bind_some]
 by_cases hx : ∃ x, g.Odd[p]? = some x ∧ x.Index = i
 ·rw [Zg hx];refine ⟨(p : Int), rfl, fun _ => ?_, fun _ => by omega⟩
  obtain ⟨x, e1, e2⟩ := hx
  exact ⟨x, List.mem_of_getElem? e1, e2⟩
 ·rw [Zs hx];refine ⟨-1, rfl, fun h => by omega, ?_⟩
  rintro ⟨x, hx1, hx2⟩;obtain ⟨k, hk⟩ := List.getElem?_of_mem hx1
  exfalso
  have hkp := h2 k x hk
  by_cases hkk : k = p
  ·subst hkk; exact hx ⟨x, hk, hx2⟩
  ·have : p < k := by omega
   have hlt := (List.getElem?_eq_some_iff.1 hk).1
   have hp : g.Odd[p]? = some (g.Odd[p]'(by omega)) := List.getElem?_eq_getElem (by omega)
   have q1 := h2 p _ hp
   have q2 := hs.inc p k _ x this hp hk
   omega
theorem has_eq {g : Form} {sp : List size_spot} (hl : Lim g) (hs : Shape g) (h0 : 0 < g.Count) {i : Int} (hi : In64 i) : Z2P ⟨g, sp⟩ i = some (decide (cs g i ≠ [])) := by
 unfold Z2P
 simp only
 rw [Z2O hi hl.count, Z40 h0]
 simp only [Option.bind_some]
 rw [(Z1i hs (by omega) i).1]
 simp only [Option.bind_some, Option.some.injEq, decide_eq_decide]
 unfold cs
 rw [ne_eq, List.map_eq_nil_iff]
 constructor
 ·intro h hn; rw [hn] at h; simp at h
 ·intro h; have := List.length_pos_iff.2 h; omega
theorem Z3j {g : Form} (h0 : 0 < g.Count) {i : Int} (h : ¬ Z06 g i) : ZQ g i = cs g i := by rw [Z2u h, Z2U h0]
def byU (up : Bool) : Int := if up then 1 else -1
def sgU (up : Bool) : Int := if up then -1 else 1
theorem sg_w (up : Bool) {x : Int} (h : -4611686018427387904 ≤ x ∧ x ≤ 4611686018427387904) : w64 (w64 (0 - byU up) * x) = sgU up * x := by
 cases up
 ·show w64 (w64 (0 - (-1)) * x) = 1 * x
  rw [show w64 (0 - (-1)) = 1 from rfl, ZS (by omega)]
 ·show w64 (w64 (0 - 1) * x) = -1 * x
  rw [show w64 (0 - 1) = -1 from rfl, ZS (by omega)]
open Classical in
theorem walk_eq {g : Form} {sp : List size_spot} (h : Fit g) (h0 : 0 < g.Count) (hb : ¬ Bare g) (up : Bool) {i0 : Int} (hi : -211106232532992 ≤ i0 ∧ i0 ≤ 211106232532992) :
  ∃ i, ZF (ZD.s0 ⟨g, sp⟩ (byU up)) i0 = some i ∧ ¬ Z06 g i ∧ cs g i ≠ [] ∧ (if up then i0 ≤ i else i ≤ i0) ∧ -211106232533992 ≤ i ∧ i ≤ 211106232533992 ∧
   ∀ k, (if up then i0 ≤ k ∧ k < i else i < k ∧ k ≤ i0) → Z06 g k ∨ cs g k = [] := by
 have hs := h.shape
 have hcnt := hs.count
 have hfew := h.few
 obtain ⟨j, j1, j2, j3, j4⟩ := free_core hs hb h0 h.odds (if up then i0 else i0 - g.Count * 9 + 1)
 rw [Z3j h0 j3] at j4
 have hj : if up then i0 ≤ j ∧ j < i0 + 108 else j ≤ i0 ∧ i0 < j + 108 := by
  cases up
  ·simp only [Bool.false_eq_true, if_false] at j1 j2 ⊢; omega
  ·simp only [if_true] at j1 j2 ⊢; omega
 obtain ⟨r, q1, q2⟩ := Z1E (step := ZD.s0 ⟨g, sp⟩ (byU up))
  (fun i => (if up then i0 ≤ i ∧ i ≤ j else j ≤ i ∧ i ≤ i0) ∧ ∀ k, (if up then i0 ≤ k ∧ k < i else i < k ∧ k ≤ i0) → Z06 g k ∨ cs g k = [])
  (fun i => (if up then j - i else i - j).toNat)
  (fun i => (if up then i0 ≤ i ∧ i ≤ j else j ≤ i ∧ i ≤ i0) ∧ ¬ Z06 g i ∧ cs g i ≠ [] ∧ ∀ k, (if up then i0 ≤ k ∧ k < i else i < k ∧ k ≤ i0) → Z06 g k ∨ cs g k = []) (by
   rintro i ⟨a1, a2⟩;have hi64 : -211106232533992 ≤ i ∧ i ≤ 211106232533992 := by
    cases up
    ·simp only [Bool.false_eq_true, if_false] at a1 hj; omega
    ·simp only [if_true] at a1 hj; omega
   unfold ZD.s0;obtain ⟨n, n1, n2⟩ := ZA3 (sp := sp) h.lim hs i
   rw [n1];simp only [Option.bind_some];rw [has_eq h.lim hs h0 (by unfold In64; omega)]
   simp only [Option.bind_some];have hc : (bif decide (n ≥ 0) then some true else some (!decide (cs g i ≠ []))) = some (decide (Z06 g i ∨ cs g i = [])) := by
    by_cases ho : Z06 g i
    ·rw [Zg (n2.2 ho), cond_true, Zg (.inl ho)]
    ·rw [Zs (p := n ≥ 0) (fun h => ho (n2.1 h)), cond_false]
     by_cases he : cs g i = []
     ·rw [Zg (p := Z06 g i ∨ cs g i = []) (.inr he), Zs (p := cs g i ≠ []) (fun h => h he)]; rfl
     ·rw [Zs (p := Z06 g i ∨ cs g i = []) (fun h => h.elim ho he), Zg (p := cs g i ≠ []) he]; rfl
   rw [hc];simp only [Option.bind_some]
   by_cases hk : Z06 g i ∨ cs g i = []
   ·left
    rw [Zg hk, cond_true];have hij : i ≠ j := by
     rintro rfl;exact hk.elim j3 j4
    have hw : w64 (i + byU up) = i + byU up := ZS (by unfold byU; cases up <;> simp <;> omega)
    rw [hw];refine ⟨_, rfl, ⟨?_, ?_⟩, ?_⟩
    ·unfold byU;cases up
     ·simp only [Bool.false_eq_true, if_false] at a1 ⊢; omega
     ·simp only [if_true] at a1 ⊢; omega
    ·intro k hkk
     by_cases hki : k = i
     ·subst hki; exact hk
     ·apply a2;unfold byU at hkk;cases up
      ·simp only [Bool.false_eq_true, if_false] at hkk ⊢; omega
      ·simp only [if_true] at hkk ⊢; omega
    ·unfold byU;cases up
     ·simp only [Bool.false_eq_true, if_false] at a1 ⊢; omega
     ·simp only [if_true] at a1 ⊢; omega
   ·right
    rw [Zs hk, cond_false];exact ⟨_, rfl, a1, fun ho => hk (.inl ho), fun he => hk (.inr he), a2⟩) i0 ⟨by
     cases up
     ·simp only [Bool.false_eq_true, if_false] at hj ⊢; omega
     ·simp only [if_true] at hj ⊢; omega, fun k hk => by
     cases up
     ·simp only [Bool.false_eq_true, if_false] at hk; omega
     ·simp only [if_true] at hk; omega⟩
 refine ⟨r, q1, q2.2.1, q2.2.2.1, ?_, ?_, ?_, q2.2.2.2⟩ <;> have := q2.1 <;> cases up <;> simp only [Bool.false_eq_true, if_false, if_true] at this hj ⊢ <;> omega
def AtP (g : Form) (up : Bool) (t i : Int) : Prop := ZQ g i ≠ [] ∧ (if up then t ≤ lstT (ZQ g i) else fstT (ZQ g i) ≤ t)
theorem hull_cond {l : List Span} {up : Bool} {t : Int} (hl : Len l) : ∃ x : Span × Bool, Z17 l = some x ∧ (x.2 && ((up && (decide (x.1.To ≥ t))) || ((!up) && (decide (x.1.From ≤ t))))) = decide (l ≠ [] ∧ (if up then t ≤ lstT l else fstT l ≤ t)) := by
 refine ⟨_, Z8e hl, ?_⟩
 by_cases h : l = []
 ·rw [if_pos h]; simp [h]
 ·rw [if_neg h];cases up <;> simp [h]
open Classical in
theorem reach_loop {g : Form} {sp : List size_spot} (h : Fit g) (up : Bool) (t : Int) {b : Int × Bool} {S : Int → Prop} (hB : Best S b) :
  ∃ r, ZF (ZD.s2 ⟨g, sp⟩ t up (byU up)) (0, b.1, b.2) = some r ∧ Best (fun m => S m ∨ ∃ i, Z06 g i ∧ AtP g up t i ∧ m = sgU up * i) r := by
 have hs := h.shape
 have hl := h.lim
 have hodd := h.odds
 obtain ⟨r, q1, q2⟩ := Z1E (step := ZD.s2 ⟨g, sp⟩ t up (byU up))
  (fun s => ∃ (k : Nat) (c : Int × Bool), k ≤ g.Odd.length ∧ s = ((k : Int), c.1, c.2) ∧ Best (fun m => S m ∨ ∃ x ∈ g.Odd.take k, AtP g up t x.Index ∧ m = sgU up * x.Index) c)
  (fun s => g.Odd.length - s.1.toNat)
  (fun r => Best (fun m => S m ∨ ∃ i, Z06 g i ∧ AtP g up t i ∧ m = sgU up * i) r) (by
   rintro s ⟨k, c, hk, rfl, hc⟩;unfold ZD.s2;simp only
   by_cases hlt : k < g.Odd.length
   ·left
    have hm := List.getElem_mem hlt
    have htk : g.Odd.take (k + 1) = g.Odd.take k ++ [g.Odd[k]] := (List.take_append_getElem hlt).symm
    rw [Zg (show (k : Int) < g.Odd.length by omega), cond_true, at?_nat hlt]
    simp only [Option.bind_some];obtain ⟨x, x1, x2⟩ := hull_cond (l := g.Odd[k].Ticks) (up := up) (t := t) (hl.ticks _ hm).2.1
    rw [x1];simp only [Option.bind_some];rw [x2];have hset : ZQ g g.Odd[k].Index = g.Odd[k].Ticks := Z0x hs.inc hm
    have hat : (g.Odd[k].Ticks ≠ [] ∧ (if up then t ≤ lstT g.Odd[k].Ticks else fstT g.Odd[k].Ticks ≤ t)) ↔ AtP g up t g.Odd[k].Index := by unfold AtP; rw [hset]
    have ht := (hs.odd _ hm).2
    unfold ZM at ht
    by_cases hcnd : AtP g up t g.Odd[k].Index
    ·rw [Zg (hat.2 hcnd), cond_true];have hw : w64 (w64 (0 - byU up) * g.Odd[k].Index) = sgU up * g.Odd[k].Index := sg_w up (by omega)
     rw [hw, Z6C];simp only [Option.bind_some];rw [ZS (by omega)]
     refine ⟨_, rfl, ⟨k + 1, putB c (sgU up * g.Odd[k].Index), hlt, by push_cast; rfl, ?_⟩, by simp only; omega⟩
     refine hc.put fun m => ?_
     rw [htk]
     constructor
     ·rintro (h1 | ⟨y, hy, h1, h2⟩)
      ·exact .inl (.inl h1)
      ·rcases List.mem_append.1 hy with h3 | h3
       ·exact .inl (.inr ⟨y, h3, h1, h2⟩)
       ·rw [List.mem_singleton] at h3; subst h3; exact .inr h2
     ·rintro ((h1 | ⟨y, hy, h1, h2⟩) | h1)
      ·exact .inl h1
      ·exact .inr ⟨y, List.mem_append_left _ hy, h1, h2⟩
      ·exact .inr ⟨_, List.mem_append_right _ (List.mem_singleton.2 rfl), hcnd, h1⟩
    ·rw [Zs (fun h => hcnd (hat.1 h)), cond_false]
     simp only [Option.bind_some];rw [ZS (by omega)]
     refine ⟨_, rfl, ⟨k + 1, c, hlt, by push_cast; rfl, ?_⟩, by simp only; omega⟩
     refine hc.congr fun m => ?_
     rw [htk]
     constructor
     ·rintro (h1 | ⟨y, hy, h1, h2⟩)
      ·exact .inl h1
      ·rcases List.mem_append.1 hy with h3 | h3
       ·exact .inr ⟨y, h3, h1, h2⟩
       ·rw [List.mem_singleton] at h3; subst h3; exact absurd h1 hcnd
     ·rintro (h1 | ⟨y, hy, h1, h2⟩)
      ·exact .inl h1
      ·exact .inr ⟨y, List.mem_append_left _ hy, h1, h2⟩
   ·right
    obtain rfl : k = g.Odd.length := by omega
    rw [Zs (by omega), cond_false]
    rw [List.take_length] at hc;refine ⟨_, rfl, hc.congr fun m => ?_⟩
    constructor
    ·rintro (h1 | ⟨i, ⟨x, hx, rfl⟩, h1, h2⟩)
     ·exact .inl h1
     ·exact .inr ⟨x, hx, h1, h2⟩
    ·rintro (h1 | ⟨x, hx, h1, h2⟩)
     ·exact .inl h1
     ·exact .inr ⟨_, ⟨x, hx, rfl⟩, h1, h2⟩) (0, b.1, b.2) ⟨0, b, Nat.zero_le _, rfl, hB.congr fun m => by simp⟩
 exact ⟨r, q1, q2⟩
theorem spots_ne {g : Form} (hs : Shape g) (h0 : 0 < g.Count) (hb : ¬ Bare g) : Z1F g ≠ [] := by
 obtain ⟨i, i1, i2, i3⟩ := cs_some hs hb h0 0
 obtain ⟨s, s1, s2⟩ := (spots_ok hs).all i i1 (by omega) i3
 exact List.ne_nil_of_mem s1
theorem sg_sg (up : Bool) (n : Int) : sgU up * (sgU up * n) = n := by unfold sgU; cases up <;> simp
theorem ZB5 {g : Form} (h : Fit g) (hb : 0 < g.Count → ¬ Bare g) {t : Int} (ht : BigT t) (up : Bool) :
  ∃ n b, ZD ⟨g, Z1F g⟩ t up = some (n, b) ∧ Best (fun m => ∃ i, AtP g up t i ∧ m = sgU up * i) (sgU up * n, b) ∧ -300000000000000 ≤ n ∧ n ≤ 300000000000000 := by
 have hs := h.shape
 have hby : (bif up then some (1 : Int) else some (-1)) = some (byU up) := by unfold byU; cases up <;> rfl
 unfold ZD
 rw [hby]
 simp only [Option.bind_some]
 have key : ∃ b : Int × Bool, (bif (decide (g.Count > 0)) then
   (Z0G ⟨g, Z1F g⟩ t up).bind fun x1 =>
   (ZF (ZD.s0 ⟨g, Z1F g⟩ (byU up)) x1).bind fun (y3 : Int) =>
   (
    (ZF (ZD.s1) (([(w64 ((w64 (0 - (byU up))) * y3))].length : Int), 0, [(w64 ((w64 (0 - (byU up))) * y3))], 0, false)).bind fun (y6 : (List Int) × Int × Bool) =>
    some (y6.1, y6.2.1, y6.2.2)).bind fun (y5 : (List Int) × Int × Bool) =>
   some (y5.2.1, y5.2.2)
  else
   some (0, false)) = some b ∧ Best (fun m => ∃ i, ¬ Z06 g i ∧ AtP g up t i ∧ m = sgU up * i) b ∧ (b.2 = true → -211106232533992 ≤ b.1 ∧ b.1 ≤ 211106232533992) := by
  by_cases h0 : 0 < g.Count
  ·rw [Zg h0, cond_true];have hsp := spots_ok hs
   have hn := spots_ne hs h0 (hb h0)
   have hln : (Z1F g).length ≤ 12 := Nat.le_trans (Z6z g _) h.few
   have hcore : ∃ i0, Z0G ⟨g, Z1F g⟩ t up = some i0 ∧ (if up then FirstC g t i0 else LastC g t i0) ∧ -211106232532992 ≤ i0 ∧ i0 ≤ 211106232532992 := by
    cases up
    ·obtain ⟨i, e1, e2, e3⟩ := Z8a h h0 hsp hn hln ht
     exact ⟨i, e1, by simpa using e2, e3⟩
    ·obtain ⟨i, e1, e2, e3⟩ := ZB4 h h0 hsp hn hln ht
     exact ⟨i, e1, by simpa using e2, e3⟩
   obtain ⟨i0, c1, c2, c3⟩ := hcore
   obtain ⟨i, w1, w2, w3, w4, w5, w6, w7⟩ := walk_eq (sp := Z1F g) h h0 (hb h0) up c3
   rw [c1];simp only [Option.bind_some];rw [w1];simp only [Option.bind_some];have hw : w64 (w64 (0 - byU up) * i) = sgU up * i := sg_w up (by omega)
   rw [hw, Z62];simp only [Option.bind_some];refine ⟨_, rfl, ?_, ?_⟩
   ·show Best _ (sgU up * i, true)
    refine ⟨fun _ => ⟨⟨i, w2, ?_, rfl⟩, ?_⟩, fun h => by cases h⟩
    ·unfold AtP;rw [Z3j h0 w2];refine ⟨w3, ?_⟩;cases up
     ·simp only [Bool.false_eq_true, if_false] at c2 w4 ⊢
      by_cases hii : i = i0
      ·rw [hii]; exact c2.2.1
      ·have o1 := Z5r hs h.turns h0 (show i < i0 by omega) w3 c2.1
       obtain ⟨j, q, j0, j1, jk, ej⟩ := Z3r h0 i
       have hjn : cs g j ≠ [] := fun hh => w3 (by rw [ej, hh]; rfl)
       have o2 := Z1y (Z2l hs h0 j0 j1) hjn
       have o3 := Z0B (q * g.Period) hjn
       rw [← ej] at o3;have := c2.2.1
       omega
     ·simp only [if_true] at c2 w4 ⊢
      by_cases hii : i = i0
      ·rw [hii]; exact c2.2.1
      ·have o1 := Z5r hs h.turns h0 (show i0 < i by omega) c2.1 w3
       obtain ⟨j, q, j0, j1, jk, ej⟩ := Z3r h0 i
       have hjn : cs g j ≠ [] := fun hh => w3 (by rw [ej, hh]; rfl)
       have o2 := Z1y (Z2l hs h0 j0 j1) hjn
       have o3 := Z0B (q * g.Period) hjn
       rw [← ej] at o3;have := c2.2.1
       omega
    ·rintro m ⟨k, k1, k2, rfl⟩;unfold AtP at k2;rw [Z3j h0 k1] at k2;cases up
     ·simp only [Bool.false_eq_true, if_false, sgU] at c2 w7 k2 ⊢
      by_cases hki : k ≤ i
      ·omega
      ·exfalso
       by_cases hk0 : k ≤ i0
       ·rcases w7 k ⟨by omega, hk0⟩ with h1 | h1
        ·exact k1 h1
        ·exact k2.1 h1
       ·have := c2.2.2 k (by omega) k2.1
        omega
     ·simp only [if_true, sgU] at c2 w7 k2 ⊢
      by_cases hki : i ≤ k
      ·omega
      ·exfalso
       by_cases hk0 : i0 ≤ k
       ·rcases w7 k ⟨hk0, by omega⟩ with h1 | h1
        ·exact k1 h1
        ·exact k2.1 h1
       ·have := c2.2.2 k (by omega) k2.1
        omega
   ·intro _
    show -211106232533992 ≤ sgU up * i ∧ sgU up * i ≤ 211106232533992
    unfold sgU;cases up <;> simp only [Bool.false_eq_true, if_false, if_true] <;> omega
  ·rw [Zs h0, cond_false];refine ⟨_, rfl, Best.none ?_, fun h => by cases h⟩
   rintro n ⟨i, i1, i2, rfl⟩;exact i2.1 (Z1g i1 (by have := hs.count; omega))
 obtain ⟨b, k1, k2, k3⟩ := key
 rw [k1]
 simp only [Option.bind_some]
 obtain ⟨r, r1, r2⟩ := reach_loop (sp := Z1F g) h up t k2
 rw [r1]
 simp only [Option.bind_some]
 have hB : Best (fun m => ∃ i, AtP g up t i ∧ m = sgU up * i) r := r2.congr fun m => by
  constructor
  ·rintro ⟨i, i1, i2⟩
   by_cases ho : Z06 g i
   ·exact .inr ⟨i, ho, i1, i2⟩
   ·exact .inl ⟨i, ho, i1, i2⟩
  ·rintro (⟨i, i1, i2, i3⟩ | ⟨i, i1, i2, i3⟩)
   ·exact ⟨i, i2, i3⟩
   ·exact ⟨i, i2, i3⟩
 have hrb : -211106232533992 ≤ r.1 ∧ r.1 ≤ 211106232533992 := by
  cases hr : r.2 with
  | false => have := (r2.no hr).1; omega
  | true =>
   rcases (r2.yes hr).1 with h1 | ⟨i, ⟨x, hx, rfl⟩, i2, i3⟩
   ·cases hbb : b.2 with
    | false => exact absurd h1 ((k2.no hbb).2 _)
    | true =>
     have e1 := (k2.yes hbb).2 _ h1
     have e2 := (r2.yes hr).2 _ (.inl (k2.yes hbb).1)
     have := k3 hbb
     omega
   ·have := (hs.odd x hx).2
    unfold ZM at this;rw [i3];unfold sgU;cases up <;> simp only [Bool.false_eq_true, if_false, if_true] <;> omega
 have hw : w64 (w64 (0 - byU up) * r.1) = sgU up * r.1 := sg_w up (by omega)
 rw [hw]
 refine ⟨sgU up * r.1, r.2, rfl, ?_, ?_⟩
 ·rw [sg_sg]; exact hB
 ·unfold sgU;cases up <;> simp only [Bool.false_eq_true, if_false, if_true] <;> omega
end Go.Dn

namespace Go.Dn
open Go
def CoreP (g : Form) (up : Bool) (d i j : Int) : Prop := cs g i ≠ [] ∧ cs g j ≠ [] ∧ (if up then d ≤ lstT (cs g j) - fstT (cs g i) else fstT (cs g j) - lstT (cs g i) ≤ d)
def Z10 (g : Form) (up : Bool) (d i j : Int) : Prop := ZQ g i ≠ [] ∧ ZQ g j ≠ [] ∧ (if up then d ≤ lstT (ZQ g j) - fstT (ZQ g i) else fstT (ZQ g j) - lstT (ZQ g i) ≤ d)
def BigI (n : Int) : Prop := -600000000000000 ≤ n ∧ n ≤ 600000000000000
theorem putB_big {b : Int × Bool} {n : Int} (hb : BigI b.1) (hn : BigI n) : BigI (putB b n).1 := by
 unfold putB; split
 ·exact hn
 ·exact hb
theorem sg_big {up : Bool} {n : Int} (h : BigI n) : BigI (sgU up * n) := by unfold BigI sgU at *; cases up <;> simp <;> omega
theorem Best.join {S W S' : Int → Prop} {b : Int × Bool} {m0 : Int} (h : Best S b) (hm : W m0) (hall : ∀ n, W n → n ≤ m0) (hS : ∀ m, S' m ↔ S m ∨ W m) : Best S' (putB b m0) := by
 have h1 := h.put (S' := fun m => S m ∨ m = m0) (n := m0) (fun m => Iff.rfl)
 refine ⟨fun hb => ⟨(hS _).2 ?_, fun n hn => ?_⟩, fun hb => ⟨(h1.no hb).1, fun n hn => ?_⟩⟩
 ·rcases (h1.yes hb).1 with h2 | h2
  ·exact .inl h2
  ·rw [h2]; exact .inr hm
 ·rcases (hS n).1 hn with h2 | h2
  ·exact (h1.yes hb).2 n (.inl h2)
  ·exact Int.le_trans (hall n h2) ((h1.yes hb).2 m0 (.inr rfl))
 ·exact (h1.no hb).2 m0 (.inr rfl)
theorem sgw2 (up : Bool) {x : Int} (h : BigI x) : w64 (sgU up * w64 x) = sgU up * x := by
 unfold BigI at h
 rw [ZS (x := x) (by omega), ZS]
 unfold sgU; cases up <;> simp <;> omega
theorem sg_le {up : Bool} {i n x : Int} (h : sgU up * i ≤ sgU up * n) : sgU up * (i - x) ≤ sgU up * (n - x) := by rw [Int.mul_sub, Int.mul_sub]; omega
theorem far_spots {g : Form} (h : Fit g) (hb : 0 < g.Count → ¬ Bare g) {d : Int} (hd : ZM d) (up : Bool) :
  ∃ r, ZF (ZP.s0 d up ⟨g, Z1F g⟩ (sgU up)) (0, 0, false) = some r ∧ BigI r.1 ∧ Best (fun m => ∃ i j, 0 ≤ i ∧ i < g.Count ∧ CoreP g up d i j ∧ m = sgU up * (j - i)) r := by
 have hs := h.shape
 have hcnt := hs.count
 have hfew := h.few
 have hsp := spots_ok hs
 have hln : (Z1F g).length ≤ 12 := Nat.le_trans (Z6z g _) h.few
 generalize Z1F g = sp at *
 obtain ⟨r, q1, q2⟩ := Z1E (step := ZP.s0 d up ⟨g, sp⟩ (sgU up))
  (fun s => ∃ (k : Nat) (c : Int × Bool), k ≤ sp.length ∧ s = ((k : Int), c.1, c.2) ∧ BigI c.1 ∧ Best (fun m => ∃ x ∈ sp.take k, ∃ j, CoreP g up d x.index j ∧ m = sgU up * (j - x.index)) c)
  (fun s => sp.length - s.1.toNat)
  (fun r => BigI r.1 ∧ Best (fun m => ∃ i j, 0 ≤ i ∧ i < g.Count ∧ CoreP g up d i j ∧ m = sgU up * (j - i)) r) (by
   rintro s ⟨k, c, hk, rfl, hcb, hc⟩;unfold ZP.s0;simp only
   by_cases hlt : k < sp.length
   ·left
    have hm := List.getElem_mem hlt
    have htk : sp.take (k + 1) = sp.take k ++ [sp[k]] := (List.take_append_getElem hlt).symm
    obtain ⟨b1, b2, b3, b4, b5⟩ := hsp.mem _ hm
    have h0 : 0 < g.Count := by omega
    have rx := Z3T (Z2l hs h0 b1 b2) b3
    rw [← b4, ← b5] at rx;unfold ZM at rx hd;rw [Zg (show (k : Int) < sp.length by omega), cond_true, at?_nat hlt]
    simp only [Option.bind_some];have hy : (bif up then some sp[k].place.first else some sp[k].place.last) = some (if up then sp[k].place.first else sp[k].place.last) := by cases up <;> rfl
    rw [hy];simp only [Option.bind_some];have hyb : -1099511627776 ≤ (if up then sp[k].place.first else sp[k].place.last) ∧ (if up then sp[k].place.first else sp[k].place.last) ≤ 1099511627776 := by split <;> omega
    have hye : (if up then sp[k].place.first else sp[k].place.last) = if up then fstT (cs g sp[k].index) else lstT (cs g sp[k].index) := by rw [b4, b5]
    generalize (if up then sp[k].place.first else sp[k].place.last) = y at *
    rw [ZS (x := y + d) (by omega)]
    have hn : sp ≠ [] := List.ne_nil_of_mem hm
    have hcore : ∃ i0, Z0G ⟨g, sp⟩ (y + d) up = some i0 ∧ (if up then FirstC g (y + d) i0 else LastC g (y + d) i0) ∧ -211106232532992 ≤ i0 ∧ i0 ≤ 211106232532992 := by
     cases up
     ·obtain ⟨i, e1, e2, e3⟩ := Z8a h h0 hsp hn hln (t := y + d) (by unfold BigT; omega)
      exact ⟨i, e1, by simpa using e2, e3⟩
     ·obtain ⟨i, e1, e2, e3⟩ := ZB4 h h0 hsp hn hln (t := y + d) (by unfold BigT; omega)
      exact ⟨i, e1, by simpa using e2, e3⟩
    obtain ⟨i0, c1, c2, c3⟩ := hcore
    rw [c1];simp only [Option.bind_some];have hbi : BigI (i0 - sp[k].index) := by unfold BigI; omega
    rw [sgw2 up hbi, ZAH];simp only [Option.bind_some];rw [ZS (by omega)]
    refine ⟨_, rfl, ⟨k + 1, putB c (sgU up * (i0 - sp[k].index)), hlt, by push_cast; rfl, putB_big hcb (sg_big hbi), ?_⟩, by simp only; omega⟩
    refine hc.join (W := fun m => ∃ j, CoreP g up d sp[k].index j ∧ m = sgU up * (j - sp[k].index)) ?_ ?_ ?_
    ·refine ⟨i0, ⟨b3, ?_⟩, rfl⟩;cases up
     ·simp only [Bool.false_eq_true, if_false] at c2 hye ⊢;exact ⟨c2.1, by have := c2.2.1; omega⟩
     ·simp only [if_true] at c2 hye ⊢;exact ⟨c2.1, by have := c2.2.1; omega⟩
    ·rintro n ⟨j, j1, rfl⟩;apply sg_le;cases up
     ·simp only [Bool.false_eq_true, if_false, sgU] at c2 hye ⊢
      by_cases hji : j ≤ i0
      ·omega
      ·have := c2.2.2 j (by omega) j1.2.1
       have j2 := j1.2.2
       simp only [Bool.false_eq_true, if_false] at j2;omega
     ·simp only [if_true, sgU] at c2 hye ⊢
      by_cases hji : i0 ≤ j
      ·omega
      ·have := c2.2.2 j (by omega) j1.2.1
       have j2 := j1.2.2
       simp only [if_true] at j2;omega
    ·intro m;rw [htk]
     constructor
     ·rintro ⟨x, hx, j, j1, j2⟩
      rcases List.mem_append.1 hx with h3 | h3
      ·exact .inl ⟨x, h3, j, j1, j2⟩
      ·rw [List.mem_singleton] at h3; subst h3; exact .inr ⟨j, j1, j2⟩
     ·rintro (⟨x, hx, j, j1, j2⟩ | ⟨j, j1, j2⟩)
      ·exact ⟨x, List.mem_append_left _ hx, j, j1, j2⟩
      ·exact ⟨_, List.mem_append_right _ (List.mem_singleton.2 rfl), j, j1, j2⟩
   ·right
    obtain rfl : k = sp.length := by omega
    rw [Zs (by omega), cond_false]
    rw [List.take_length] at hc;refine ⟨_, rfl, hcb, hc.congr fun m => ?_⟩
    constructor
    ·rintro ⟨i, j, i0, i1, hp, e⟩;obtain ⟨x, hx, rfl⟩ := hsp.all i i0 i1 hp.1
     exact ⟨x, hx, j, hp, e⟩
    ·rintro ⟨x, hx, j, hp, e⟩;obtain ⟨b1, b2, _⟩ := hsp.mem x hx
     exact ⟨x.index, j, b1, b2, hp, e⟩) (0, 0, false) ⟨0, (0, false), Nat.zero_le _, rfl, by unfold BigI; simp, Best.none (by simp)⟩
 exact ⟨r, q1, q2⟩
theorem pair_at {g : Form} {up : Bool} {d i j : Int} : Z10 g up d i j ↔ ZQ g i ≠ [] ∧ AtP g up ((if up then fstT (ZQ g i) else lstT (ZQ g i)) + d) j := by
 unfold Z10 AtP
 cases up
 ·simp only [Bool.false_eq_true, if_false];exact ⟨fun h => ⟨h.1, h.2.1, by omega⟩, fun h => ⟨h.1, h.2.1, by omega⟩⟩
 ·simp only [if_true];exact ⟨fun h => ⟨h.1, h.2.1, by omega⟩, fun h => ⟨h.1, h.2.1, by omega⟩⟩
theorem pair_to {g : Form} {up : Bool} {d i j : Int} : Z10 g up d i j ↔ ZQ g j ≠ [] ∧ AtP g (!up) ((if up then lstT (ZQ g j) else fstT (ZQ g j)) - d) i := by
 unfold Z10 AtP
 cases up
 ·simp only [Bool.false_eq_true, if_false, Bool.not_false, if_true];exact ⟨fun h => ⟨h.2.1, h.1, by omega⟩, fun h => ⟨h.2.1, h.1, by omega⟩⟩
 ·simp only [if_true, Bool.not_true, Bool.false_eq_true, if_false];exact ⟨fun h => ⟨h.2.1, h.1, by omega⟩, fun h => ⟨h.2.1, h.1, by omega⟩⟩
theorem sg_not (up : Bool) (n : Int) : sgU (!up) * n = -(sgU up * n) := by unfold sgU; cases up <;> simp
theorem far_odds {g : Form} (h : Fit g) (hb : 0 < g.Count → ¬ Bare g) {d : Int} (hd : ZM d) (up : Bool) {b : Int × Bool} {S : Int → Prop} (hbb : BigI b.1) (hB : Best S b) :
  ∃ r, ZF (ZP.s2 d up ⟨g, Z1F g⟩ (sgU up)) (0, b.1, b.2) = some r ∧ BigI r.1 ∧ Best (fun m => S m ∨ ∃ i j, (Z06 g i ∨ Z06 g j) ∧ Z10 g up d i j ∧ m = sgU up * (j - i)) r := by
 have hs := h.shape
 have hl := h.lim
 have hodd := h.odds
 obtain ⟨r, q1, q2⟩ := Z1E (step := ZP.s2 d up ⟨g, Z1F g⟩ (sgU up))
  (fun s => ∃ (k : Nat) (c : Int × Bool), k ≤ g.Odd.length ∧ s = ((k : Int), c.1, c.2) ∧ BigI c.1 ∧ Best (fun m => S m ∨ ∃ x ∈ g.Odd.take k, ∃ i j, (x.Index = i ∨ x.Index = j) ∧ Z10 g up d i j ∧ m = sgU up * (j - i)) c)
  (fun s => g.Odd.length - s.1.toNat)
  (fun r => BigI r.1 ∧ Best (fun m => S m ∨ ∃ i j, (Z06 g i ∨ Z06 g j) ∧ Z10 g up d i j ∧ m = sgU up * (j - i)) r) (by
   rintro s ⟨k, c, hk, rfl, hcb, hc⟩;unfold ZP.s2;simp only
   by_cases hlt : k < g.Odd.length
   ·left
    have hm := List.getElem_mem hlt
    have htk : g.Odd.take (k + 1) = g.Odd.take k ++ [g.Odd[k]] := (List.take_append_getElem hlt).symm
    have hset : ZQ g g.Odd[k].Index = g.Odd[k].Ticks := Z0x hs.inc hm
    have hti := (hs.odd _ hm).2
    have hrt := (hs.odd _ hm).1
    rw [Zg (show (k : Int) < g.Odd.length by omega), cond_true, at?_nat hlt]
    simp only [Option.bind_some];rw [Z8e (hl.ticks _ hm).2.1];simp only [Option.bind_some]
    by_cases hne : g.Odd[k].Ticks = []
    ·rw [if_pos hne];simp only [Bool.not_false, cond_true, Option.bind_some, Jx.elim];rw [ZS (by omega)]
     refine ⟨_, rfl, ⟨k + 1, c, hlt, by push_cast; rfl, hcb, ?_⟩, by simp only; omega⟩
     refine hc.congr fun m => ?_
     rw [htk]
     constructor
     ·rintro (h1 | ⟨x, hx, i, j, h1, h2, h3⟩)
      ·exact .inl h1
      ·rcases List.mem_append.1 hx with h4 | h4
       ·exact .inr ⟨x, h4, i, j, h1, h2, h3⟩
       ·rw [List.mem_singleton] at h4; subst h4
        rcases h1 with rfl | rfl
        ·exact absurd (hset.trans hne) h2.1
        ·exact absurd (hset.trans hne) h2.2.1
     ·rintro (h1 | ⟨x, hx, h1⟩)
      ·exact .inl h1
      ·exact .inr ⟨x, List.mem_append_left _ hx, h1⟩
    ·rw [if_neg hne];have rx := Z3T hrt hne
     unfold ZM at rx hd hti;simp only [Bool.not_true, cond_false];have hy : (bif up then some (lstT g.Odd[k].Ticks, fstT g.Odd[k].Ticks) else some (fstT g.Odd[k].Ticks, lstT g.Odd[k].Ticks)) = some ((if up then lstT g.Odd[k].Ticks else fstT g.Odd[k].Ticks), (if up then fstT g.Odd[k].Ticks else lstT g.Odd[k].Ticks)) := by cases up <;> rfl
     rw [hy];simp only [Option.bind_some];have hyb : -1099511627776 ≤ (if up then lstT g.Odd[k].Ticks else fstT g.Odd[k].Ticks) ∧ (if up then lstT g.Odd[k].Ticks else fstT g.Odd[k].Ticks) ≤ 1099511627776 := by split <;> omega
     have hzb : -1099511627776 ≤ (if up then fstT g.Odd[k].Ticks else lstT g.Odd[k].Ticks) ∧ (if up then fstT g.Odd[k].Ticks else lstT g.Odd[k].Ticks) ≤ 1099511627776 := by split <;> omega
     have pa : ∀ j, Z10 g up d g.Odd[k].Index j ↔ AtP g up ((if up then fstT g.Odd[k].Ticks else lstT g.Odd[k].Ticks) + d) j := fun j => by
      rw [pair_at, hset]; exact ⟨fun h => h.2, fun h => ⟨hne, h⟩⟩
     have pt : ∀ i, Z10 g up d i g.Odd[k].Index ↔ AtP g (!up) ((if up then lstT g.Odd[k].Ticks else fstT g.Odd[k].Ticks) - d) i := fun i => by
      rw [pair_to, hset]; exact ⟨fun h => h.2, fun h => ⟨hne, h⟩⟩
     generalize (if up then fstT g.Odd[k].Ticks else lstT g.Odd[k].Ticks) = z at *
     generalize (if up then lstT g.Odd[k].Ticks else fstT g.Odd[k].Ticks) = y at *
     rw [ZS (x := z + d) (by omega), ZS (x := y - d) (by omega)]
     obtain ⟨n1, p1, r1, t1, u1, v1⟩ := ZB5 h hb (t := z + d) (by unfold BigT; omega) up
     obtain ⟨n2, p2, r2, t2, u2, v2⟩ := ZB5 h hb (t := y - d) (by unfold BigT; omega) (!up)
     rw [r1, r2];simp only [Option.bind_some];have hb1 : BigI (n1 - g.Odd[k].Index) := by unfold BigI; omega
     have hb2 : BigI (g.Odd[k].Index - n2) := by unfold BigI; omega
     have first : ∃ c1 : Int × Bool, (bif p1 then
       (
        (ZF (ZP.s3) (([(w64 (sgU up * (w64 (n1 - g.Odd[k].Index))))].length : Int), 0, [(w64 (sgU up * (w64 (n1 - g.Odd[k].Index))))], c.1, c.2)).bind fun (y16 : (List Int) × Int × Bool) =>
        some (y16.1, y16.2.1, y16.2.2)).bind fun (y15 : (List Int) × Int × Bool) =>
       some (y15.2.1, y15.2.2)
      else
       some (c.1, c.2)) = some c1 ∧ BigI c1.1 ∧ Best (fun m => (S m ∨ ∃ x ∈ g.Odd.take k, ∃ i j, (x.Index = i ∨ x.Index = j) ∧ Z10 g up d i j ∧ m = sgU up * (j - i)) ∨ ∃ j, Z10 g up d g.Odd[k].Index j ∧ m = sgU up * (j - g.Odd[k].Index)) c1 := by
      cases hp : p1 with
      | true =>
       subst hp;rw [cond_true, sgw2 up hb1, ZAT];obtain ⟨⟨i, i1, i2⟩, hall⟩ := t1.yes rfl
       have ei : i = n1 := by
        have := congrArg (fun x => sgU up * x) i2
        simp only [sg_sg] at this;exact this.symm
       subst ei;refine ⟨_, rfl, putB_big hcb (sg_big hb1), ?_⟩;refine hc.join (W := fun m => ∃ j, Z10 g up d g.Odd[k].Index j ∧ m = sgU up * (j - g.Odd[k].Index)) ⟨i, (pa i).2 i1, rfl⟩ ?_ (fun m => Iff.rfl)
       rintro n ⟨j, j1, rfl⟩;exact sg_le (hall _ ⟨j, (pa j).1 j1, rfl⟩)
      | false =>
       subst hp;rw [cond_false];refine ⟨_, rfl, hcb, hc.congr fun m => ⟨?_, .inl⟩⟩
       rintro (h1 | ⟨j, j1, j2⟩)
       ·exact h1
       ·exact absurd ⟨j, (pa j).1 j1, rfl⟩ ((t1.no rfl).2 (sgU up * j))
     obtain ⟨c1, f1, f2, f3⟩ := first
     rw [f1];simp only [Option.bind_some];have second : ∃ c2 : Int × Bool, (bif p2 then
      (
       (ZF (ZP.s4) (([(w64 (sgU up * (w64 (g.Odd[k].Index - n2))))].length : Int), 0, [(w64 (sgU up * (w64 (g.Odd[k].Index - n2))))], c1.1, c1.2)).bind fun (y20 : (List Int) × Int × Bool) =>
       some (y20.1, y20.2.1, y20.2.2)).bind fun (y19 : (List Int) × Int × Bool) =>
      some (Jx.go (y19.2.1, y19.2.2))
     else
      some (Jx.go (c1.1, c1.2)) : Option (Jx (Int × Bool) Unit)) = some (.go c2) ∧ BigI c2.1 ∧ Best (fun m => ((S m ∨ ∃ x ∈ g.Odd.take k, ∃ i j, (x.Index = i ∨ x.Index = j) ∧ Z10 g up d i j ∧ m = sgU up * (j - i)) ∨ ∃ j, Z10 g up d g.Odd[k].Index j ∧ m = sgU up * (j - g.Odd[k].Index)) ∨ ∃ i, Z10 g up d i g.Odd[k].Index ∧ m = sgU up * (g.Odd[k].Index - i)) c2 := by
      cases hp : p2 with
      | true =>
       subst hp;rw [cond_true, sgw2 up hb2, ZAG];obtain ⟨⟨i, i1, i2⟩, hall⟩ := t2.yes rfl
       have ei : i = n2 := by
        have := congrArg (fun x => sgU (!up) * x) i2
        simp only [sg_sg] at this;exact this.symm
       subst ei;refine ⟨_, rfl, putB_big f2 (sg_big hb2), ?_⟩;refine f3.join (W := fun m => ∃ i, Z10 g up d i g.Odd[k].Index ∧ m = sgU up * (g.Odd[k].Index - i)) ⟨i, (pt i).2 i1, rfl⟩ ?_ (fun m => Iff.rfl)
       rintro n ⟨j, j1, rfl⟩;have := hall _ ⟨j, (pt j).1 j1, rfl⟩
       rw [sg_not, sg_not] at this;rw [Int.mul_sub, Int.mul_sub];omega
      | false =>
       subst hp;rw [cond_false];refine ⟨_, rfl, f2, f3.congr fun m => ⟨?_, .inl⟩⟩
       rintro (h1 | ⟨j, j1, j2⟩)
       ·exact h1
       ·exact absurd ⟨j, (pt j).1 j1, rfl⟩ ((t2.no rfl).2 (sgU (!up) * j))
     obtain ⟨c2, g1, g2, g3⟩ := second
     rw [g1];simp only [Option.bind_some, Jx.elim];rw [ZS (by omega)]
     refine ⟨_, rfl, ⟨k + 1, c2, hlt, by push_cast; rfl, g2, ?_⟩, by simp only; omega⟩
     refine g3.congr fun m => ?_
     rw [htk]
     constructor
     ·rintro (h1 | ⟨x, hx, i, j, h1, h2, h3⟩)
      ·exact .inl (.inl (.inl h1))
      ·rcases List.mem_append.1 hx with h4 | h4
       ·exact .inl (.inl (.inr ⟨x, h4, i, j, h1, h2, h3⟩))
       ·rw [List.mem_singleton] at h4; subst h4
        rcases h1 with rfl | rfl
        ·exact .inl (.inr ⟨j, h2, h3⟩)
        ·exact .inr ⟨i, h2, h3⟩
     ·rintro (((h1 | ⟨x, hx, h1⟩) | ⟨j, j1, j2⟩) | ⟨i, i1, i2⟩)
      ·exact .inl h1
      ·exact .inr ⟨x, List.mem_append_left _ hx, h1⟩
      ·exact .inr ⟨_, List.mem_append_right _ (List.mem_singleton.2 rfl), _, j, .inl rfl, j1, j2⟩
      ·exact .inr ⟨_, List.mem_append_right _ (List.mem_singleton.2 rfl), i, _, .inr rfl, i1, i2⟩
   ·right
    obtain rfl : k = g.Odd.length := by omega
    rw [Zs (by omega), cond_false]
    rw [List.take_length] at hc;refine ⟨_, rfl, hcb, hc.congr fun m => ?_⟩
    constructor
    ·rintro (h1 | ⟨i, j, h1, h2, h3⟩)
     ·exact .inl h1
     ·rcases h1 with ⟨x, hx, hxi⟩ | ⟨x, hx, hxi⟩
      ·exact .inr ⟨x, hx, i, j, .inl hxi, h2, h3⟩
      ·exact .inr ⟨x, hx, i, j, .inr hxi, h2, h3⟩
    ·rintro (h1 | ⟨x, hx, i, j, h1, h2, h3⟩)
     ·exact .inl h1
     ·rcases h1 with h1 | h1
      ·exact .inr ⟨i, j, .inl ⟨x, hx, h1⟩, h2, h3⟩
      ·exact .inr ⟨i, j, .inr ⟨x, hx, h1⟩, h2, h3⟩) (0, b.1, b.2) ⟨0, b, Nat.zero_le _, rfl, hbb, hB.congr fun m => by simp⟩
 exact ⟨r, q1, q2⟩
theorem ZAl {g : Form} (h : Fit g) (h0 : 0 < g.Count) {up : Bool} {d i j : Int} (hp : CoreP g up d i j) : ∃ i' j', Z10 g up d i' j' ∧ j' - i' = j - i := by
 obtain ⟨k, hk, hn⟩ := pigeon (g.Odd.map (·.Index) ++ g.Odd.map (fun x => x.Index - (j - i))) (fun k => i + g.Count * k) (fun a b hab => by
  have h4 : g.Count * (a : Int) = g.Count * b := by omega
  have := Int.eq_of_mul_eq_mul_left (by omega) h4
  omega)
 rw [List.mem_append, not_or] at hn
 have o1 : ¬ Z06 g (i + g.Count * k) := by
  rintro ⟨x, hx, e⟩;exact hn.1 (List.mem_map.2 ⟨x, hx, e⟩)
 have o2 : ¬ Z06 g (j + g.Count * k) := by
  rintro ⟨x, hx, e⟩;exact hn.2 (List.mem_map.2 ⟨x, hx, by rw [e]; omega⟩)
 refine ⟨i + g.Count * k, j + g.Count * k, ?_, by omega⟩
 obtain ⟨p1, p2, p3⟩ := hp
 unfold Z10
 rw [Z3j h0 o1, Z3j h0 o2, Z3e h0, Z3e h0, (Z0B _ p1).1, (Z0B _ p1).2, (Z0B _ p2).1, (Z0B _ p2).2]
 refine ⟨by simpa using p1, by simpa using p2, ?_⟩
 cases up
 ·simp only [Bool.false_eq_true, if_false] at p3 ⊢; omega
 ·simp only [if_true] at p3 ⊢; omega
theorem ZAX {g : Form} (h : Fit g) {up : Bool} {d i j : Int} (hi : ¬ Z06 g i) (hj : ¬ Z06 g j) (hp : Z10 g up d i j) : 0 < g.Count ∧ ∃ i' j', 0 ≤ i' ∧ i' < g.Count ∧ CoreP g up d i' j' ∧ j' - i' = j - i := by
 have hc := h.shape.count
 have h0 : 0 < g.Count := by
  by_cases h0 : 0 < g.Count
  ·exact h0
  ·exact absurd (Z1g hi (by omega)) hp.1
 refine ⟨h0, ?_⟩
 unfold Z10 at hp
 rw [Z3j h0 hi, Z3j h0 hj] at hp
 obtain ⟨s, q, s0, s1, rfl, es⟩ := Z3r h0 i
 have ej : cs g j = (cs g (j - g.Count * q)).map (Zk (q * g.Period)) := by
  have := Z3e h0 (j - g.Count * q) q
  rwa [show j - g.Count * q + g.Count * q = j by omega] at this
 rw [es, ej] at hp
 obtain ⟨p1, p2, p3⟩ := hp
 have n1 : cs g s ≠ [] := by simpa using p1
 have n2 : cs g (j - g.Count * q) ≠ [] := by simpa using p2
 rw [(Z0B _ n1).1, (Z0B _ n1).2, (Z0B _ n2).1, (Z0B _ n2).2] at p3
 refine ⟨s, j - g.Count * q, s0, s1, ⟨n1, n2, ?_⟩, by omega⟩
 cases up
 ·simp only [Bool.false_eq_true, if_false] at p3 ⊢; omega
 ·simp only [if_true] at p3 ⊢; omega
theorem far_eq {f g : Form} (hg : Zc f = some g) (h : Fit g) (hb : 0 < g.Count → ¬ Bare g) {d : Int} (hd : ZM d) (up : Bool) :
  ∃ n b, ZP f d up = some (n, b, 0) ∧ BigI n ∧ Best (fun m => ∃ i j, Z10 g up d i j ∧ m = sgU up * (j - i)) (sgU up * n, b) := by
 unfold ZP
 have hr : Zl d = true := by unfold Zl; unfold ZM at hd; simp; omega
 rw [hr, Bool.not_true, cond_false, made_eq hg h.lim h.few]
 simp only [Option.bind_some]
 have hy : (bif up then some (-1 : Int) else some 1) = some (sgU up) := by unfold sgU; cases up <;> rfl
 rw [hy]
 simp only [Option.bind_some]
 obtain ⟨r1, a1, a2, a3⟩ := far_spots h hb hd up
 rw [a1]
 simp only [Option.bind_some]
 obtain ⟨r2, b1, b2, b3⟩ := far_odds h hb hd up a2 a3
 rw [b1]
 simp only [Option.bind_some]
 have hw : w64 (sgU up * r2.1) = sgU up * r2.1 := by
  have := sg_big (up := up) b2
  unfold BigI at this;exact ZS (by omega)
 rw [hw]
 refine ⟨_, _, rfl, sg_big b2, ?_⟩
 rw [sg_sg]
 refine b3.congr fun m => ?_
 constructor
 ·rintro ⟨i, j, p, e⟩
  by_cases hi : Z06 g i
  ·exact .inr ⟨i, j, .inl hi, p, e⟩
  ·by_cases hj : Z06 g j
   ·exact .inr ⟨i, j, .inr hj, p, e⟩
   ·obtain ⟨h0, i', j', i0, i1, hp, e'⟩ := ZAX h hi hj p
    exact .inl ⟨i', j', i0, i1, hp, by rw [e, e']⟩
 ·rintro (⟨i, j, i0, i1, hp, e⟩ | ⟨i, j, ho, p, e⟩)
  ·obtain ⟨i', j', p, e'⟩ := ZAl h (by omega) hp
   exact ⟨i', j', p, by rw [e, e']⟩
  ·exact ⟨i, j, p, e⟩
end Go.Dn

namespace Go.Dn
open Go
def FewF (f : Form) : Prop := f.Core.length ≤ 12 ∧ f.Odd.length ≤ 8
theorem SmallF.few {f : Form} (h : SmallF f) : FewF f := ⟨h.1, h.2.1⟩
theorem Z5T {f : Form} (hl : Lim f) (hr : RightF f) (hsm : FewF f) : ∃ g, Zc f = some g ∧ Fit g ∧ (0 < g.Count → ¬ Bare g) ∧ ZQ g = ZQ f := by
 have hs := hr.shape
 obtain ⟨c, hc, hf⟩ := Z5c hl hs
 have hs' := Z4e hs hc
 have hr' := Z8P hr hc
 have hcl := coreOf_le hs hc
 refine ⟨_, hf, ⟨ZAe hl hs hc, hs', hr'.turns, Nat.le_trans hcl.2.2.1 hsm.1, Nat.le_trans (List.length_filter_le _ _) hsm.2⟩, ?_, Z68 hs hc⟩
 intro h0 hb
 have ez := Z4l hs hc
 have hz : ∀ i, csz f i = [] := fun i => by rw [← ez]; exact csz_bare hs' hb i
 rcases hc with ⟨h1, rfl⟩ | ⟨h1, h2, _⟩
 ·exact absurd h0 (by show ¬ (0 : Int) < 0; omega)
 ·obtain ⟨i, i1, i2, i3⟩ := cs_some hs h1 h2 0
  have := hz i
  rw [Z2U h2] at this;exact i3 this
structure DownS (f : Form) (d : Int) (r : Int × Bool) : Prop where
 yes : r.2 = true → (∃ i j, Z10 f false d i j ∧ r.1 = j - i) ∧ ∀ i j, Z10 f false d i j → j - i ≤ r.1
 no : r.2 = false → ∀ i j, ¬ Z10 f false d i j
structure UpS (f : Form) (d : Int) (r : Int × Bool) : Prop where
 yes : r.2 = true → (∃ i j, Z10 f true d i j ∧ r.1 = j - i) ∧ ∀ i j, Z10 f true d i j → r.1 ≤ j - i
 no : r.2 = false → ∀ i j, ¬ Z10 f true d i j
theorem Z69 {f g : Form} (h : ZQ g = ZQ f) {up : Bool} {d i j : Int} : Z10 g up d i j ↔ Z10 f up d i j := by unfold Z10; rw [h]
theorem down_mono {f : Form} {d d' i j : Int} (h : Z10 f false d i j) (hd : d ≤ d') : Z10 f false d' i j := by
 unfold Z10 at *
 simp only [Bool.false_eq_true, if_false] at *
 exact ⟨h.1, h.2.1, by omega⟩
noncomputable def bad (low high : Bound) : Bool := (((!(Z1f low)) || (!(Z1f high))) || (low.Inf == 1)) || (high.Inf == (-1))
structure RangeS (f : Form) (low high : Bound) (r : Range) (ok : Bool) : Prop where
 none : ok = false → r = Range.mk 0 0 false false
 hi : ok = true → (r.HasHigh = true ↔ high.Inf = 0 ∧ high.N ≤ 1099511627776)
 lo : ok = true → (r.HasLow = true ↔ low.Inf = 0 ∧ -1099511627776 ≤ low.N)
 atH : ok = true → r.HasHigh = true → DownS f (max high.N (-1099511627776)) (r.High, true)
 atL : ok = true → r.HasLow = true → UpS f (min low.N 1099511627776) (r.Low, true)
 nhi : ok = true → r.HasHigh = false → r.High = 0
 nlo : ok = true → r.HasLow = false → r.Low = 0
 not : ok = false → (high.Inf = 0 ∧ high.N ≤ 1099511627776 ∧ ∀ i j, ¬ Z10 f false (max high.N (-1099511627776)) i j) ∨ (low.Inf = 0 ∧ -1099511627776 ≤ low.N ∧ ∀ i j, ¬ Z10 f true (min low.N 1099511627776) i j)
def Near (f : Form) (m d : Int) : Prop := ∃ i j, Z10 f false d i j ∧ m ≤ j - i
theorem Near.mono {f : Form} {m m' d d' : Int} (h : Near f m d) (hm : m' ≤ m) (hd : d ≤ d') : Near f m' d' := by
 obtain ⟨i, j, h1, h2⟩ := h
 exact ⟨i, j, down_mono h1 hd, by omega⟩
def farI (m : Int) : Int := min (max m (-4611686018427387904)) 4611686018427387904
def LowD (f : Form) (m d : Int) : Prop := -1099511627776 ≤ d ∧ d ≤ 1099511627776 ∧ (∀ z, -1099511627776 ≤ z → z < d → ¬ Near f m z) ∧ (d < 1099511627776 → Near f m d)
def boundD (d : Int) : Bound := if d = -1099511627776 then ⟨-1, 0⟩ else ⟨0, d⟩
theorem LowD.mono {f : Form} {m m' d d' : Int} (h : LowD f m d) (h' : LowD f m' d') (hm : m ≤ m') : d ≤ d' := by
 obtain ⟨a1, a2, a3, a4⟩ := h
 obtain ⟨b1, b2, b3, b4⟩ := h'
 by_cases hd : d ≤ d'
 ·exact hd
 ·exact absurd ((b4 (by omega)).mono hm (Int.le_refl _)) (a3 d' b1 (by omega))
def boundH (d : Int) : Bound := if d = -1099511627776 then ⟨1, 0⟩ else ⟨0, -d⟩
def goodB (x : Bound) : Prop := Z1f x = true ∧ x.N ≤ 1099511627776 ∧ -1099511627776 ≤ x.N
end Go.Dn

namespace Go.Dn
open Go
theorem sub_fit {a b : Int} (ha : In64 a) (hb : In64 b) : Z00 a b = fitS (a - b) := by
 unfold In64 at ha hb
 unfold Z00 fitS w64
 rw [Z4w]
 cases h : ((decide ((a - b + 9223372036854775808) % 18446744073709551616 - 9223372036854775808 < a) != decide (b > 0)) && b != 0)
 ·rw [cond_false];simp only [Bool.and_eq_false_iff, bne_eq_false_iff_eq, decide_eq_decide] at h
  split <;> simp only [Prod.mk.injEq, and_true] <;> omega
 ·rw [cond_true];simp only [Bool.and_eq_true, bne_iff_ne, ne_eq, decide_eq_decide] at h
  split <;> simp only [Prod.mk.injEq] <;> omega
theorem ZBC {f : Form} (hl : Lim f) : ∃ b, Z2D f = some b ∧ (b = true ↔ SmallF f ∧ RightF f) := by
 unfold Z2D
 obtain ⟨b, hb, hbs⟩ := Z7R hl
 rw [hb]
 simp only [Option.bind_some]
 cases b with
 | false => exact ⟨false, rfl, fun h => (by cases h), fun h => by have := hbs.2 h.1; cases this⟩
 | true =>
  have hsm := hbs.1 rfl
  have hnl : ¬ LongF f := by unfold LongF; have := hsm.1; have := hsm.2.1; have := hsm.2.2; omega
  rw [cond_true]
  rcases gran_Right_eq hl with ⟨h, _⟩ | ⟨_, h1, h2⟩ | ⟨_, h1, h2⟩
  ·exact absurd h hnl
  ·rw [h2]; exact ⟨true, rfl, fun _ => ⟨hsm, h1⟩, fun _ => rfl⟩
  ·rw [h2]; exact ⟨false, rfl, fun h => (by cases h), fun h => absurd h.2 h1⟩
theorem Z7D (x : Int × Int) (b : Int) (c : Bool) : ZF (ZC.s1 x) (0, b, c) = some (putB (b, c) x.1) := by
 rw [Z13]
 have e1 : ZC.s1 x (0, b, c) = some (.inl (1, putB (b, c) x.1)) := by
  unfold ZC.s1;simp only;rw [Zg (show (0 : Int) < ([x.1].length : Int) by simp), cond_true, show at? [x.1] 0 = some x.1 from rfl]
  simp only [Option.bind_some];unfold putB;cases c with
  | false => rfl
  | true =>
   by_cases h : x.1 > b
   ·simp only [h, decide_true, Bool.or_true, cond_true, or_true, if_true]; rfl
   ·simp only [h, decide_false, Bool.not_true, Bool.or_false, cond_false, Bool.true_eq_false, or_self, if_false]; rfl
 rw [e1]
 simp only
 rw [Z13]
 have e2 : ZC.s1 x (1, putB (b, c) x.1) = some (.inr (putB (b, c) x.1)) := by
  unfold ZC.s1;simp only;rw [Zs (show ¬ (1 : Int) < ([x.1].length : Int) by simp), cond_false]
 rw [e2]
theorem put_over_s3 (x : Int × Int) (b : Int) (c : Bool) : ZF (ZC.s3 x) (0, b, c) = some (putB (b, c) x.1) := Z7D x b c
theorem put_over_s4 (x : Int × Int) (b : Int) (c : Bool) : ZF (ZC.s4 x) (0, b, c) = some (putB (b, c) x.1) := Z7D x b c
noncomputable def lookO (A B : Option (size_place × Bool × Int)) (tell : size_place → size_place → Option (Int × Int)) (c : Int × Bool) : Option (Int × Int × Bool) :=
 A.bind fun x1 =>
 bif ((x1.2.2 != 0) || (!x1.2.1)) then
  some (x1.2.2, c.1, c.2)
 else
  B.bind fun x2 =>
  bif ((x2.2.2 != 0) || (!x2.2.1)) then
   some (x2.2.2, c.1, c.2)
  else
   (tell x1.1 x2.1).bind fun x3 =>
   (bif (x3.2 == 0) then some (putB (c.1, c.2) x3.1) else some (c.1, c.2)).bind fun (y3 : Int × Bool) =>
   some (x3.2, y3.1, y3.2)
theorem ZBE (f : size_form) (k : Int) (tell : size_place → size_place → Option (Int × Int)) (s1 : Int × Int × Bool) : ZC.s0 f k tell s1 =
  (bif (decide (s1.1 < f.Form.Count)) then
   (lookO (Z0E f s1.1) (Z0E f (w64 (s1.1 + k))) tell (s1.2.1, s1.2.2)).bind fun (y2 : Int × Int × Bool) =>
   (bif (y2.1 != 0) then
    some (.inr (.ret (0, false, 10)))
   else
    some (.inl ((w64 (s1.1 + 1)), y2.2.1, y2.2.2)))
  else
   some (.inr (.go (s1.2.1, s1.2.2)))) := by
 unfold ZC.s0 lookO
 simp only [Z7D, Option.bind_some]
theorem ZBS (f : size_form) (k : Int) (tell : size_place → size_place → Option (Int × Int)) (s3 : Int × Int × Bool) : ZC.s2 f k tell s3 =
  (bif (decide (s3.1 < (f.Form.Odd.length : Int))) then
   ((at? f.Form.Odd s3.1).bind fun x5 =>
    (bif ((x5.Ticks.length : Int) == 0) then
     some (.go (s3.2.1, s3.2.2))
    else
     (lookO (Z0O f x5.Index) (Z0O f (w64 (x5.Index + k))) tell (s3.2.1, s3.2.2)).bind fun (y10 : Int × Int × Bool) =>
     (
      (bif (y10.1 != 0) then
       some (true, (y10.2.1, y10.2.2))
      else
       (lookO (Z0O f (w64 (x5.Index - k))) (Z0O f (w64 ((w64 (x5.Index - k)) + k))) tell (y10.2.1, y10.2.2)).bind fun (y17 : Int × Int × Bool) =>
       some ((y17.1 != 0), (y17.2.1, y17.2.2)))).bind fun (y16 : Bool × Int × Bool) =>
     (bif y16.1 then
      some (.ret (0, false, 10))
     else
      some (.go (y16.2.1, y16.2.2))))).bind fun (y9 : Jx (Int × Bool) (Int × Bool × Int)) =>
   y9.elim (fun r' =>
     some (.inr (.ret r'))) fun a5 =>
   some (.inl ((w64 (s3.1 + 1)), a5.1, a5.2))
  else
   some (.inr (.go (s3.2.1, s3.2.2)))) := by
 unfold ZC.s2 lookO
 simp only [put_over_s3, put_over_s4, Option.bind_some]
def AtQ (A : Option (size_place × Bool × Int)) (l : List Span) : Prop :=
 ∃ p b e, A = some (p, b, e) ∧ (e = 0 → (b = true ↔ l ≠ []) ∧ (l ≠ [] → p = ⟨fstT l, lstT l⟩ ∧ In64 p.first ∧ In64 p.last))
theorem plain_at {g : Form} {sp : List size_spot} (hl : Lim g) (hs : Shape g) {i : Int} (hi : In64 i) : AtQ (Z0E ⟨g, sp⟩ i) (csz g i) := by
 unfold Z0E
 have hcnt := hs.count
 by_cases h0 : g.Count = 0
 ·simp only;rw [beq_t h0, cond_true];refine ⟨_, _, _, rfl, fun _ => ?_⟩
  unfold csz;rw [if_pos h0]
  simp
 ·have hp : 0 < g.Count := by omega
  simp only;rw [beq_f h0, cond_false, Z2O hi hl.count, Z40 hp];simp only [Option.bind_some];obtain ⟨c1, c2⟩ := Z1i hs h0 i
  rw [c1];simp only [Option.bind_some];rw [Z8e (hl.sets _ c2).1];simp only [Option.bind_some];have hcsz : csz g i = (Z0r g i).map (Zk (i / g.Count * g.Period)) := by rw [Z2U hp]; rfl
  by_cases hn : Z0r g i = []
  ·rw [if_pos hn];simp only [Bool.not_false, cond_true];refine ⟨_, _, _, rfl, fun _ => ?_⟩
   rw [hcsz, hn]
   simp
  ·rw [if_neg hn];simp only [Bool.not_true, cond_false];have hr : RightL (Z0r g i) := hs.core _ c2
   have ht := Z3T hr hn
   unfold ZM at ht;have hq : In64 (i / g.Count) := by
    have h1 := Int.emod_add_mul_ediv i g.Count
    have h2 := Int.emod_nonneg i h0
    have h3 := Int.emod_lt_of_pos i hp
    unfold In64 at hi ⊢;have q1 : i / g.Count ≤ 9223372036854775807 := Int.ediv_le_of_le_mul hp (by
     have : (9223372036854775807 : Int) * 1 ≤ 9223372036854775807 * g.Count := Int.mul_le_mul_of_nonneg_left (by omega) (by decide)
     omega)
    have q2 : -9223372036854775808 ≤ i / g.Count := Int.le_ediv_of_mul_le hp (by
     have : (9223372036854775808 : Int) * 1 ≤ 9223372036854775808 * g.Count := Int.mul_le_mul_of_nonneg_left (by omega) (by decide)
     omega)
    exact ⟨q2, q1⟩
   rw [ZA0 hq hl.period];have hne : (Z0r g i).map (Zk (i / g.Count * g.Period)) ≠ [] := by simpa using hn
   obtain ⟨l1, l2⟩ := Z0B (i / g.Count * g.Period) hn
   rcases Z8H (i / g.Count * g.Period) with ⟨f1, f2⟩ | ⟨f1, f2⟩
   ·rw [f2];simp only;rw [Z5R (by unfold In64; omega) f1, Z5R (by unfold In64; omega) f1]
    rcases Z8H (fstT (Z0r g i) + i / g.Count * g.Period) with ⟨a1, a2⟩ | ⟨a1, a2⟩
    ·rw [a2]
     rcases Z8H (lstT (Z0r g i) + i / g.Count * g.Period) with ⟨b1, b2⟩ | ⟨b1, b2⟩
     ·rw [b2];refine ⟨_, _, _, rfl, fun _ => ?_⟩
      rw [hcsz, l1, l2];refine ⟨⟨fun _ => hne, fun _ => rfl⟩, fun _ => ⟨rfl, a1, b1⟩⟩
     ·rw [b2];exact ⟨_, _, _, rfl, fun h => by cases h⟩
    ·rw [a2];exact ⟨_, _, _, rfl, fun h => by cases h⟩
   ·rw [f2];exact ⟨_, _, _, rfl, fun h => by cases h⟩
theorem at_at {g : Form} {sp : List size_spot} (hl : Lim g) (hs : Shape g) {i : Int} (hi : In64 i) : AtQ (Z0O ⟨g, sp⟩ i) (ZQ g i) := by
 obtain ⟨p, h1, h2, h3⟩ := Z8G (t := i) hl.odd hs.inc
 have e : ZB g.Odd i (fun z0 z1 => some (Z1l z0 z1)) = some ((p : Int), decide (∃ x, g.Odd[p]? = some x ∧ x.Index = i)) := h3
 by_cases hx : ∃ x, g.Odd[p]? = some x ∧ x.Index = i
 ·unfold Z0O Z1C;simp only;rw [e];simp only [Option.bind_some];rw [Zg hx];simp only [Bool.not_true, cond_false, Option.bind_some];rw [Zg (show (p : Int) ≥ 0 by omega), cond_true]
  obtain ⟨x, e1, rfl⟩ := hx
  have hm := List.mem_of_getElem? e1
  have hat : at? g.Odd (p : Int) = some x := by
   unfold at?;rw [if_pos (by omega), Int.toNat_natCast, e1]
  rw [hat];simp only [Option.bind_some];rw [Z8e (hl.ticks _ hm).2.1, Z0x hs.inc hm];simp only [Option.bind_some];refine ⟨_, _, _, rfl, fun _ => ?_⟩
  by_cases hn : x.Ticks = []
  ·rw [if_pos hn, hn]; simp
  ·rw [if_neg hn];have ht := Z3T (hs.odd x hm).1 hn
   unfold ZM at ht;refine ⟨⟨fun _ => hn, fun _ => rfl⟩, fun _ => ⟨rfl, ?_, ?_⟩⟩ <;> simp only <;> unfold In64 <;> omega
 ·obtain ⟨n, n1, n2⟩ := ZA3 (sp := sp) hl hs i
  have hno : ¬ Z06 g i := by
   rintro ⟨x, hx1, hx2⟩;obtain ⟨k, hk⟩ := List.getElem?_of_mem hx1
   have hkp := h2 k x hk
   by_cases hkk : k = p
   ·subst hkk; exact hx ⟨x, hk, hx2⟩
   ·have : p < k := by omega
    have hlt := (List.getElem?_eq_some_iff.1 hk).1
    have hp : g.Odd[p]? = some (g.Odd[p]'(by omega)) := List.getElem?_eq_getElem (by omega)
    have q1 := h2 p _ hp
    have q2 := hs.inc p k _ x this hp hk
    omega
  unfold Z0O
  rw [n1];simp only [Option.bind_some];rw [Zs (fun h => hno (n2.1 h)), cond_false, Z2u hno]
  obtain ⟨p', b, e', h, hh⟩ := plain_at (sp := sp) hl hs hi
  rw [h];exact ⟨p', b, e', rfl, hh⟩
structure Tells (tell : size_place → size_place → Option (Int × Int)) (tv : List Span → List Span → Int) : Prop where
 eq : ∀ l m, In64 (fstT l) → In64 (lstT l) → In64 (fstT m) → In64 (lstT m) → tell ⟨fstT l, lstT l⟩ ⟨fstT m, lstT m⟩ = some (fitS (tv l m))
 shift : ∀ l m d, l ≠ [] → m ≠ [] → tv (l.map (Zk d)) (m.map (Zk d)) = tv l m
theorem Z9E {A B : Option (size_place × Bool × Int)} {l m : List Span} {tell : size_place → size_place → Option (Int × Int)} {tv : List Span → List Span → Int} (ht : Tells tell tv) (hA : AtQ A l) (hB : AtQ B m)
  {c : Int × Bool} {S : Int → Prop} (hc : Best S c) (hi : In64 c.1) :
  ∃ e c', lookO A B tell c = some (e, c') ∧ (e = 0 → Best (fun n => S n ∨ (l ≠ [] ∧ m ≠ [] ∧ n = tv l m)) c' ∧ In64 c'.1) := by
 obtain ⟨p, b, e, rfl, h1⟩ := hA
 obtain ⟨p', b', e', rfl, h2⟩ := hB
 unfold lookO
 simp only [Option.bind_some]
 by_cases he : e = 0
 ·obtain ⟨i1, i2⟩ := h1 he
  subst he;cases b with
  | false =>
   have hl : l = [] := by
    apply Classical.byContradiction;intro h; have := i1.2 h; cases this
   refine ⟨0, c, rfl, fun _ => ⟨hc.congr fun n => ?_, hi⟩⟩
   exact ⟨fun h => h.elim id fun h => absurd hl h.1, .inl⟩
  | true =>
   have hl := i1.1 rfl
   obtain ⟨rfl, a1, a2⟩ := i2 hl
   by_cases he' : e' = 0
   ·obtain ⟨j1, j2⟩ := h2 he'
    subst he';cases b' with
    | false =>
     have hm : m = [] := by
      apply Classical.byContradiction;intro h; have := j1.2 h; cases this
     refine ⟨0, c, rfl, fun _ => ⟨hc.congr fun n => ?_, hi⟩⟩
     exact ⟨fun h => h.elim id fun h => absurd hm h.2.1, .inl⟩
    | true =>
     have hm := j1.1 rfl
     obtain ⟨rfl, b1, b2⟩ := j2 hm
     simp only [bne_self_eq_false, Bool.not_true, Bool.or_self, cond_false];simp only at a1 a2 b1 b2;rw [ht.eq l m a1 a2 b1 b2];simp only [Option.bind_some]
     rcases Z8H (tv l m) with ⟨f1, f2⟩ | ⟨f1, f2⟩
     ·rw [f2];simp only [beq_self_eq_true, cond_true, Option.bind_some];refine ⟨0, _, rfl, fun _ => ⟨hc.put fun n => ?_, ?_⟩⟩
      ·exact ⟨fun h => h.elim .inl fun h => .inr h.2.2, fun h => h.elim .inl fun h => .inr ⟨hl, hm, h⟩⟩
      ·unfold putB; split
       ·exact f1
       ·exact hi
     ·rw [f2];exact ⟨10, _, rfl, fun h => by cases h⟩
   ·have : (e' != 0) = true := by simpa using he'
    simp only [bne_self_eq_false, Bool.not_true, Bool.or_self, cond_false];rw [this, Bool.true_or, cond_true];exact ⟨e', c, rfl, fun h => absurd h he'⟩
 ·have : (e != 0) = true := by simpa using he
  rw [this, Bool.true_or, cond_true];exact ⟨e, c, rfl, fun h => absurd h he⟩
def TwoP (g : Form) (tv : List Span → List Span → Int) (k n : Int) : Prop := ∃ i, ZQ g i ≠ [] ∧ ZQ g (i + k) ≠ [] ∧ n = tv (ZQ g i) (ZQ g (i + k))
theorem over_core {g : Form} {sp : List size_spot} (h : Fit g) {k : Int} (hk : ZM k) {tell : size_place → size_place → Option (Int × Int)} {tv : List Span → List Span → Int} (ht : Tells tell tv) :
  ZF (ZC.s0 ⟨g, sp⟩ k tell) (0, 0, false) = some (.ret (0, false, 10)) ∨
  ∃ c, ZF (ZC.s0 ⟨g, sp⟩ k tell) (0, 0, false) = some (.go c) ∧ Best (fun n => ∃ i, 0 ≤ i ∧ i < g.Count ∧ csz g i ≠ [] ∧ csz g (i + k) ≠ [] ∧ n = tv (csz g i) (csz g (i + k))) c ∧ In64 c.1 := by
 have hs := h.shape
 have hl := h.lim
 have hcnt := hs.count
 have hfew := h.few
 unfold ZM at hk
 obtain ⟨r, q1, q2⟩ := Z1E (step := ZC.s0 ⟨g, sp⟩ k tell)
  (fun s => ∃ (j : Nat) (c : Int × Bool), (j : Int) ≤ g.Count ∧ s = ((j : Int), c.1, c.2) ∧ Best (fun n => ∃ i, 0 ≤ i ∧ i < (j : Int) ∧ csz g i ≠ [] ∧ csz g (i + k) ≠ [] ∧ n = tv (csz g i) (csz g (i + k))) c ∧ In64 c.1)
  (fun s => (g.Count - s.1).toNat)
  (fun r => r = .ret (0, false, 10) ∨ ∃ c, r = .go c ∧ Best (fun n => ∃ i, 0 ≤ i ∧ i < g.Count ∧ csz g i ≠ [] ∧ csz g (i + k) ≠ [] ∧ n = tv (csz g i) (csz g (i + k))) c ∧ In64 c.1) (by
   rintro s ⟨j, c, hj, rfl, hc, hci⟩;rw [ZBE];simp only
   by_cases hlt : (j : Int) < g.Count
   ·rw [Zg hlt, cond_true];rw [ZS (x := (j : Int) + k) (by omega)]
    obtain ⟨e, c', l1, l2⟩ := Z9E ht (plain_at (sp := sp) hl hs (i := (j : Int)) (by unfold In64; omega)) (plain_at (sp := sp) hl hs (i := (j : Int) + k) (by unfold In64; omega)) hc hci
    rw [l1];simp only [Option.bind_some]
    by_cases he : e = 0
    ·left
     obtain ⟨b1, b2⟩ := l2 he
     subst he;simp only [bne_self_eq_false, cond_false];rw [ZS (by omega)]
     refine ⟨_, rfl, ⟨j + 1, c', by push_cast; omega, by push_cast; rfl, b1.congr fun n => ?_, b2⟩, by simp only; omega⟩
     constructor
     ·rintro ⟨i, i0, i1, hh⟩
      by_cases hij : i = j
      ·subst hij; exact .inr hh
      ·exact .inl ⟨i, i0, by push_cast at i1; omega, hh⟩
     ·rintro (⟨i, i0, i1, hh⟩ | hh)
      ·exact ⟨i, i0, by push_cast; omega, hh⟩
      ·exact ⟨j, by omega, by push_cast; omega, hh⟩
    ·right
     have : (e != 0) = true := by simpa using he
     rw [this, cond_true];exact ⟨_, rfl, .inl rfl⟩
   ·right
    rw [Zs hlt, cond_false];have : (j : Int) = g.Count := by omega
    rw [this] at hc;exact ⟨_, rfl, .inr ⟨c, rfl, hc, hci⟩⟩) (0, 0, false) ⟨0, (0, false), by simp; omega, rfl, Best.none (by rintro n ⟨i, i0, i1, _⟩; simp at i1; omega), by unfold In64; simp⟩
 rcases q2 with rfl | ⟨c, rfl, hh⟩
 ·exact .inl q1
 ·exact .inr ⟨c, q1, hh⟩
theorem over_odds {g : Form} {sp : List size_spot} (h : Fit g) {k : Int} (hk : ZM k) {tell : size_place → size_place → Option (Int × Int)} {tv : List Span → List Span → Int} (ht : Tells tell tv) {b : Int × Bool} {S : Int → Prop} (hb : Best S b) (hbi : In64 b.1) :
  ZF (ZC.s2 ⟨g, sp⟩ k tell) (0, b.1, b.2) = some (.ret (0, false, 10)) ∨
  ∃ c, ZF (ZC.s2 ⟨g, sp⟩ k tell) (0, b.1, b.2) = some (.go c) ∧ Best (fun n => S n ∨ ∃ i, (Z06 g i ∨ Z06 g (i + k)) ∧ ZQ g i ≠ [] ∧ ZQ g (i + k) ≠ [] ∧ n = tv (ZQ g i) (ZQ g (i + k))) c ∧ In64 c.1 := by
 have hs := h.shape
 have hl := h.lim
 have hodd := h.odds
 unfold ZM at hk
 obtain ⟨r, q1, q2⟩ := Z1E (step := ZC.s2 ⟨g, sp⟩ k tell)
  (fun s => ∃ (j : Nat) (c : Int × Bool), j ≤ g.Odd.length ∧ s = ((j : Int), c.1, c.2) ∧ Best (fun n => S n ∨ ∃ x ∈ g.Odd.take j, ∃ i, (x.Index = i ∨ x.Index = i + k) ∧ ZQ g i ≠ [] ∧ ZQ g (i + k) ≠ [] ∧ n = tv (ZQ g i) (ZQ g (i + k))) c ∧ In64 c.1)
  (fun s => g.Odd.length - s.1.toNat)
  (fun r => r = .ret (0, false, 10) ∨ ∃ c, r = .go c ∧ Best (fun n => S n ∨ ∃ i, (Z06 g i ∨ Z06 g (i + k)) ∧ ZQ g i ≠ [] ∧ ZQ g (i + k) ≠ [] ∧ n = tv (ZQ g i) (ZQ g (i + k))) c ∧ In64 c.1) (by
   rintro s ⟨j, c, hj, rfl, hc, hci⟩;rw [ZBS];simp only
   by_cases hlt : j < g.Odd.length
   ·have hm := List.getElem_mem hlt
    have htk : g.Odd.take (j + 1) = g.Odd.take j ++ [g.Odd[j]] := (List.take_append_getElem hlt).symm
    have hset : ZQ g g.Odd[j].Index = g.Odd[j].Ticks := Z0x hs.inc hm
    have hti := (hs.odd _ hm).2
    unfold ZM at hti;rw [Zg (show (j : Int) < g.Odd.length by omega), cond_true, at?_nat hlt]
    simp only [Option.bind_some];have hw : w64 ((j : Int) + 1) = ((j + 1 : Nat) : Int) := by rw [ZS (by omega)]; push_cast; rfl
    by_cases hne : g.Odd[j].Ticks = []
    ·left
     rw [hne];simp only [List.length_nil, Int.natCast_zero, beq_self_eq_true, cond_true, Option.bind_some, Jx.elim];rw [hw];refine ⟨_, rfl, ⟨j + 1, c, hlt, rfl, hc.congr fun n => ?_, hci⟩, by simp only; omega⟩
     rw [htk]
     constructor
     ·rintro (h1 | ⟨x, hx, i, h1, h2, h3, h4⟩)
      ·exact .inl h1
      ·rcases List.mem_append.1 hx with h5 | h5
       ·exact .inr ⟨x, h5, i, h1, h2, h3, h4⟩
       ·rw [List.mem_singleton] at h5; subst h5
        rcases h1 with rfl | h1
        ·exact absurd (hset.trans hne) h2
        ·rw [← h1] at h3; exact absurd (hset.trans hne) h3
     ·rintro (h1 | ⟨x, hx, h1⟩)
      ·exact .inl h1
      ·exact .inr ⟨x, List.mem_append_left _ hx, h1⟩
    ·have hlen : ¬ ((g.Odd[j].Ticks.length : Int) = 0) := by have := List.length_pos_iff.2 hne; omega
     rw [beq_f hlen, cond_false, ZS (x := g.Odd[j].Index + k) (by omega), ZS (x := g.Odd[j].Index - k) (by omega), ZS (x := g.Odd[j].Index - k + k) (by omega)]
     obtain ⟨e, c1, l1, l2⟩ := Z9E ht (at_at (sp := sp) hl hs (i := g.Odd[j].Index) (by unfold In64; omega)) (at_at (sp := sp) hl hs (i := g.Odd[j].Index + k) (by unfold In64; omega)) hc hci
     rw [l1];simp only [Option.bind_some]
     by_cases he : e = 0
     ·obtain ⟨b1, b2⟩ := l2 he
      subst he;simp only [bne_self_eq_false, cond_false];obtain ⟨e', c2, m1, m2⟩ := Z9E ht (at_at (sp := sp) hl hs (i := g.Odd[j].Index - k) (by unfold In64; omega)) (at_at (sp := sp) hl hs (i := g.Odd[j].Index - k + k) (by unfold In64; omega)) b1 b2
      rw [m1];simp only [Option.bind_some]
      by_cases he' : e' = 0
      ·left
       obtain ⟨d1, d2⟩ := m2 he'
       subst he';simp only [bne_self_eq_false, cond_false, Option.bind_some, Jx.elim];rw [hw];refine ⟨_, rfl, ⟨j + 1, c2, hlt, rfl, d1.congr fun n => ?_, d2⟩, by simp only; omega⟩
       rw [htk]
       constructor
       ·rintro (h1 | ⟨x, hx, i, h1, h2, h3, h4⟩)
        ·exact .inl (.inl (.inl h1))
        ·rcases List.mem_append.1 hx with h5 | h5
         ·exact .inl (.inl (.inr ⟨x, h5, i, h1, h2, h3, h4⟩))
         ·rw [List.mem_singleton] at h5; subst h5
          rcases h1 with rfl | h1
          ·exact .inl (.inr ⟨h2, h3, h4⟩)
          ·have hi : i = g.Odd[j].Index - k := by omega
           subst hi;exact .inr ⟨h2, h3, h4⟩
       ·rintro (((h1 | ⟨x, hx, h1⟩) | h1) | h1)
        ·exact .inl h1
        ·exact .inr ⟨x, List.mem_append_left _ hx, h1⟩
        ·exact .inr ⟨_, List.mem_append_right _ (List.mem_singleton.2 rfl), _, .inl rfl, h1⟩
        ·exact .inr ⟨_, List.mem_append_right _ (List.mem_singleton.2 rfl), _, .inr (by omega), h1⟩
      ·right
       have : (e' != 0) = true := by simpa using he'
       rw [this];simp only [Option.bind_some, cond_true, Jx.elim];exact ⟨_, rfl, .inl rfl⟩
     ·right
      have : (e != 0) = true := by simpa using he
      rw [this];simp only [cond_true, Option.bind_some, Jx.elim];exact ⟨_, rfl, .inl rfl⟩
   ·right
    obtain rfl : j = g.Odd.length := by omega
    rw [Zs (by omega), cond_false]
    rw [List.take_length] at hc;refine ⟨_, rfl, .inr ⟨c, rfl, hc.congr fun n => ?_, hci⟩⟩
    constructor
    ·rintro (h1 | ⟨i, h1, h2⟩)
     ·exact .inl h1
     ·rcases h1 with ⟨x, hx, hxi⟩ | ⟨x, hx, hxi⟩
      ·exact .inr ⟨x, hx, i, .inl hxi, h2⟩
      ·exact .inr ⟨x, hx, i, .inr hxi, h2⟩
    ·rintro (h1 | ⟨x, hx, i, h1, h2⟩)
     ·exact .inl h1
     ·rcases h1 with h1 | h1
      ·exact .inr ⟨i, .inl ⟨x, hx, h1⟩, h2⟩
      ·exact .inr ⟨i, .inr ⟨x, hx, h1⟩, h2⟩) (0, b.1, b.2) ⟨0, b, Nat.zero_le _, rfl, hb.congr fun n => by simp, hbi⟩
 rcases q2 with rfl | ⟨c, rfl, hh⟩
 ·exact .inl q1
 ·exact .inr ⟨c, q1, hh⟩
theorem over_free {g : Form} (h : Fit g) {tv : List Span → List Span → Int} (hsh : ∀ l m d, l ≠ [] → m ≠ [] → tv (l.map (Zk d)) (m.map (Zk d)) = tv l m) {k n : Int} :
  TwoP g tv k n ↔ (∃ i, 0 ≤ i ∧ i < g.Count ∧ csz g i ≠ [] ∧ csz g (i + k) ≠ [] ∧ n = tv (csz g i) (csz g (i + k))) ∨ ∃ i, (Z06 g i ∨ Z06 g (i + k)) ∧ ZQ g i ≠ [] ∧ ZQ g (i + k) ≠ [] ∧ n = tv (ZQ g i) (ZQ g (i + k)) := by
 have hc := h.shape.count
 constructor
 ·rintro ⟨i, h1, h2, h3⟩
  by_cases ho : Z06 g i ∨ Z06 g (i + k)
  ·exact .inr ⟨i, ho, h1, h2, h3⟩
  ·rw [not_or] at ho;have h0 : 0 < g.Count := by
    by_cases h0 : 0 < g.Count
    ·exact h0
    ·exact absurd (Z1g ho.1 (by omega)) h1
   rw [Z2u ho.1, Z2u ho.2, Z2U h0] at *
   obtain ⟨s, q, s0, s1, rfl, es⟩ := Z3r h0 i
   have ej : cs g (s + g.Count * q + k) = (cs g (s + k)).map (Zk (q * g.Period)) := by
    have := Z3e h0 (s + k) q
    rwa [show s + k + g.Count * q = s + g.Count * q + k by omega] at this
   rw [es] at h1;rw [ej] at h2;have n1 : cs g s ≠ [] := by simpa using h1
   have n2 : cs g (s + k) ≠ [] := by simpa using h2
   rw [es, ej, hsh _ _ _ n1 n2] at h3;exact .inl ⟨s, s0, s1, n1, n2, h3⟩
 ·rintro (⟨i, i0, i1, h1, h2, h3⟩ | ⟨i, _, h1, h2, h3⟩)
  ·have h0 : 0 < g.Count := by omega
   rw [Z2U h0] at h1 h2 h3;obtain ⟨t, ht, hn⟩ := pigeon (g.Odd.map (·.Index) ++ g.Odd.map (fun x => x.Index - k)) (fun t => i + g.Count * t) (fun a b hab => by
    have h4 : g.Count * (a : Int) = g.Count * b := by omega
    have := Int.eq_of_mul_eq_mul_left (by omega) h4
    omega)
   rw [List.mem_append, not_or] at hn;have o1 : ¬ Z06 g (i + g.Count * t) := by
    rintro ⟨x, hx, e⟩;exact hn.1 (List.mem_map.2 ⟨x, hx, e⟩)
   have o2 : ¬ Z06 g (i + g.Count * t + k) := by
    rintro ⟨x, hx, e⟩;exact hn.2 (List.mem_map.2 ⟨x, hx, by rw [e]; omega⟩)
   have ej : cs g (i + g.Count * t + k) = (cs g (i + k)).map (Zk (t * g.Period)) := by
    have := Z3e h0 (i + k) t
    rwa [show i + k + g.Count * t = i + g.Count * t + k by omega] at this
   refine ⟨i + g.Count * t, ?_⟩;rw [Z3j h0 o1, Z3j h0 o2, Z3e h0, ej];refine ⟨by simpa using h1, by simpa using h2, ?_⟩
   rw [hsh _ _ _ h1 h2, h3]
  ·exact ⟨i, h1, h2, h3⟩
theorem over_eq {g : Form} {sp : List size_spot} (h : Fit g) {k : Int} (hk : ZM k) {tell : size_place → size_place → Option (Int × Int)} {tv : List Span → List Span → Int} (ht : Tells tell tv) :
  ZC ⟨g, sp⟩ k tell = some (0, false, 10) ∨ ∃ n b, ZC ⟨g, sp⟩ k tell = some (n, b, 0) ∧ Best (TwoP g tv k) (n, b) ∧ In64 n := by
 unfold ZC
 rcases over_core (sp := sp) h hk ht with h1 | ⟨c, h1, h2, h3⟩
 ·rw [h1]; exact .inl rfl
 ·rw [h1];simp only [Option.bind_some, Jx.elim]
  rcases over_odds (sp := sp) h hk ht h2 h3 with h4 | ⟨d, h4, h5, h6⟩
  ·rw [h4]; exact .inl rfl
  ·rw [h4];exact .inr ⟨d.1, d.2, rfl, h5.congr fun n => over_free h ht.shift, h6⟩
def tvL (l m : List Span) : Int := lstT l - fstT m
def tvM (l m : List Span) : Int := lstT m - fstT l
theorem tells_L : Tells (fun z0 z1 => some (Z2t z0 z1)) tvL := by
 refine ⟨fun l m a1 a2 b1 b2 => ?_, fun l m d h1 h2 => ?_⟩
 ·unfold Z2t tvL;rw [sub_fit a2 b1]
 ·unfold tvL;rw [(Z0B d h1).1, (Z0B d h2).2];omega
theorem tells_M : Tells (fun z0 z1 => some (Z3Q z0 z1)) tvM := by
 refine ⟨fun l m a1 a2 b1 b2 => ?_, fun l m d h1 h2 => ?_⟩
 ·unfold Z3Q tvM;rw [sub_fit b2 a1]
 ·unfold tvM;rw [(Z0B d h2).1, (Z0B d h1).2];omega
theorem two_congr {f g : Form} (h : ZQ g = ZQ f) {tv : List Span → List Span → Int} {k n : Int} : TwoP g tv k n ↔ TwoP f tv k n := by unfold TwoP; rw [h]
theorem Z4M {k : Int} (hk : ZM k) : Zl k = true := by unfold Zl; unfold ZM at hk; simp; omega
theorem size_Least_eq {f : Form} (hl : Lim f) (hr : RightF f) (hsm : FewF f) {k : Int} (hk : ZM k) :
  Z08 f k = some (0, false, 10) ∨ ∃ n b, Z08 f k = some (w64 (0 - n), b, 0) ∧ Best (TwoP f tvL k) (n, b) ∧ In64 n := by
 obtain ⟨g, g1, g2, g3, g4⟩ := Z5T hl hr hsm
 unfold Z08
 rw [Z4M hk, Bool.not_true, cond_false, made_eq g1 g2.lim g2.few]
 simp only [Option.bind_some]
 rcases over_eq (sp := Z1F g) g2 hk tells_L with h | ⟨n, b, h, h1, h2⟩
 ·rw [h]; exact .inl rfl
 ·rw [h]; exact .inr ⟨n, b, rfl, h1.congr fun m => (two_congr g4).symm, h2⟩
theorem size_Most_eq {f : Form} (hl : Lim f) (hr : RightF f) (hsm : FewF f) {k : Int} (hk : ZM k) :
  Z0a f k = some (0, false, 10) ∨ ∃ n b, Z0a f k = some (n, b, 0) ∧ Best (TwoP f tvM k) (n, b) ∧ In64 n := by
 obtain ⟨g, g1, g2, g3, g4⟩ := Z5T hl hr hsm
 unfold Z0a
 rw [Z4M hk, Bool.not_true, cond_false, made_eq g1 g2.lim g2.few]
 simp only [Option.bind_some]
 rcases over_eq (sp := Z1F g) g2 hk tells_M with h | ⟨n, b, h, h1, h2⟩
 ·rw [h]; exact .inl rfl
 ·rw [h]; exact .inr ⟨n, b, rfl, h1.congr fun m => (two_congr g4).symm, h2⟩
theorem Best.uniq {S : Int → Prop} {b c : Int × Bool} (h : Best S b) (h' : Best S c) : b = c := by
 obtain ⟨n, b⟩ := b
 obtain ⟨m, c⟩ := c
 cases b <;> cases c
 ·have e1 := (h.no rfl).1
  have e2 := (h'.no rfl).1
  simp only at e1 e2;rw [e1, e2]
 ·exact absurd (h'.yes rfl).1 ((h.no rfl).2 _)
 ·exact absurd (h.yes rfl).1 ((h'.no rfl).2 _)
 ·have e1 := (h.yes rfl).2 _ (h'.yes rfl).1
  have e2 := (h'.yes rfl).2 _ (h.yes rfl).1
  simp only at e1 e2;have : n = m := by omega
  rw [this]
theorem down_best {f : Form} (hl : Lim f) (hr : RightF f) (hsm : FewF f) {d : Int} (hd : ZM d) : ∃ n b, Z0U f d = some (n, b, 0) ∧ BigI n ∧ Best (fun m => ∃ i j, Z10 f false d i j ∧ m = j - i) (n, b) := by
 obtain ⟨g, g1, g2, g3, g4⟩ := Z5T hl hr hsm
 obtain ⟨n, b, e1, e2, e3⟩ := far_eq g1 g2 g3 hd false
 unfold Z0U
 rw [e1]
 simp only [sgU, Bool.false_eq_true, if_false, Int.one_mul] at e3
 refine ⟨n, b, rfl, e2, e3.congr fun m => ?_⟩
 constructor
 ·rintro ⟨i, j, p, e⟩; exact ⟨i, j, (Z69 g4).2 p, e⟩
 ·rintro ⟨i, j, p, e⟩; exact ⟨i, j, (Z69 g4).1 p, e⟩
theorem up_best {f : Form} (hl : Lim f) (hr : RightF f) (hsm : FewF f) {d : Int} (hd : ZM d) : ∃ n b, Z1O f d = some (n, b, 0) ∧ BigI n ∧ Best (fun m => ∃ i j, Z10 f true d i j ∧ m = -(j - i)) (-n, b) := by
 obtain ⟨g, g1, g2, g3, g4⟩ := Z5T hl hr hsm
 obtain ⟨n, b, e1, e2, e3⟩ := far_eq g1 g2 g3 hd true
 unfold Z1O
 rw [e1]
 simp only [sgU, if_true, Int.neg_one_mul] at e3
 refine ⟨n, b, rfl, e2, e3.congr fun m => ?_⟩
 constructor
 ·rintro ⟨i, j, p, e⟩; exact ⟨i, j, (Z69 g4).2 p, e⟩
 ·rintro ⟨i, j, p, e⟩; exact ⟨i, j, (Z69 g4).1 p, e⟩
end Go.Dn

namespace Go.Dn
open Go
theorem Z9P : Z0c (Form.mk 3 2 [[], []] []) = some ⟨Form.mk 0 0 [] [], []⟩ := Z3S _ (by kernel_rfl)
theorem none_over (k : Int) (tell : size_place → size_place → Option (Int × Int)) : ZC ⟨Form.mk 0 0 [] [], []⟩ k tell = some (0, false, 0) := by
 unfold ZC
 have e1 : ZF (ZC.s0 ⟨Form.mk 0 0 [] [], []⟩ k tell) (0, 0, false) = some (.go (0, false)) := by
  rw [Z13, ZBE]
  rfl
 have e2 : ZF (ZC.s2 ⟨Form.mk 0 0 [] [], []⟩ k tell) (0, 0, false) = some (.go (0, false)) := by
  rw [Z13, ZBS]
  rfl
 rw [e1]
 simp only [Option.bind_some, Jx.elim]
 rw [e2]
 rfl
theorem ZAn {k : Int} (hk : ZM k) : Z08 (Form.mk 3 2 [[], []] []) k = some (0, false, 0) := by
 unfold Z08
 rw [Z4M hk, Bool.not_true, cond_false, Z9P]
 simp only [Option.bind_some]
 rw [none_over]
 rfl
theorem none_Most {k : Int} (hk : ZM k) : Z0a (Form.mk 3 2 [[], []] []) k = some (0, false, 0) := by
 unfold Z0a
 rw [Z4M hk, Bool.not_true, cond_false, Z9P]
 simp only [Option.bind_some]
 rw [none_over]
 rfl
theorem none_far {d : Int} (hd : ZM d) (up : Bool) : ZP (Form.mk 3 2 [[], []] []) d up = some (0, false, 0) := by
 unfold ZP
 rw [Z4M hd, Bool.not_true, cond_false, Z9P]
 simp only [Option.bind_some]
 have hy : (bif up then some (-1 : Int) else some 1) = some (sgU up) := by unfold sgU; cases up <;> rfl
 rw [hy]
 simp only [Option.bind_some]
 have e1 : ZF (ZP.s0 d up ⟨Form.mk 0 0 [] [], []⟩ (sgU up)) (0, 0, false) = some (0, false) := by
  rw [Z13]
  rfl
 have e2 : ZF (ZP.s2 d up ⟨Form.mk 0 0 [] [], []⟩ (sgU up)) (0, 0, false) = some (0, false) := by
  rw [Z13]
  rfl
 rw [e1]
 simp only [Option.bind_some]
 rw [e2]
 simp only [Option.bind_some, Int.mul_zero]
 rfl
theorem sizeNone_true (f : Form) (k d : Int) (hf : f.ok) (hk : okI .i32 k) (hd : okI .i32 d) : Z24 f k d = some true := by
 have hl := Form.lim hf
 unfold Z24
 obtain ⟨b, e1, i1⟩ := ZBC hl
 rw [e1]
 simp only [Option.bind_some]
 cases b with
 | false => rfl
 | true =>
 obtain ⟨sf, rf⟩ := i1.1 rfl
 have few := sf.few
 simp only [Bool.not_true, cond_false]
 have small : ∀ z : Int, okI .i32 z → ZM ((w64 z).fdiv (2 ^ 11)) := fun z hz => by
  have hz' : -2147483648 ≤ z ∧ z ≤ 2147483647 := hz
  rw [ZS (by omega), Int.fdiv_eq_ediv_of_nonneg _ (by decide)]
  unfold ZM;omega
 have hx := small k hk
 have hy := small d hd
 generalize (w64 k).fdiv (2 ^ 11) = x at *
 generalize (w64 d).fdiv (2 ^ 11) = y at *
 obtain ⟨g, g1, _, _, _, g2, _⟩ := canon_facts hl rf
 have hm : Z0c g = Z0c f := by unfold Z0c; rw [g1, g2]
 have sL : Z08 g x = Z08 f x := by unfold Z08; rw [hm]
 have sM : Z0a g x = Z0a f x := by unfold Z0a; rw [hm]
 have sD : Z0U g x = Z0U f x := by unfold Z0U ZP; rw [hm]
 have sU : Z1O g x = Z1O f x := by unfold Z1O ZP; rw [hm]
 have nD : ∀ {z : Int}, ZM z → Z0U (Form.mk 3 2 [[], []] []) z = some (0, false, 0) := fun hz => by unfold Z0U; rw [none_far hz]; rfl
 have nU : ∀ {z : Int}, ZM z → Z1O (Form.mk 3 2 [[], []] []) z = some (0, false, 0) := fun hz => by unfold Z1O; rw [none_far hz]; rfl
 have ht : Z2 0 false 0 0 false = true := rfl
 obtain ⟨a, hA⟩ : ∃ a, Z08 f x = some a := by
  rcases size_Least_eq hl rf few hx with h | ⟨n, c, h, _⟩
  ·exact ⟨_, h⟩
  ·exact ⟨_, h⟩
 obtain ⟨b, hB⟩ : ∃ a, Z0a f x = some a := by
  rcases size_Most_eq hl rf few hx with h | ⟨n, c, h, _⟩
  ·exact ⟨_, h⟩
  ·exact ⟨_, h⟩
 obtain ⟨c, hC⟩ : ∃ a, Z0U f x = some a := by
  obtain ⟨n, c, h, _⟩ := down_best hl rf few hx
  exact ⟨_, h⟩
 obtain ⟨e, hE⟩ : ∃ a, Z1O f x = some a := by
  obtain ⟨n, c, h, _⟩ := up_best hl rf few hx
  exact ⟨_, h⟩
 simp only [ZAn hx, ZAn hy, none_Most hx, none_Most hy, nD hx, nD hy, nU hx, nU hy, Option.bind_some, ht, Bool.not_true, cond_false, g1, sL, sM, sD, sU, hA, hB, hC, hE, bne_self_eq_false, Bool.or_self]
 rfl
end Go.Dn
