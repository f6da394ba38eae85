/- Part 4 of what the row stands on. -/
import Derived.Test.YtefaoeaohhdhkaaM3
set_option linter.unusedVariables false
set_option linter.unusedSimpArgs false
namespace Go.Dn
open Go

theorem cmp_Compare_eq (x y : Int) : cmp_Compare_int x y = if x < y then -1 else if y < x then 1 else 0 := by
 unfold cmp_Compare_int cmp_isNaN_int
 simp only [bne_self_eq_false, cond_false, pickB, decide_eq_true_eq, gt_iff_lt, Bool.false_eq_true, if_false]

def Inc (l : List Granule) : Prop := ∀ (j k : Nat) (a b : Granule), j < k → l[j]? = some a → l[k]? = some b → a.Index < b.Index

theorem bsearch_eq {l : List Granule} {t : Int} (hl : l.length * 32 ≤ reachBytes) (hs : Inc l) : ∃ p : Nat, p ≤ l.length ∧ (∀ (k : Nat) (g : Granule), l[k]? = some g → (k < p ↔ g.Index < t)) ∧
  slices_BinarySearchFunc_SGranule_Granule_int l t (fun z0 z1 => some (gran_odd_1 z0 z1)) = some ((p : Int), decide (∃ g, l[p]? = some g ∧ g.Index = t)) := by
 have hlen : (l.length : Int) < 4398046511104 * 4 := by have := reach_eq; omega
 have hcmp : ∀ g i, gran_odd_1 g i = if g.Index < i then -1 else if i < g.Index then 1 else 0 := fun g i => cmp_Compare_eq _ _
 obtain ⟨r, h1, p, rfl, hp, hlow, hhigh⟩ := loopO_inv (step := slices_BinarySearchFunc_SGranule_Granule_int.s0 l t (fun z0 z1 => some (gran_odd_1 z0 z1)))
  (I := fun s => ∃ i j : Nat, s = ((i : Int), (j : Int)) ∧ i ≤ j ∧ j ≤ l.length ∧ (∀ k g, l[k]? = some g → k < i → g.Index < t) ∧ (∀ k g, l[k]? = some g → j ≤ k → t ≤ g.Index))
  (fun s => (s.2 - s.1).toNat)
  (fun r => ∃ p : Nat, r = (p : Int) ∧ p ≤ l.length ∧ (∀ k g, l[k]? = some g → k < p → g.Index < t) ∧ (∀ k g, l[k]? = some g → p ≤ k → t ≤ g.Index)) (by
  rintro s ⟨i, j, rfl, hij, hj, hlow, hhigh⟩
  unfold slices_BinarySearchFunc_SGranule_Granule_int.s0
  by_cases hlt : i < j
  ·have hm : w64 ((IntKind.u64.wrap (w64 ((i : Int) + j))).fdiv (2 ^ 1)) = ((i + j) / 2 : Nat) := by
    rw [w64_id (x := (i : Int) + j) (by omega), wrap_u64, Int.fdiv_eq_ediv_of_nonneg _ (by decide), w64_id (by omega)]
    omega
   have hml : (i + j) / 2 < l.length := by omega
   simp only [hm]
   rw [dec_t (show (i : Int) < j by omega), cond_true, at?_nat hml]
   simp only [Option.bind_some, hcmp]
   refine .inl ?_
   have hget := List.getElem?_eq_getElem hml
   by_cases hc : l[(i + j) / 2].Index < t
   ·rw [if_pos hc]
    refine ⟨((((i + j) / 2 + 1 : Nat) : Int), (j : Int)), ?_, ⟨(i + j) / 2 + 1, j, rfl, by omega, hj, fun k g hk hki => ?_, hhigh⟩, by simp; omega⟩
    ·rw [w64_id (by omega)]; simp
    ·rcases Nat.lt_or_ge k ((i + j) / 2) with h | h
     ·have := hs k _ g _ h hk hget; omega
     ·have : k = (i + j) / 2 := by omega
      subst this; rw [hget] at hk; cases hk; exact hc
   ·rw [if_neg hc]
    refine ⟨((i : Int), (((i + j) / 2 : Nat) : Int)), ?_, ⟨i, (i + j) / 2, rfl, by omega, by omega, hlow, fun k g hk hki => ?_⟩, by simp; omega⟩
    ·split <;> simp
    ·rcases Nat.lt_or_ge ((i + j) / 2) k with h | h
     ·have := hs _ k _ g h hget hk; omega
     ·have : k = (i + j) / 2 := by omega
      subst this; rw [hget] at hk; cases hk; omega
  ·refine .inr ⟨(i : Int), by rw [dec_f (show ¬ (i : Int) < j by omega)]; rfl, i, rfl, by omega, hlow, fun k g hk hki => hhigh k g hk (by omega)⟩) (0, (l.length : Int)) ⟨0, l.length, rfl, Nat.zero_le _, Nat.le_refl _, fun k g _ h => by omega, fun k g hk h => by
    rw [List.getElem?_eq_none h] at hk; cases hk⟩
 refine ⟨p, hp, fun k g hk => ⟨fun h => hlow k g hk h, fun h => ?_⟩, ?_⟩
 ·rcases Nat.lt_or_ge k p with h2 | h2
  ·exact h2
  ·have := hhigh k g hk h2; omega
 ·unfold slices_BinarySearchFunc_SGranule_Granule_int
  rw [h1]
  simp only [Option.bind_some]
  by_cases hlt : p < l.length
  ·rw [dec_t (show (p : Int) < l.length by omega), cond_true, at?_nat hlt]
   simp only [Option.bind_some, hcmp, Option.some.injEq, Prod.mk.injEq, true_and]
   have := hhigh p _ (List.getElem?_eq_getElem hlt) (Nat.le_refl _)
   rw [List.getElem?_eq_getElem hlt]
   by_cases he : l[p].Index = t
   ·rw [if_neg (by omega), if_neg (by omega)]; simp [he]
   ·rw [if_neg (by omega), if_pos (by omega)]; simp [he]
  ·rw [dec_f (show ¬ (p : Int) < l.length by omega), cond_false]
   simp only [Option.bind_some, Option.some.injEq, Prod.mk.injEq, true_and]
   rw [List.getElem?_eq_none (by omega)]
   simp

structure Shape (f : Form) : Prop where
 count : f.Count = f.Core.length
 zero : f.Count = 0 ↔ f.Period = 0
 per : 0 ≤ f.Period ∧ f.Period ≤ 1099511627776
 core : ∀ l ∈ f.Core, RightL l
 odd : ∀ g ∈ f.Odd, RightL g.Ticks ∧ tickP g.Index
 inc : Inc f.Odd

structure Lim (f : Form) : Prop where
 core : f.Core.length * 24 ≤ reachBytes
 sets : ∀ l ∈ f.Core, Len l ∧ Sp64 l
 odd : f.Odd.length * 32 ≤ reachBytes
 ticks : ∀ g ∈ f.Odd, In64 g.Index ∧ Len g.Ticks ∧ Sp64 g.Ticks
 count : In64 f.Count
 period : In64 f.Period

theorem Form.lim {f : Form} (h : f.ok) : Lim f := by
 obtain ⟨h1, h2, h3, h4⟩ := h
 exact ⟨h3.1, fun l hl => okSpans (h3.2 l hl), h4.1, fun g hg => ⟨(h4.2 g hg).1, okSpans (h4.2 g hg).2⟩, h2, h1⟩

theorem gran_odd_eq {f : Form} (hl : Lim f) (hs : Inc f.Odd) (i : Int) : ∃ p : Nat, p ≤ f.Odd.length ∧ (∀ (k : Nat) (g : Granule), f.Odd[k]? = some g → (k < p ↔ g.Index < i)) ∧ gran_odd f i = some ((p : Int), decide (∃ g, f.Odd[p]? = some g ∧ g.Index = i)) := by
 obtain ⟨p, h1, h2, h3⟩ := bsearch_eq (t := i) hl.odd hs
 exact ⟨p, h1, h2, by unfold gran_odd; rw [h3]; rfl⟩

def isOdd (f : Form) (i : Int) : Prop := ∃ g ∈ f.Odd, g.Index = i
def coreAt (f : Form) (i : Int) : List Span := f.Core.getD (i % f.Count).toNat []
def perAt (f : Form) (i : Int) : Int := i / f.Count * f.Period
open Classical in
noncomputable def setAt (f : Form) (i : Int) : List Span := if h : isOdd f i then h.choose.Ticks else if f.Count = 0 then [] else (coreAt f i).map (shiftS (perAt f i))

theorem Inc.uniq {l : List Granule} (h : Inc l) {a b : Granule} (ha : a ∈ l) (hb : b ∈ l) (he : a.Index = b.Index) : a = b := by
 obtain ⟨j, hj⟩ := List.getElem?_of_mem ha
 obtain ⟨k, hk⟩ := List.getElem?_of_mem hb
 rcases Nat.lt_trichotomy j k with hjk | rfl | hjk
 ·have := h j k a b hjk hj hk; omega
 ·rw [hj] at hk; cases hk; rfl
 ·have := h k j b a hjk hk hj; omega

theorem setAt_odd {f : Form} (hs : Inc f.Odd) {g : Granule} (hg : g ∈ f.Odd) : setAt f g.Index = g.Ticks := by
 have h : isOdd f g.Index := ⟨g, hg, rfl⟩
 unfold setAt
 rw [dif_pos h]
 rw [hs.uniq h.choose_spec.1 hg h.choose_spec.2]
theorem setAt_none {f : Form} {i : Int} (h : ¬ isOdd f i) (h0 : f.Count = 0) : setAt f i = [] := by unfold setAt; rw [dif_neg h, if_pos h0]
theorem setAt_core {f : Form} {i : Int} (h : ¬ isOdd f i) (h0 : f.Count ≠ 0) : setAt f i = (coreAt f i).map (shiftS (perAt f i)) := by unfold setAt; rw [dif_neg h, if_neg h0]

theorem core_pos {f : Form} (hs : Shape f) (h0 : f.Count ≠ 0) : 0 < f.Count := by have := hs.count; omega
theorem coreAt_get {f : Form} (hs : Shape f) (h0 : f.Count ≠ 0) (i : Int) : at? f.Core (i % f.Count) = some (coreAt f i) ∧ coreAt f i ∈ f.Core := by
 have hp := core_pos hs h0
 have h1 := Int.emod_nonneg i h0
 have h2 := Int.emod_lt_of_pos i hp
 have h3 : (i % f.Count).toNat < f.Core.length := by have := hs.count; omega
 unfold coreAt
 rw [at?_lt h1 (by have := hs.count; omega), List.getD_eq_getElem?_getD, List.getElem?_eq_getElem h3]
 exact ⟨rfl, List.getElem_mem h3⟩

theorem gran_kept_odd {f : Form} (hl : Lim f) (hs : Shape f) {g : Granule} (hg : g ∈ f.Odd) : gran_kept f g.Index = some (g.Ticks, 0, 0) := by
 obtain ⟨p, h1, h2, h3⟩ := gran_odd_eq hl hs.inc g.Index
 obtain ⟨k, hk⟩ := List.getElem?_of_mem hg
 have hkl := (List.getElem?_eq_some_iff.1 hk).1
 have hpk : p ≤ k := by
  rcases Nat.lt_or_ge k p with h | h
  ·have := (h2 k g hk).1 h; omega
  ·exact h
 have hpl : p < f.Odd.length := by omega
 have hpg := h2 p _ (List.getElem?_eq_getElem hpl)
 have : p = k := by
  rcases Nat.lt_or_ge p k with h | h
  ·have := hs.inc p k _ g h (List.getElem?_eq_getElem hpl) hk
   exact absurd (hpg.2 this) (Nat.lt_irrefl _)
  ·omega
 subst this
 unfold gran_kept
 rw [h3]
 simp only [Option.bind_some]
 rw [dec_t ⟨g, hk, rfl⟩, cond_true, at?_nat hpl]
 rw [List.getElem?_eq_getElem hpl] at hk
 cases hk; rfl

theorem gran_kept_core {f : Form} (hl : Lim f) (hs : Shape f) {i : Int} (hi : In64 i) (ho : ¬ isOdd f i) : gran_kept f i = if f.Count = 0 then some ([], 0, 0) else some (coreAt f i, (fitS (perAt f i)).1, (fitS (perAt f i)).2) := by
 obtain ⟨p, h1, h2, h3⟩ := gran_odd_eq hl hs.inc i
 unfold gran_kept
 rw [h3]
 simp only [Option.bind_some]
 rw [dec_f (by rintro ⟨g, hg, he⟩; exact ho ⟨g, List.mem_of_getElem? hg, he⟩), cond_false]
 by_cases h0 : f.Count = 0
 ·rw [beq_t h0, cond_true, if_pos h0]
 ·rw [beq_f h0, cond_false, if_neg h0, safe_Floor_eq hi hl.count, floorS_pos (core_pos hs h0)]
  simp only [Option.bind_some]
  rw [(coreAt_get hs h0 i).1]
  simp only [Option.bind_some]
  have hq : In64 (i / f.Count) := by
   have hp := core_pos hs h0
   unfold In64 at hi ⊢
   constructor
   ·have : -9223372036854775808 ≤ i / f.Count := by
     rw [Int.le_ediv_iff_mul_le hp]
     have : (-9223372036854775808) * f.Count ≤ -9223372036854775808 := by
      have : (-9223372036854775808) * f.Count ≤ (-9223372036854775808) * 1 := Int.mul_le_mul_of_nonpos_left (by omega) (by omega)
      omega
     omega
    exact this
   ·have : i / f.Count ≤ 9223372036854775807 := by
     rcases Int.lt_or_le i 0 with h | h
     ·have : i / f.Count < 0 := Int.ediv_neg_of_neg_of_pos h hp
      omega
     ·have := Int.ediv_le_self f.Count h
      omega
    exact this
  rw [safe_Mul_eq hq hl.period]
  rfl

def fits (f : Form) (i : Int) : Prop := ∀ s ∈ setAt f i, tickP s.From ∧ tickP s.To

theorem shift0 (l : List Span) : l.map (shiftS 0) = l := by
 have : shiftS 0 = id := by funext s; simp [shiftS]
 rw [this, List.map_id]

theorem setAt_nil_core {f : Form} {i : Int} (ho : ¬ isOdd f i) (h0 : f.Count ≠ 0) : setAt f i = [] ↔ coreAt f i = [] := by rw [setAt_core ho h0, List.map_eq_nil_iff]

open Classical in
theorem gran_Get_eq {f : Form} (hl : Lim f) (hs : Shape f) {i : Int} (hi : In64 i) : gran_Get f i = some (if tickP i ∧ fits f i then (setAt f i, 0) else ([], 20)) := by
 unfold gran_Get
 rw [inRange_eq]
 by_cases ht : tickP i
 ·rw [dec_t ht, Bool.not_true, cond_false]
  by_cases ho : isOdd f i
  ·obtain ⟨g, hg, rfl⟩ := ho
   have hset := setAt_odd hs.inc hg
   have hr := (hs.odd g hg).1
   have hf : fits f g.Index := by
    intro s hsm
    rw [hset] at hsm
    obtain ⟨k, hk⟩ := List.getElem?_of_mem hsm
    exact ⟨(hr.ok k s hk).1, (hr.ok k s hk).2.1⟩
   rw [gran_kept_odd hl hs hg, if_pos ⟨ht, hf⟩, hset]
   simp only [Option.bind_some]
   by_cases hn : g.Ticks = []
   ·rw [hn]; rfl
   ·have : ((g.Ticks.length : Int) == 0) = false := beq_f (by have := List.length_pos_iff.2 hn; omega)
    rw [this, cond_false]
    simp only [bne_self_eq_false, cond_false]
    rcases spans_Move_eq (b := 0) (hl.ticks g hg).2.1 hr.sp64 ⟨by decide, by decide⟩ with ⟨_, h2⟩ | ⟨h1, _⟩
    ·rw [h2, shift0]; rfl
    ·refine absurd (fun s hsm => ?_) h1
     rw [← hset] at hsm
     simpa using hf s hsm
  ·rw [gran_kept_core hl hs hi ho]
   by_cases h0 : f.Count = 0
   ·rw [if_pos h0, if_pos ⟨ht, by intro s hsm; rw [setAt_none ho h0] at hsm; cases hsm⟩, setAt_none ho h0]; rfl
   ·rw [if_neg h0]
    simp only [Option.bind_some]
    by_cases hn : coreAt f i = []
    ·rw [if_pos ⟨ht, by intro s hsm; rw [(setAt_nil_core ho h0).2 hn] at hsm; cases hsm⟩, (setAt_nil_core ho h0).2 hn, hn]; rfl
    ·have : (((coreAt f i).length : Int) == 0) = false := beq_f (by have := List.length_pos_iff.2 hn; omega)
     rw [this, cond_false]
     have hmem := (coreAt_get hs h0 i).2
     have hr := hs.core _ hmem
     have hfe : fits f i ↔ ∀ s ∈ coreAt f i, tickP (s.From + perAt f i) ∧ tickP (s.To + perAt f i) := by
      unfold fits; rw [setAt_core ho h0]
      constructor
      ·intro h s hsm; exact h (shiftS (perAt f i) s) (List.mem_map.2 ⟨s, hsm, rfl⟩)
      ·intro h s hsm
       obtain ⟨s, hsm', rfl⟩ := List.mem_map.1 hsm
       exact h s hsm'
     rcases fit_or (perAt f i) with ⟨q1, q2⟩ | ⟨q1, q2⟩ <;> rw [q2]
     ·simp only [bne_self_eq_false, cond_false]
      rcases spans_Move_eq (b := perAt f i) (hl.sets _ hmem).1 hr.sp64 q1 with ⟨h1, h2⟩ | ⟨h1, h2⟩
      ·rw [h2, if_pos ⟨ht, hfe.2 h1⟩, setAt_core ho h0]; rfl
      ·rw [h2, if_neg (fun h => h1 (hfe.1 h.2))]; rfl
     ·rw [if_neg]
      ·rfl
      ·rintro ⟨_, h⟩
       have h := hfe.1 h
       obtain ⟨s, hsm⟩ := List.exists_mem_of_ne_nil _ hn
       have h1 := (h s hsm).1
       obtain ⟨k, hk⟩ := List.getElem?_of_mem hsm
       have h2 := (hr.ok k s hk).1
       unfold tickP at h1 h2
       exact q1 (by unfold In64; omega)
 ·rw [dec_f ht, if_neg (fun h => ht h.1)]; rfl

open Classical in
theorem gran_some_eq {f : Form} (hl : Lim f) (hs : Shape f) {i : Int} (hi : In64 i) : gran_some f i = some (decide (setAt f i ≠ [])) := by
 unfold gran_some
 by_cases ho : isOdd f i
 ·obtain ⟨g, hg, rfl⟩ := ho
  rw [gran_kept_odd hl hs hg, setAt_odd hs.inc hg]
  simp only [Option.bind_some]
  cases g.Ticks <;> simp
 ·rw [gran_kept_core hl hs hi ho]
  by_cases h0 : f.Count = 0
  ·rw [if_pos h0, setAt_none ho h0]; rfl
  ·rw [if_neg h0]
   simp only [Option.bind_some, Ne, setAt_nil_core ho h0]
   cases coreAt f i <;> simp

end Go.Dn

namespace Go.Dn
open Go

theorem len_lt {α : Type} {l : List α} {b : Nat} (h : l.length * (b + 1) ≤ reachBytes) : (l.length : Int) < 4611686018427387904 := by
 have := reach_eq
 have : l.length ≤ l.length * (b + 1) := Nat.le_mul_of_pos_right _ (by omega)
 omega

theorem nat_at {α : Type} {l : List α} {k : Nat} {x : α} (h : l[k]? = some x) : at? l (k : Int) = some x ∧ (k : Int) < l.length := by
 have hlt := (List.getElem?_eq_some_iff.1 h).1
 rw [List.getElem?_eq_getElem hlt] at h
 exact ⟨by rw [at?_nat hlt]; exact h, by omega⟩

theorem shape_core {f : Form} (hl : Lim f) : (loopO (gran_shape.s0 f) 0 = some (.go ()) ∧ ∀ l ∈ f.Core, RightL l) ∨ (loopO (gran_shape.s0 f) 0 = some (.ret false) ∧ ¬ ∀ l ∈ f.Core, RightL l) := by
 have hlen := len_lt (b := 23) hl.core
 rcases all_loop (l := f.Core) (step := gran_shape.s0 f) (fun _ x => RightL x) (no := .ret false) (yes := .go ()) (fun k x hk _ => by
   obtain ⟨h1, h2⟩ := nat_at hk
   obtain ⟨b, hb, hr⟩ := spans_Right_eq (hl.sets x (List.mem_of_getElem? hk)).1 (hl.sets x (List.mem_of_getElem? hk)).2
   unfold gran_shape.s0
   rw [dec_t h2, cond_true, h1]
   simp only [Option.bind_some, hb, w64_id (show -9223372036854775808 ≤ (k : Int) + 1 ∧ (k : Int) + 1 ≤ 9223372036854775807 by omega)]
   cases b
   ·exact .inr ⟨rfl, fun h => by have := hr.2 h; cases this⟩
   ·exact .inl ⟨rfl, hr.1 rfl⟩) (by unfold gran_shape.s0; rw [dec_f (by omega)]; rfl) with ⟨h1, h2⟩ | ⟨h1, h2⟩
 ·exact .inl ⟨h1, fun l hm => by obtain ⟨k, hk⟩ := List.getElem?_of_mem hm; exact h2 k l hk⟩
 ·exact .inr ⟨h1, fun h => h2 fun k x hk => h x (List.mem_of_getElem? hk)⟩

def goodOdd (f : Form) (k : Nat) (g : Granule) : Prop := RightL g.Ticks ∧ tickP g.Index ∧ ∀ p, k ≠ 0 → f.Odd[k - 1]? = some p → p.Index < g.Index

theorem shape_odd {f : Form} (hl : Lim f) : (loopO (gran_shape.s1 f) 0 = some (.go ()) ∧ ∀ k g, f.Odd[k]? = some g → goodOdd f k g) ∨ (loopO (gran_shape.s1 f) 0 = some (.ret false) ∧ ¬ ∀ k g, f.Odd[k]? = some g → goodOdd f k g) := by
 have hlen := len_lt (b := 31) hl.odd
 refine all_loop (l := f.Odd) (step := gran_shape.s1 f) (goodOdd f) (no := .ret false) (yes := .go ()) (fun k x hk _ => ?_) (by unfold gran_shape.s1; rw [dec_f (by omega)]; rfl)
 obtain ⟨h1, h2⟩ := nat_at hk
 have hx := hl.ticks x (List.mem_of_getElem? hk)
 obtain ⟨b, hb, hr⟩ := spans_Right_eq hx.2.1 hx.2.2
 unfold gran_shape.s1
 rw [dec_t h2, cond_true, h1]
 simp only [Option.bind_some, hb, inRange_eq, w64_id (show -9223372036854775808 ≤ (k : Int) + 1 ∧ (k : Int) + 1 ≤ 9223372036854775807 by omega)]
 by_cases hbt : b = true ∧ tickP x.Index
 ·rw [hbt.1, dec_t hbt.2]
  simp only [Bool.not_true, Bool.or_self, cond_false]
  by_cases h0 : k = 0
  ·subst h0
   exact .inl ⟨by simp, hr.1 hbt.1, hbt.2, fun p h => absurd rfl h⟩
  ·have hpl : k - 1 < f.Odd.length := by omega
   rw [dec_t (show (k : Int) > 0 by omega), cond_true, w64_id (by omega), show (k : Int) - 1 = ((k - 1 : Nat) : Int) by omega, at?_nat hpl]
   simp only [Option.bind_some]
   by_cases hc : x.Index ≤ f.Odd[k - 1].Index
   ·rw [dec_t hc]
    refine .inr ⟨rfl, fun h => ?_⟩
    have := h.2.2 _ h0 (List.getElem?_eq_getElem hpl); omega
   ·rw [dec_f hc]
    refine .inl ⟨rfl, hr.1 hbt.1, hbt.2, fun p _ hp => ?_⟩
    rw [List.getElem?_eq_getElem hpl] at hp; cases hp; omega
 ·have : (!b || !decide (tickP x.Index)) = true := by
   cases b
   ·rfl
   ·rw [dec_f (fun h => hbt ⟨rfl, h⟩)]; rfl
  rw [this, cond_true]
  exact .inr ⟨rfl, fun h => hbt ⟨hr.2 h.1, h.2.1⟩⟩

theorem inc_of {f : Form} (h : ∀ k g, f.Odd[k]? = some g → goodOdd f k g) : Inc f.Odd := by
 intro j k a b hjk ha hb
 induction k generalizing b with
 | zero => omega
 | succ k ih =>
  have hkl := (List.getElem?_eq_some_iff.1 hb).1
  have h1 := (h (k + 1) b hb).2.2 f.Odd[k] (by omega) (by simp [List.getElem?_eq_getElem (show k < f.Odd.length by omega)])
  rcases Nat.lt_or_ge j k with h2 | h2
  ·have := ih _ h2 (List.getElem?_eq_getElem (show k < f.Odd.length by omega)); omega
  ·have : j = k := by omega
   subst this
   rw [List.getElem?_eq_getElem (show j < f.Odd.length by omega)] at ha; cases ha; exact h1

theorem gran_shape_eq {f : Form} (hl : Lim f) : ∃ b, gran_shape f = some b ∧ (b = true ↔ Shape f) := by
 unfold gran_shape
 by_cases h1 : f.Count = f.Core.length ∧ (f.Count = 0 ↔ f.Period = 0) ∧ 0 ≤ f.Period ∧ f.Period ≤ 1099511627776
 ·have e : (f.Count != (f.Core.length : Int) || (f.Count == 0) != (f.Period == 0) || decide (f.Period < 0) || decide (f.Period > 1099511627776)) = false := by
   rw [bne_f h1.1, dec_f (show ¬ f.Period < 0 by omega), dec_f (show ¬ f.Period > 1099511627776 by omega)]
   simp only [Bool.false_or, Bool.or_false, bne_eq_false_iff_eq, ibeq, decide_eq_decide]
   exact h1.2.1
  rw [e, cond_false]
  rcases shape_core hl with ⟨h2, h3⟩ | ⟨h2, h3⟩
  ·rw [h2]
   simp only [Option.bind_some, Jx.elim]
   rcases shape_odd hl with ⟨h4, h5⟩ | ⟨h4, h5⟩
   ·rw [h4]
    exact ⟨true, rfl, fun _ => ⟨h1.1, h1.2.1, h1.2.2, h3, fun g hg => by obtain ⟨k, hk⟩ := List.getElem?_of_mem hg; exact ⟨(h5 k g hk).1, (h5 k g hk).2.1⟩, inc_of h5⟩, fun _ => rfl⟩
   ·rw [h4]
    refine ⟨false, rfl, fun h => (by cases h), fun h => absurd (fun k g hk => ⟨(h.odd g (List.mem_of_getElem? hk)).1, (h.odd g (List.mem_of_getElem? hk)).2, fun p h0 hp => h.inc (k - 1) k p g (by omega) hp hk⟩) h5⟩
  ·rw [h2]
   exact ⟨false, rfl, fun h => (by cases h), fun h => absurd h.core h3⟩
 ·have e : (f.Count != (f.Core.length : Int) || (f.Count == 0) != (f.Period == 0) || decide (f.Period < 0) || decide (f.Period > 1099511627776)) = true := by
   apply Classical.byContradiction
   intro hn
   simp only [Bool.not_eq_true, Bool.or_eq_false_iff, bne_eq_false_iff_eq, decide_eq_false_iff_not, ibeq, decide_eq_decide] at hn
   exact h1 ⟨hn.1.1.1, hn.1.1.2, by omega, by omega⟩
  rw [e, cond_true]
  exact ⟨false, rfl, fun h => (by cases h), fun h => absurd ⟨h.count, h.zero, h.per⟩ h1⟩

def fstT (l : List Span) : Int := (l.head?.map Span.From).getD 0
def lstT (l : List Span) : Int := (l.getLast?.map Span.To).getD 0

theorem aheadL_iff {a b : List Span} (ha : a ≠ []) (hb : b ≠ []) : AheadL a b ↔ lstT a < fstT b := by
 unfold AheadL lstT fstT
 rw [List.getLast?_eq_some_getLast ha, List.head?_eq_some_head hb]
 simp

theorem RightL.tail {s : Span} {l : List Span} (h : RightL (s :: l)) : RightL l :=
 ⟨fun k x hk => h.ok (k + 1) x hk, fun k x y hx hy => h.gap (k + 1) x y hx hy⟩

theorem fst_le_lst {l : List Span} (h : RightL l) (hn : l ≠ []) : fstT l ≤ lstT l := by
 induction l with
 | nil => exact absurd rfl hn
 | cons s l ih =>
  have h0 := h.ok 0 s rfl
  cases l with
  | nil => simp [fstT, lstT]; exact h0.2.2
  | cons t l =>
   have h1 := h.gap 0 s t rfl rfl
   have h2 := ih h.tail (by simp)
   have e1 : lstT (s :: t :: l) = lstT (t :: l) := by simp [lstT]
   have e2 : fstT (t :: l) = t.From := rfl
   have e3 : fstT (s :: t :: l) = s.From := rfl
   rw [e1, e3]; rw [e2] at h2; omega

theorem lst_tick {l : List Span} (h : RightL l) (hn : l ≠ []) : tickP (lstT l) ∧ tickP (fstT l) := by
 have h1 : l.getLast? = some (l.getLast hn) := List.getLast?_eq_some_getLast hn
 have h2 : l.head? = some (l.head hn) := List.head?_eq_some_head hn
 obtain ⟨j, hj⟩ := List.getElem?_of_mem (List.getLast_mem hn)
 obtain ⟨k, hk⟩ := List.getElem?_of_mem (List.head_mem hn)
 unfold lstT fstT
 rw [h1, h2]
 exact ⟨(h.ok j _ hj).2.1, (h.ok k _ hk).1⟩

def full (f : Form) : List (List Span) := f.Core.filter (fun l => decide (l.length > 0))
def Turns (f : Form) : Prop := (∀ (k : Nat) (a b : List Span), (full f)[k]? = some a → (full f)[k + 1]? = some b → lstT a < fstT b) ∧ ∀ a b, (full f).getLast? = some a → (full f).head? = some b → lstT a < fstT b + f.Period

theorem full_loop {f : Form} (hl : Lim f) : loopO (gran_turns.s0 f) (0, []) = some (full f) := by
 have hlen := len_lt (b := 23) hl.core
 refine loopO_val (I := fun s r => r = full f ∧ ∃ k : Nat, k ≤ f.Core.length ∧ s = ((k : Int), (f.Core.take k).filter (fun l => decide (l.length > 0)))) (fun s => f.Core.length - s.1.toNat) ?_ ⟨rfl, 0, Nat.zero_le _, by simp⟩
 rintro s r ⟨rfl, k, hk, rfl⟩
 unfold gran_turns.s0
 by_cases hlt : k < f.Core.length
 ·have htake : f.Core.take (k + 1) = f.Core.take k ++ [f.Core[k]] := List.take_succ_eq_append_getElem hlt
  simp only
  rw [dec_t (show (k : Int) < f.Core.length by omega), cond_true, at?_nat hlt, w64_id (by omega)]
  simp only [Option.bind_some]
  refine .inl ?_
  have hfl : ((f.Core.take k).filter (fun l => decide (l.length > 0))).length ≤ k := Nat.le_trans (List.length_filter_le _ _) (by rw [List.length_take]; exact Nat.min_le_left _ _)
  by_cases hc : f.Core[k].length > 0
  ·rw [dec_t (show ((f.Core[k].length : Int) > 0) by omega), cond_true, app?_ok (by have h1 := hl.core; rw [reach_eq] at h1; rw [room_eq]; simp only [List.length_singleton]; omega)]
   exact ⟨_, rfl, ⟨trivial, k + 1, hlt, by rw [htake, List.filter_append]; simp [hc]⟩, by simp; omega⟩
  ·rw [dec_f (show ¬ ((f.Core[k].length : Int) > 0) by omega), cond_false]
   exact ⟨_, rfl, ⟨trivial, k + 1, hlt, by rw [htake, List.filter_append]; simp [hc]⟩, by simp; omega⟩
 ·have : k = f.Core.length := by omega
  subst this
  simp only
  rw [dec_f (show ¬ ((f.Core.length : Int) < f.Core.length) by omega), cond_false, List.take_length]
  exact .inr rfl

theorem gran_turns_eq {f : Form} (hl : Lim f) (hs : Shape f) : ∃ b, gran_turns f = some b ∧ (b = true ↔ Turns f) := by
 have hlen := len_lt (b := 23) hl.core
 have hfl : (full f).length ≤ f.Core.length := List.length_filter_le _ _
 have hmem : ∀ x ∈ full f, x ∈ f.Core ∧ x ≠ [] := fun x hx => by
  have := List.mem_filter.1 hx
  exact ⟨this.1, by rintro rfl; simp at this⟩
 unfold gran_turns
 rw [full_loop hl]
 simp only [Option.bind_some]
 rcases all_loop (l := full f) (step := gran_turns.s1 f (full f)) (fun k a => ∀ b, (full f)[(k + 1) % (full f).length]? = some b → lstT a < fstT b + (if k + 1 = (full f).length then f.Period else 0)) (no := .ret false) (yes := .go ()) (fun k a hk _ => by
   obtain ⟨h1, h2⟩ := nat_at hk
   have hkl : k < (full f).length := by omega
   have hmod : (k + 1) % (full f).length < (full f).length := Nat.mod_lt _ (by omega)
   have hnext : at? (full f) ((((k + 1) % (full f).length : Nat) : Int)) = some (full f)[(k + 1) % (full f).length] := at?_nat hmod
   obtain ⟨ha1, ha2⟩ := hmem a (List.mem_of_getElem? hk)
   obtain ⟨hb1, hb2⟩ := hmem _ (List.getElem_mem hmod)
   have hra := hs.core a ha1
   have hrb := hs.core _ hb1
   have hal : a.length - 1 < a.length := by have := List.length_pos_iff.2 ha2; omega
   have hlast : at? a (w64 ((a.length : Int) - 1)) = some a[a.length - 1] := by
    have := len_lt (b := 15) (hl.sets a ha1).1
    rw [w64_id (by omega), show (a.length : Int) - 1 = ((a.length - 1 : Nat) : Int) by omega, at?_nat hal]
   have hlt : lstT a = a[a.length - 1].To := by unfold lstT; rw [List.getLast?_eq_getElem?, List.getElem?_eq_getElem hal]; rfl
   unfold gran_turns.s1
   rw [dec_t h2, cond_true, h1, nz?_ok (by omega), w64_id (x := (k : Int) + 1) (by omega)]
   have htm : ((k : Int) + 1).tmod ((full f).length : Int) = (((k + 1) % (full f).length : Nat) : Int) := by
    rw [Int.tmod_eq_emod_of_nonneg (by omega)]; push_cast; rfl
   simp only [Option.bind_some, htm, hnext, hlast]
   rw [List.getElem?_eq_getElem hmod]
   generalize (full f)[(k + 1) % (full f).length] = b at *
   have hb0 : at? b 0 = some (b.head hb2) := by
    cases b with
    | nil => exact absurd rfl hb2
    | cons y b => rfl
   have hbf : fstT b = (b.head hb2).From := by unfold fstT; rw [List.head?_eq_some_head hb2]; rfl
   have htick := (lst_tick hrb hb2).2
   unfold tickP at htick
   have hper := hs.per
   by_cases hl1 : k + 1 = (full f).length
   ·have e : ((k : Int) + 1 == ((full f).length : Int)) = true := beq_t (by omega)
    rw [e, cond_true]
    simp only [Option.bind_some, hb0, ← hbf, w64_id (show -9223372036854775808 ≤ fstT b + f.Period ∧ fstT b + f.Period ≤ 9223372036854775807 by omega), ← hlt, if_pos hl1]
    by_cases hc : lstT a ≥ fstT b + f.Period
    ·rw [dec_t hc]; exact .inr ⟨rfl, fun h => by have := h b rfl; omega⟩
    ·rw [dec_f hc]; exact .inl ⟨rfl, fun b' hb' => by cases hb'; omega⟩
   ·have e : ((k : Int) + 1 == ((full f).length : Int)) = false := beq_f (by omega)
    rw [e, cond_false]
    simp only [Option.bind_some, hb0, ← hbf, w64_id (show -9223372036854775808 ≤ fstT b + 0 ∧ fstT b + 0 ≤ 9223372036854775807 by omega), ← hlt, if_neg hl1]
    by_cases hc : lstT a ≥ fstT b + 0
    ·rw [dec_t hc]; exact .inr ⟨rfl, fun h => by have := h b rfl; omega⟩
    ·rw [dec_f hc]; exact .inl ⟨rfl, fun b' hb' => by cases hb'; omega⟩) (by unfold gran_turns.s1; rw [dec_f (by omega)]; rfl) with ⟨h1, h2⟩ | ⟨h1, h2⟩
 ·rw [h1]
  refine ⟨true, rfl, fun _ => ⟨fun k a b ha hb => ?_, fun a b ha hb => ?_⟩, fun _ => rfl⟩
  ·have hkl := (List.getElem?_eq_some_iff.1 hb).1
   have := h2 k a ha b (by rw [Nat.mod_eq_of_lt hkl]; exact hb)
   rw [if_neg (by omega)] at this; omega
  ·have hn : full f ≠ [] := by rintro e; rw [e] at ha; simp at ha
   have hpos := List.length_pos_iff.2 hn
   rw [List.getLast?_eq_getElem?] at ha
   have e1 : (full f).length - 1 + 1 = (full f).length := by omega
   have := h2 _ a ha b (by rw [e1, Nat.mod_self, ← List.head?_eq_getElem?]; exact hb)
   rw [if_pos e1] at this; exact this
 ·rw [h1]
  refine ⟨false, rfl, fun h => (by cases h), fun h => absurd (fun k a hk b hb => ?_) h2⟩
  have hkl := (List.getElem?_eq_some_iff.1 hk).1
  by_cases hl1 : k + 1 = (full f).length
  ·rw [if_pos hl1]
   rw [hl1, Nat.mod_self, ← List.head?_eq_getElem?] at hb
   exact h.2 a b (by rw [List.getLast?_eq_getElem?, ← hl1]; exact hk) hb
  ·rw [if_neg hl1]
   rw [Nat.mod_eq_of_lt (by omega)] at hb
   have := h.1 k a b hk hb; omega

end Go.Dn

namespace Go.Dn
open Go

theorem containsFunc_eq {l : List (List Span)} {p : List Span → Bool} (hl : l.length * 24 ≤ reachBytes) : slices_ContainsFunc_SSSpan_SSpan l (fun z => some (p z)) = some (decide (∃ x ∈ l, p x = true)) := by
 have hlen := len_lt (b := 23) hl
 unfold slices_ContainsFunc_SSSpan_SSpan slices_IndexFunc_SSSpan_SSpan
 by_cases hall : ∀ (k : Nat) (x : List Span), l[k]? = some x → ¬ p x = true
 ·have : loopO (slices_IndexFunc_SSSpan_SSpan.s0 l (fun z => some (p z))) 0 = some (.go ()) := by
   refine loopO_val (I := fun (s : Int) r => r = .go () ∧ ∃ k : Nat, s = k ∧ k ≤ l.length) (fun s => l.length - s.toNat) ?_ ⟨rfl, 0, rfl, Nat.zero_le _⟩
   rintro s r ⟨rfl, k, rfl, hk⟩
   unfold slices_IndexFunc_SSSpan_SSpan.s0
   by_cases hlt : k < l.length
   ·rw [dec_t (show (k : Int) < l.length by omega), cond_true, at?_nat hlt, w64_id (by omega)]
    have := hall k _ (List.getElem?_eq_getElem hlt)
    simp only [Option.bind_some, Bool.not_eq_true] at this ⊢
    rw [this]
    exact .inl ⟨_, rfl, ⟨trivial, k + 1, by push_cast; rfl, hlt⟩, by simp; omega⟩
   ·rw [dec_f (show ¬ (k : Int) < l.length by omega)]; exact .inr rfl
  rw [this, dec_f (by rintro ⟨x, hx, hp⟩; obtain ⟨k, hk⟩ := List.getElem?_of_mem hx; exact hall k x hk hp)]
  rfl
 ·obtain ⟨k0, x0, hx0, hb0, hg⟩ := first_bad (good := fun _ x => ¬ p x = true) hall
  have hb0 : p x0 = true := Classical.byContradiction hb0
  have hlt0 := (List.getElem?_eq_some_iff.1 hx0).1
  have : loopO (slices_IndexFunc_SSSpan_SSpan.s0 l (fun z => some (p z))) 0 = some (.ret (k0 : Int)) := by
   refine loopO_val (I := fun (s : Int) r => r = .ret (k0 : Int) ∧ ∃ k : Nat, s = k ∧ k ≤ k0) (fun s => l.length - s.toNat) ?_ ⟨rfl, 0, rfl, Nat.zero_le _⟩
   rintro s r ⟨rfl, k, rfl, hk⟩
   unfold slices_IndexFunc_SSSpan_SSpan.s0
   have hkl : k < l.length := by omega
   rw [dec_t (show (k : Int) < l.length by omega), cond_true, at?_nat hkl, w64_id (by omega)]
   by_cases hlt : k < k0
   ·have := hg k _ hlt (List.getElem?_eq_getElem hkl)
    simp only [Option.bind_some, Bool.not_eq_true] at this ⊢
    rw [this]
    exact .inl ⟨_, rfl, ⟨trivial, k + 1, by push_cast; rfl, hlt⟩, by simp; omega⟩
   ·have : k = k0 := by omega
    subst this
    rw [List.getElem?_eq_getElem hkl] at hx0
    cases hx0
    simp only [Option.bind_some, hb0]
    exact .inr rfl
  rw [this, dec_t ⟨x0, List.mem_of_getElem? hx0, hb0⟩]
  simp only [Option.bind_some, Jx.elim]
  rw [dec_t (by omega)]

def Bare (f : Form) : Prop := ∀ l ∈ f.Core, l = []
theorem gran_bare_eq {f : Form} (hl : Lim f) : ∃ b, gran_bare f = some b ∧ (b = true ↔ Bare f) := by
 unfold gran_bare
 rw [containsFunc_eq hl.core]
 refine ⟨_, rfl, ?_⟩
 simp only [gran_bare_1, Bool.not_eq_true', decide_eq_false_iff_not, decide_eq_true_eq]
 constructor
 ·intro h l hm
  apply Classical.byContradiction
  intro hn
  exact h ⟨l, hm, by have := List.length_pos_iff.2 hn; omega⟩
 ·rintro h ⟨l, hm, hp⟩
  rw [h l hm] at hp; simp at hp

theorem setAt_bare {f : Form} (hs : Shape f) (hb : Bare f) {i : Int} (ho : ¬ isOdd f i) : setAt f i = [] := by
 by_cases h0 : f.Count = 0
 ·exact setAt_none ho h0
 ·exact (setAt_nil_core ho h0).2 (hb _ (coreAt_get hs h0 i).2)

def UpTo (f : Form) (i : Int) (r : Int × Bool) : Prop := (r.2 = true ∧ i ≤ r.1 ∧ tickP r.1 ∧ setAt f r.1 ≠ [] ∧ ∀ k, i ≤ k → k < r.1 → setAt f k = []) ∨ (r.2 = false ∧ r.1 = 0 ∧ ∀ k, i ≤ k → tickP k → setAt f k = [])
def DownTo (f : Form) (i : Int) (r : Int × Bool) : Prop := (r.2 = true ∧ r.1 ≤ i ∧ tickP r.1 ∧ setAt f r.1 ≠ [] ∧ ∀ k, k ≤ i → r.1 < k → setAt f k = []) ∨ (r.2 = false ∧ r.1 = 0 ∧ ∀ k, k ≤ i → tickP k → setAt f k = [])

theorem odd_split {f : Form} (hs : Shape f) {p : Nat} {i : Int} (hp : ∀ (k : Nat) (g : Granule), f.Odd[k]? = some g → (k < p ↔ g.Index < i)) {j : Int} (hj : isOdd f j) : ∃ (k : Nat) (g : Granule), f.Odd[k]? = some g ∧ g.Index = j ∧ (k < p ↔ j < i) := by
 obtain ⟨g, hg, rfl⟩ := hj
 obtain ⟨k, hk⟩ := List.getElem?_of_mem hg
 exact ⟨k, g, hk, rfl, hp k g hk⟩

theorem gran_step_up {f : Form} (hl : Lim f) (hs : Shape f) {i : Int} (hi : -1099511627776 ≤ i ∧ i ≤ 1099511627776) : ∃ r, gran_step f i 1 = some r ∧ UpTo f i r := by
 have hi64 : In64 i := by unfold In64; omega
 obtain ⟨b, hb, hbb⟩ := gran_bare_eq hl
 have holen := len_lt (b := 31) hl.odd
 unfold gran_step
 rw [hb]
 simp only [Option.bind_some]
 cases b with
 | true =>
  have hbare := hbb.1 rfl
  rw [cond_true]
  obtain ⟨p, h1, h2, h3⟩ := gran_odd_eq hl hs.inc i
  rw [h3]
  simp only [Option.bind_some, dec_f (show ¬ (1 : Int) < 0 by omega), Bool.false_and, cond_false]
  obtain ⟨r, hr, hpost⟩ := loopO_inv (step := gran_step.s0 f 1) (I := fun (s : Int) => ∃ k : Nat, s = k ∧ p ≤ k ∧ k ≤ f.Odd.length ∧ ∀ (j : Nat) (g : Granule), f.Odd[j]? = some g → p ≤ j → j < k → g.Ticks = []) (fun s => f.Odd.length - s.toNat)
   (fun r => (∃ (k : Nat) (g : Granule), r = .ret (g.Index, true) ∧ f.Odd[k]? = some g ∧ p ≤ k ∧ g.Ticks ≠ [] ∧ ∀ (j : Nat) (g' : Granule), f.Odd[j]? = some g' → p ≤ j → j < k → g'.Ticks = []) ∨ (r = .go () ∧ ∀ (j : Nat) (g' : Granule), f.Odd[j]? = some g' → p ≤ j → g'.Ticks = [])) (by
   rintro s ⟨k, rfl, hpk, hk, hn⟩
   unfold gran_step.s0
   by_cases hlt : k < f.Odd.length
   ·rw [dec_t (show (k : Int) ≥ 0 by omega), dec_t (show (k : Int) < f.Odd.length by omega), Bool.and_self, cond_true, at?_nat hlt, w64_id (by omega)]
    simp only [Option.bind_some]
    have hget := List.getElem?_eq_getElem hlt
    by_cases hc : f.Odd[k].Ticks = []
    ·rw [hc]
     refine .inl ⟨(k : Int) + 1, rfl, ⟨k + 1, by push_cast; rfl, by omega, hlt, fun j g hj hpj hjk => ?_⟩, by simp; omega⟩
     rcases Nat.lt_or_ge j k with h | h
     ·exact hn j g hj hpj h
     ·have : j = k := by omega
      subst this; rw [hget] at hj; cases hj; exact hc
    ·rw [dec_t (show ((f.Odd[k].Ticks.length : Int) > 0) by have := List.length_pos_iff.2 hc; omega), cond_true]
     exact .inr ⟨_, rfl, .inl ⟨k, _, rfl, hget, hpk, hc, hn⟩⟩
   ·rw [dec_f (show ¬ (k : Int) < f.Odd.length by omega), Bool.and_false, cond_false]
    refine .inr ⟨_, rfl, .inr ⟨rfl, fun j g hj hpj => hn j g hj hpj ?_⟩⟩
    have := (List.getElem?_eq_some_iff.1 hj).1; omega) (p : Int) ⟨p, rfl, Nat.le_refl _, h1, fun j g _ h h' => by omega⟩
  rw [hr]
  simp only [Option.bind_some]
  rcases hpost with ⟨k, g, rfl, hk, hpk, hne, hn⟩ | ⟨rfl, hn⟩
  ·have hset := setAt_odd hs.inc (List.mem_of_getElem? hk)
   have hgi : ¬ g.Index < i := fun h => by have := (h2 k g hk).2 h; omega
   refine ⟨_, rfl, .inl ⟨rfl, by simp only; omega, (hs.odd g (List.mem_of_getElem? hk)).2, by simp only; rw [hset]; exact hne, fun j hij hjg => ?_⟩⟩
   simp only at hjg
   by_cases ho : isOdd f j
   ·obtain ⟨k', g', hk', rfl, hiff⟩ := odd_split hs h2 ho
    rw [setAt_odd hs.inc (List.mem_of_getElem? hk')]
    refine hn k' g' hk' ?_ ?_
    ·rcases Nat.lt_or_ge k' p with h | h
     ·have := hiff.1 h; omega
     ·exact h
    ·rcases Nat.lt_or_ge k' k with h | h
     ·exact h
     ·rcases Nat.lt_or_ge k k' with h' | h'
      ·have := hs.inc k k' g g' h' hk hk'; omega
      ·have : k = k' := by omega
       subst this; rw [hk] at hk'; cases hk'; omega
   ·exact setAt_bare hs hbare ho
  ·refine ⟨_, rfl, .inr ⟨rfl, rfl, fun j hij _ => ?_⟩⟩
   by_cases ho : isOdd f j
   ·obtain ⟨k', g', hk', rfl, hiff⟩ := odd_split hs h2 ho
    rw [setAt_odd hs.inc (List.mem_of_getElem? hk')]
    refine hn k' g' hk' ?_
    rcases Nat.lt_or_ge k' p with h | h
    ·have := hiff.1 h; omega
    ·exact h
   ·exact setAt_bare hs hbare ho
 | false =>
  rw [cond_false]
  obtain ⟨r, hr, hpost⟩ := loopO_inv (step := gran_step.s1 f 1) (I := fun (s : Int) => i ≤ s ∧ s ≤ 1099511627777 ∧ ∀ k, i ≤ k → k < s → setAt f k = []) (fun s => (1099511627777 - s).toNat)
   (fun r => (∃ j, r = .ret (j, true) ∧ i ≤ j ∧ tickP j ∧ setAt f j ≠ [] ∧ ∀ k, i ≤ k → k < j → setAt f k = []) ∨ (r = .go () ∧ ∀ k, i ≤ k → tickP k → setAt f k = [])) (by
   rintro s ⟨hs1, hs2, hn⟩
   unfold gran_step.s1
   rw [inRange_eq]
   by_cases ht : tickP s
   ·rw [dec_t ht, cond_true, gran_some_eq hl hs (tick64 ht), w64_id (by unfold tickP at ht; omega)]
    simp only [Option.bind_some]
    by_cases hc : setAt f s = []
    ·rw [hc]
     refine .inl ⟨s + 1, by simp, ⟨by omega, by unfold tickP at ht; omega, fun k hk hks => ?_⟩, by unfold tickP at ht; omega⟩
     by_cases h : k = s
     ·rw [h]; exact hc
     ·exact hn k hk (by omega)
    ·rw [dec_t hc, cond_true]
     exact .inr ⟨_, rfl, .inl ⟨s, rfl, hs1, ht, hc, hn⟩⟩
   ·rw [dec_f ht, cond_false]
    exact .inr ⟨_, rfl, .inr ⟨rfl, fun k hk htk => hn k hk (by unfold tickP at ht htk; omega)⟩⟩) i ⟨Int.le_refl _, by omega, fun k h h' => by omega⟩
  rw [hr]
  simp only [Option.bind_some]
  rcases hpost with ⟨j, rfl, h1, h2, h3, h4⟩ | ⟨rfl, hn⟩
  ·exact ⟨_, rfl, .inl ⟨rfl, h1, h2, h3, h4⟩⟩
  ·exact ⟨_, rfl, .inr ⟨rfl, rfl, hn⟩⟩

theorem gran_step_down {f : Form} (hl : Lim f) (hs : Shape f) {i : Int} (hi : -1099511627776 ≤ i ∧ i ≤ 1099511627776) : ∃ r, gran_step f i (-1) = some r ∧ DownTo f i r := by
 have hi64 : In64 i := by unfold In64; omega
 obtain ⟨b, hb, hbb⟩ := gran_bare_eq hl
 have holen := len_lt (b := 31) hl.odd
 unfold gran_step
 rw [hb]
 simp only [Option.bind_some]
 cases b with
 | true =>
  have hbare := hbb.1 rfl
  rw [cond_true]
  obtain ⟨p, h1, h2, h3⟩ := gran_odd_eq hl hs.inc i
  rw [h3]
  -- the number of exceptions up to the index
  obtain ⟨q, hq1, hq2, hq3⟩ : ∃ q : Nat, q ≤ f.Odd.length ∧ (∀ (k : Nat) (g : Granule), f.Odd[k]? = some g → (k < q ↔ g.Index ≤ i)) ∧ ((bif (decide ((-1 : Int) < 0) && !decide (∃ g, f.Odd[p]? = some g ∧ g.Index = i)) then some (w64 ((p : Int) - 1)) else some (p : Int)) : Option Int) = some ((q : Int) - 1) := by
   by_cases he : ∃ g, f.Odd[p]? = some g ∧ g.Index = i
   ·obtain ⟨g, hg, hgi⟩ := he
    have hpl := (List.getElem?_eq_some_iff.1 hg).1
    refine ⟨p + 1, by omega, fun k g' hk => ?_, by rw [dec_t (p := ∃ g, f.Odd[p]? = some g ∧ g.Index = i) ⟨g, hg, hgi⟩]; simp⟩
    have := h2 k g' hk
    constructor
    ·intro h
     rcases Nat.lt_or_ge k p with h' | h'
     ·have := this.1 h'; omega
     ·have : k = p := by omega
      subst this; rw [hg] at hk; cases hk; omega
    ·intro h
     rcases Nat.lt_or_ge p k with h' | h'
     ·have := hs.inc p k g g' h' hg hk; omega
     ·omega
   ·refine ⟨p, h1, fun k g' hk => ?_, by rw [dec_f (p := ∃ g, f.Odd[p]? = some g ∧ g.Index = i) he, w64_id (by omega)]; simp⟩
    have := h2 k g' hk
    constructor
    ·intro h; have := this.1 h; omega
    ·intro h
     by_cases hgi : g'.Index = i
     ·exfalso
      have hkp : ¬ k < p := fun h' => by have := this.1 h'; omega
      rcases Nat.lt_or_ge p k with h' | h'
      ·have hpl : p < f.Odd.length := by have := (List.getElem?_eq_some_iff.1 hk).1; omega
       have h5 := hs.inc p k _ g' h' (List.getElem?_eq_getElem hpl) hk
       have h6 := (h2 p _ (List.getElem?_eq_getElem hpl)).2 (by omega)
       omega
      ·have : k = p := by omega
       subst this
       exact he ⟨g', hk, hgi⟩
     ·exact this.2 (by omega)
  simp only [Option.bind_some]
  rw [hq3]
  simp only [Option.bind_some]
  obtain ⟨r, hr, hpost⟩ := loopO_inv (step := gran_step.s0 f (-1)) (I := fun (s : Int) => ∃ k : Nat, s = (k : Int) - 1 ∧ k ≤ q ∧ ∀ (j : Nat) (g : Granule), f.Odd[j]? = some g → k ≤ j → j < q → g.Ticks = []) (fun s => (s + 1).toNat)
   (fun r => (∃ (k : Nat) (g : Granule), r = .ret (g.Index, true) ∧ f.Odd[k]? = some g ∧ k < q ∧ g.Ticks ≠ [] ∧ ∀ (j : Nat) (g' : Granule), f.Odd[j]? = some g' → k < j → j < q → g'.Ticks = []) ∨ (r = .go () ∧ ∀ (j : Nat) (g' : Granule), f.Odd[j]? = some g' → j < q → g'.Ticks = [])) (by
   rintro s ⟨k, rfl, hk, hn⟩
   unfold gran_step.s0
   by_cases h0 : 0 < k
   ·have hlt : k - 1 < f.Odd.length := by omega
    rw [dec_t (show (k : Int) - 1 ≥ 0 by omega), dec_t (show (k : Int) - 1 < f.Odd.length by omega), Bool.and_self, cond_true, show (k : Int) - 1 = ((k - 1 : Nat) : Int) by omega, at?_nat hlt, w64_id (by omega)]
    simp only [Option.bind_some]
    have hget := List.getElem?_eq_getElem hlt
    by_cases hc : f.Odd[k - 1].Ticks = []
    ·rw [hc]
     refine .inl ⟨((k - 1 : Nat) : Int) + -1, rfl, ⟨k - 1, by omega, by omega, fun j g hj hpj hjk => ?_⟩, by simp; omega⟩
     rcases Nat.lt_or_ge j k with h | h
     ·have : j = k - 1 := by omega
      subst this; rw [hget] at hj; cases hj; exact hc
     ·exact hn j g hj h hjk
    ·rw [dec_t (show ((f.Odd[k - 1].Ticks.length : Int) > 0) by have := List.length_pos_iff.2 hc; omega), cond_true]
     exact .inr ⟨_, rfl, .inl ⟨k - 1, _, rfl, hget, by omega, hc, fun j g hj h1 h2 => hn j g hj (by omega) h2⟩⟩
   ·rw [dec_f (show ¬ (k : Int) - 1 ≥ 0 by omega), Bool.false_and, cond_false]
    exact .inr ⟨_, rfl, .inr ⟨rfl, fun j g hj hjq => hn j g hj (by omega) hjq⟩⟩) ((q : Int) - 1) ⟨q, rfl, Nat.le_refl _, fun j g _ h h' => by omega⟩
  rw [hr]
  simp only [Option.bind_some]
  rcases hpost with ⟨k, g, rfl, hk, hkq, hne, hn⟩ | ⟨rfl, hn⟩
  ·have hset := setAt_odd hs.inc (List.mem_of_getElem? hk)
   have hgi := (hq2 k g hk).1 hkq
   refine ⟨_, rfl, .inl ⟨rfl, hgi, (hs.odd g (List.mem_of_getElem? hk)).2, by simp only; rw [hset]; exact hne, fun j hij hjg => ?_⟩⟩
   simp only at hjg
   by_cases ho : isOdd f j
   ·obtain ⟨g', hg', rfl⟩ := ho
    obtain ⟨k', hk'⟩ := List.getElem?_of_mem hg'
    rw [setAt_odd hs.inc hg']
    refine hn k' g' hk' ?_ ((hq2 k' g' hk').2 hij)
    rcases Nat.lt_or_ge k k' with h | h
    ·exact h
    ·rcases Nat.lt_or_ge k' k with h' | h'
     ·have := hs.inc k' k g' g h' hk' hk; omega
     ·have : k = k' := by omega
      subst this; rw [hk] at hk'; cases hk'; omega
   ·exact setAt_bare hs hbare ho
  ·refine ⟨_, rfl, .inr ⟨rfl, rfl, fun j hij _ => ?_⟩⟩
   by_cases ho : isOdd f j
   ·obtain ⟨g', hg', rfl⟩ := ho
    obtain ⟨k', hk'⟩ := List.getElem?_of_mem hg'
    rw [setAt_odd hs.inc hg']
    exact hn k' g' hk' ((hq2 k' g' hk').2 hij)
   ·exact setAt_bare hs hbare ho
 | false =>
  rw [cond_false]
  obtain ⟨r, hr, hpost⟩ := loopO_inv (step := gran_step.s1 f (-1)) (I := fun (s : Int) => s ≤ i ∧ -1099511627777 ≤ s ∧ ∀ k, k ≤ i → s < k → setAt f k = []) (fun s => (s + 1099511627777).toNat)
   (fun r => (∃ j, r = .ret (j, true) ∧ j ≤ i ∧ tickP j ∧ setAt f j ≠ [] ∧ ∀ k, k ≤ i → j < k → setAt f k = []) ∨ (r = .go () ∧ ∀ k, k ≤ i → tickP k → setAt f k = [])) (by
   rintro s ⟨hs1, hs2, hn⟩
   unfold gran_step.s1
   rw [inRange_eq]
   by_cases ht : tickP s
   ·rw [dec_t ht, cond_true, gran_some_eq hl hs (tick64 ht), w64_id (by unfold tickP at ht; omega)]
    simp only [Option.bind_some]
    by_cases hc : setAt f s = []
    ·rw [hc]
     refine .inl ⟨s + -1, by simp, ⟨by omega, by unfold tickP at ht; omega, fun k hk hks => ?_⟩, by unfold tickP at ht; omega⟩
     by_cases h : k = s
     ·rw [h]; exact hc
     ·exact hn k hk (by omega)
    ·rw [dec_t hc, cond_true]
     exact .inr ⟨_, rfl, .inl ⟨s, rfl, hs1, ht, hc, hn⟩⟩
   ·rw [dec_f ht, cond_false]
    exact .inr ⟨_, rfl, .inr ⟨rfl, fun k hk htk => hn k hk (by unfold tickP at ht htk; omega)⟩⟩) i ⟨Int.le_refl _, by omega, fun k h h' => by omega⟩
  rw [hr]
  simp only [Option.bind_some]
  rcases hpost with ⟨j, rfl, h1, h2, h3, h4⟩ | ⟨rfl, hn⟩
  ·exact ⟨_, rfl, .inl ⟨rfl, h1, h2, h3, h4⟩⟩
  ·exact ⟨_, rfl, .inr ⟨rfl, rfl, hn⟩⟩

def Above (f : Form) (i : Int) (r : Int × Bool) : Prop := (r.2 = true ∧ i < r.1 ∧ tickP r.1 ∧ setAt f r.1 ≠ [] ∧ ∀ k, i < k → k < r.1 → tickP k → setAt f k = []) ∨ (r.2 = false ∧ r.1 = 0 ∧ ∀ k, i < k → tickP k → setAt f k = [])
def Under (f : Form) (i : Int) (r : Int × Bool) : Prop := (r.2 = true ∧ r.1 < i ∧ tickP r.1 ∧ setAt f r.1 ≠ [] ∧ ∀ k, k < i → r.1 < k → tickP k → setAt f k = []) ∨ (r.2 = false ∧ r.1 = 0 ∧ ∀ k, k < i → tickP k → setAt f k = [])

theorem gran_Behind_eq {f : Form} (hl : Lim f) (hs : Shape f) {i : Int} (hi : In64 i) : ∃ r, gran_Behind f i = some r ∧ Above f i r := by
 unfold gran_Behind
 by_cases h : i ≥ 1099511627776
 ·rw [dec_t h, cond_true]
  exact ⟨_, rfl, .inr ⟨rfl, rfl, fun k hk ht => by unfold tickP at ht; omega⟩⟩
 ·rw [dec_f h, cond_false, w64_id (by unfold In64 at hi; omega)]
  have hm : iMax (i + 1) (-1099511627776) = max (i + 1) (-1099511627776) := by unfold iMax; omega
  rw [hm]
  obtain ⟨r, h1, h2⟩ := gran_step_up hl hs (i := max (i + 1) (-1099511627776)) (by omega)
  rw [h1]
  refine ⟨r, rfl, ?_⟩
  rcases h2 with ⟨a, b, c, d, e⟩ | ⟨a, b, e⟩
  ·exact .inl ⟨a, by omega, c, d, fun k hk hkr ht => e k (by unfold tickP at ht; omega) hkr⟩
  ·exact .inr ⟨a, b, fun k hk ht => e k (by have := ht; unfold tickP at this; omega) ht⟩

theorem gran_Before_eq {f : Form} (hl : Lim f) (hs : Shape f) {i : Int} (hi : In64 i) : ∃ r, gran_Before f i = some r ∧ Under f i r := by
 unfold gran_Before
 by_cases h : i ≤ -1099511627776
 ·rw [dec_t h, cond_true]
  exact ⟨_, rfl, .inr ⟨rfl, rfl, fun k hk ht => by unfold tickP at ht; omega⟩⟩
 ·rw [dec_f h, cond_false, w64_id (by unfold In64 at hi; omega)]
  have hm : iMin (i - 1) 1099511627776 = min (i - 1) 1099511627776 := by unfold iMin; omega
  rw [hm]
  obtain ⟨r, h1, h2⟩ := gran_step_down hl hs (i := min (i - 1) 1099511627776) (by omega)
  rw [h1]
  refine ⟨r, rfl, ?_⟩
  rcases h2 with ⟨a, b, c, d, e⟩ | ⟨a, b, e⟩
  ·exact .inl ⟨a, by omega, c, d, fun k hk hkr ht => e k (by unfold tickP at ht; omega) hkr⟩
  ·exact .inr ⟨a, b, fun k hk ht => e k (by have := ht; unfold tickP at this; omega) ht⟩

end Go.Dn

namespace Go.Dn
open Go

def BesideR (f : Form) (i : Int) (lo hi : Int × Bool) : Prop :=
 fits f i ∧ (lo.2 = true → fits f lo.1 ∧ AheadL (setAt f lo.1) (setAt f i)) ∧ (hi.2 = true → fits f hi.1 ∧ AheadL (setAt f i) (setAt f hi.1)) ∧ (lo.2 = true → hi.2 = true → AheadL (setAt f lo.1) (setAt f hi.1))

theorem aheadL_nil_l (b : List Span) : AheadL [] b := by intro x hx; cases hx
theorem aheadL_nil_r (a : List Span) : AheadL a [] := by intro x _ y hy; cases hy

theorem setAt_len {f : Form} (hl : Lim f) (hs : Shape f) (i : Int) : Len (setAt f i) := by
 by_cases ho : isOdd f i
 ·obtain ⟨g, hg, rfl⟩ := ho
  rw [setAt_odd hs.inc hg]; exact (hl.ticks g hg).2.1
 ·by_cases h0 : f.Count = 0
  ·rw [setAt_none ho h0]; unfold Len; simp
  ·rw [setAt_core ho h0]; unfold Len; rw [List.length_map]; exact (hl.sets _ (coreAt_get hs h0 i).2).1

theorem setAt_right {f : Form} (hs : Shape f) {i : Int} (hf : fits f i) : RightL (setAt f i) := by
 by_cases ho : isOdd f i
 ·obtain ⟨g, hg, rfl⟩ := ho
  rw [setAt_odd hs.inc hg]; exact (hs.odd g hg).1
 ·by_cases h0 : f.Count = 0
  ·rw [setAt_none ho h0]; exact ⟨by simp, by simp⟩
  ·unfold fits at hf
   rw [setAt_core ho h0] at hf ⊢
   exact (hs.core _ (coreAt_get hs h0 i).2).shift fun s hs' => hf (shiftS (perAt f i) s) (List.mem_map.2 ⟨s, hs', rfl⟩)

theorem near_l {c : Bool} {X S : List Span} : AheadL (if c = true then X else []) S ↔ (c = true → AheadL X S) := by
 cases c
 ·simp [aheadL_nil_l]
 ·simp
theorem near_r {c : Bool} {X S : List Span} : AheadL S (if c = true then X else []) ↔ (c = true → AheadL S X) := by
 cases c
 ·simp [aheadL_nil_r]
 ·simp

noncomputable def sideG (f : Form) (r : Int × Bool) : Option (Jx (List Span) Bool) :=
 (bif r.2 then (gran_Get f r.1).bind fun x => (bif (x.2 != 0) then some (.ret false) else some (.go x.1)) else some (.go []))

open Classical in
theorem sideG_eq {f : Form} (hl : Lim f) (hs : Shape f) {r : Int × Bool} (ht : r.2 = true → tickP r.1) : (r.2 = true ∧ ¬ fits f r.1 ∧ sideG f r = some (.ret false)) ∨ ((r.2 = true → fits f r.1) ∧ sideG f r = some (.go (if r.2 = true then setAt f r.1 else []))) := by
 obtain ⟨j, c⟩ := r
 unfold sideG
 cases c with
 | false => exact .inr ⟨by simp, by simp⟩
 | true =>
  simp only [cond_true]
  rw [gran_Get_eq hl hs (tick64 (ht rfl))]
  by_cases hfl : fits f j
  ·rw [if_pos ⟨ht rfl, hfl⟩]; exact .inr ⟨fun _ => hfl, by simp⟩
  ·rw [if_neg (fun h => hfl h.2)]; exact .inl ⟨trivial, hfl, rfl⟩

open Classical in
theorem gran_beside_eq {f : Form} (hl : Lim f) (hs : Shape f) {i : Int} (hi : tickP i) {lo hi' : Int × Bool} (hlo : gran_Before f i = some lo) (hhi : gran_Behind f i = some hi') (tlo : lo.2 = true → tickP lo.1) (thi : hi'.2 = true → tickP hi'.1) :
  ∃ b, gran_beside f i = some b ∧ (b = true ↔ BesideR f i lo hi') := by
 have e : gran_beside f i = (gran_Get f i).bind fun x1 => (bif (x1.2 != 0) then some false else (sideG f lo).bind fun y1 => y1.elim (fun r' => some r') fun a2 => (sideG f hi').bind fun y2 => y2.elim (fun r' => some r') fun a4 =>
   (spans_Ahead a2 x1.1).bind fun x6 => ((bif x6 then (spans_Ahead x1.1 a4).bind fun x7 => some x7 else some false)).bind fun y3 => ((bif y3 then (spans_Ahead a2 a4).bind fun x8 => some x8 else some false)).bind fun y4 => some y4) := by
  unfold gran_beside sideG
  rw [hlo, hhi]
  simp only [Option.bind_some]
 rw [e, gran_Get_eq hl hs (tick64 hi)]
 clear e
 by_cases hf : fits f i
 ·rw [if_pos ⟨hi, hf⟩]
  simp only [Option.bind_some, bne_self_eq_false, cond_false]
  rcases sideG_eq hl hs tlo with ⟨h1, h2, h0⟩ | ⟨h1, h0⟩
  ·rw [h0]
   exact ⟨false, rfl, fun h => (by cases h), fun h => absurd (h.2.1 h1).1 h2⟩
  ·rw [h0]
   simp only [Option.bind_some, Jx.elim]
   rcases sideG_eq hl hs thi with ⟨h3, h4, h0'⟩ | ⟨h3, h0'⟩
   ·rw [h0']
    exact ⟨false, rfl, fun h => (by cases h), fun h => absurd (h.2.2.1 h3).1 h4⟩
   ·rw [h0']
    simp only [Option.bind_some]
    have lenA : Len (if lo.2 = true then setAt f lo.1 else []) := by
     by_cases hc : lo.2 = true
     ·rw [if_pos hc]; exact setAt_len hl hs _
     ·rw [if_neg hc]; unfold Len; simp
    generalize hA : (if lo.2 = true then setAt f lo.1 else []) = A at lenA
    generalize hB : (if hi'.2 = true then setAt f hi'.1 else []) = B
    obtain ⟨r1, q1, p1⟩ := spans_Ahead_eq (b := setAt f i) lenA
    obtain ⟨r2, q2, p2⟩ := spans_Ahead_eq (a := setAt f i) (b := B) (setAt_len hl hs i)
    obtain ⟨r3, q3, p3⟩ := spans_Ahead_eq (b := B) lenA
    rw [q1, q2, q3]
    subst hA hB
    rw [near_l] at p1
    rw [near_r] at p2
    rw [near_l, near_r] at p3
    refine ⟨r1 && r2 && r3, by cases r1 <;> cases r2 <;> rfl, ?_⟩
    rw [Bool.and_eq_true, Bool.and_eq_true, p1, p2, p3]
    constructor
    ·rintro ⟨⟨a, b⟩, c⟩
     exact ⟨hf, fun h => ⟨h1 h, a h⟩, fun h => ⟨h3 h, b h⟩, c⟩
    ·rintro ⟨_, a, b, c⟩
     exact ⟨⟨fun h => (a h).2, fun h => (b h).2⟩, c⟩
 ·rw [if_neg (fun h => hf h.2)]
  exact ⟨false, rfl, fun h => (by cases h), fun h => absurd h.1 hf⟩

def Beside (f : Form) (i : Int) : Prop := ∀ lo hi, Under f i lo → Above f i hi → BesideR f i lo hi

theorem Under.uniq {f : Form} {i : Int} {r r' : Int × Bool} (h : Under f i r) (h' : Under f i r') : r = r' := by
 obtain ⟨a, b⟩ := r
 obtain ⟨a', b'⟩ := r'
 rcases h with ⟨rfl, h1, h2, h3, h4⟩ | ⟨rfl, rfl, h4⟩ <;> rcases h' with ⟨rfl, k1, k2, k3, k4⟩ | ⟨rfl, rfl, k4⟩
 ·simp only at *
  rcases Int.lt_trichotomy a a' with h | h | h
  ·exact absurd (h4 a' k1 h k2) k3
  ·rw [h]
  ·exact absurd (k4 a h1 h h2) h3
 ·exact absurd (k4 a h1 h2) h3
 ·exact absurd (h4 a' k1 k2) k3
 ·rfl
theorem Above.uniq {f : Form} {i : Int} {r r' : Int × Bool} (h : Above f i r) (h' : Above f i r') : r = r' := by
 obtain ⟨a, b⟩ := r
 obtain ⟨a', b'⟩ := r'
 rcases h with ⟨rfl, h1, h2, h3, h4⟩ | ⟨rfl, rfl, h4⟩ <;> rcases h' with ⟨rfl, k1, k2, k3, k4⟩ | ⟨rfl, rfl, k4⟩
 ·simp only at *
  rcases Int.lt_trichotomy a a' with h | h | h
  ·exact absurd (k4 a h1 h h2) h3
  ·rw [h]
  ·exact absurd (h4 a' k1 h k2) k3
 ·exact absurd (k4 a h1 h2) h3
 ·exact absurd (h4 a' k1 k2) k3
 ·rfl

theorem gran_beside_iff {f : Form} (hl : Lim f) (hs : Shape f) {i : Int} (hi : tickP i) : ∃ b, gran_beside f i = some b ∧ (b = true ↔ Beside f i) := by
 obtain ⟨lo, h1, h2⟩ := gran_Before_eq hl hs (tick64 hi)
 obtain ⟨hi', h3, h4⟩ := gran_Behind_eq hl hs (tick64 hi)
 obtain ⟨b, h5, h6⟩ := gran_beside_eq hl hs hi h1 h3 (fun h => by rcases h2 with ⟨_, _, h, _⟩ | ⟨h', _⟩ <;> simp_all) (fun h => by rcases h4 with ⟨_, _, h, _⟩ | ⟨h', _⟩ <;> simp_all)
 refine ⟨b, h5, h6.trans ⟨fun h lo' hi'' q1 q2 => ?_, fun h => h lo hi' h2 h4⟩⟩
 rw [q1.uniq h2, q2.uniq h4]; exact h

def sizeF (f : Form) : Nat := (f.Core.map List.length).sum + (f.Odd.map (·.Ticks.length)).sum

theorem sum_take {α : Type} (g : α → Nat) {l : List α} {k : Nat} (h : k < l.length) : ((l.take (k + 1)).map g).sum = ((l.take k).map g).sum + g l[k] := by
 rw [List.take_succ_eq_append_getElem h, List.map_append, List.sum_append]; simp

theorem gran_Size_eq {f : Form} (hl : Lim f) (hc : f.Core.length ≤ 6000) (ho : f.Odd.length ≤ 6000) : gran_Size f = some (sizeF f : Int) := by
 have hr := reach_eq
 have lenC : ∀ l ∈ f.Core, l.length ≤ 8796093022207 := fun l hm => by have := (hl.sets l hm).1; unfold Len at this; omega
 have lenO : ∀ g ∈ f.Odd, g.Ticks.length ≤ 8796093022207 := fun l hm => by have := (hl.ticks l hm).2.1; unfold Len at this; omega
 obtain ⟨a, h1, h2, h3⟩ := fold_loop (l := f.Core) (step := gran_Size.s0 f) (f := fun a _ x => a + (x.length : Int)) (fin := id) (a0 := (0 : Int)) (fun k a => a = ((((f.Core.take k).map List.length).sum : Nat) : Int) ∧ a ≤ k * 8796093022207) ⟨by simp, by simp⟩ (fun k x a hk ⟨ha, hb⟩ => by
   obtain ⟨q1, q2⟩ := nat_at hk
   have hx := lenC x (List.mem_of_getElem? hk)
   have hkl : k < f.Core.length := by omega
   have h0 : 0 ≤ a := by rw [ha]; omega
   unfold gran_Size.s0
   simp only
   rw [dec_t q2, cond_true, q1, w64_id (x := (k : Int) + 1) (by omega)]
   simp only [Option.bind_some]
   rw [w64_id (x := a + (x.length : Int)) (by omega)]
   refine ⟨rfl, ?_, by push_cast; omega⟩
   rw [sum_take _ hkl]
   rw [List.getElem?_eq_getElem hkl] at hk
   cases hk; rw [ha]; push_cast; rfl) (fun a _ => by unfold gran_Size.s0; simp only; rw [dec_f (by omega)]; rfl)
 rw [List.take_length] at h2
 obtain ⟨b, h4, h5, h6⟩ := fold_loop (l := f.Odd) (step := gran_Size.s1 f) (f := fun a _ x => a + (x.Ticks.length : Int)) (fin := id) (a0 := a) (fun k b => b = a + ((((f.Odd.take k).map (·.Ticks.length)).sum : Nat) : Int) ∧ b ≤ a + k * 8796093022207) ⟨by simp, by simp⟩ (fun k x b hk ⟨ha, hb⟩ => by
   obtain ⟨q1, q2⟩ := nat_at hk
   have hx := lenO x (List.mem_of_getElem? hk)
   have hkl : k < f.Odd.length := by omega
   have h0 : 0 ≤ b := by rw [ha, h2]; omega
   unfold gran_Size.s1
   simp only
   rw [dec_t q2, cond_true, q1, w64_id (x := (k : Int) + 1) (by omega)]
   simp only [Option.bind_some]
   rw [w64_id (x := b + (x.Ticks.length : Int)) (by omega)]
   refine ⟨rfl, ?_, by push_cast; omega⟩
   rw [sum_take _ hkl]
   rw [List.getElem?_eq_getElem hkl] at hk
   cases hk; rw [ha]; push_cast; omega) (fun a _ => by unfold gran_Size.s1; simp only; rw [dec_f (by omega)]; rfl)
 rw [List.take_length] at h5
 unfold gran_Size
 rw [h1]
 simp only [Option.bind_some, id]
 rw [h4]
 simp only [Option.bind_some, id, h5, h2, sizeF]
 push_cast; rfl

structure RightF (f : Form) : Prop where
 shape : Shape f
 turns : Turns f
 beside : ∀ g ∈ f.Odd, Beside f g.Index
def LongF (f : Form) : Prop := 6000 < f.Core.length ∨ 6000 < f.Odd.length ∨ 60000 < sizeF f

theorem gran_Right_eq {f : Form} (hl : Lim f) : (LongF f ∧ gran_Right f = some 3) ∨ (¬ LongF f ∧ RightF f ∧ gran_Right f = some 0) ∨ (¬ LongF f ∧ ¬ RightF f ∧ gran_Right f = some 50) := by
 have holen := len_lt (b := 31) hl.odd
 unfold gran_Right
 by_cases h1 : 6000 < f.Core.length ∨ 6000 < f.Odd.length
 ·have e : (decide ((f.Core.length : Int) > 6000) || decide ((f.Odd.length : Int) > 6000)) = true := by
   rcases h1 with h | h
   ·rw [dec_t (show (f.Core.length : Int) > 6000 by omega)]; rfl
   ·rw [dec_t (show (f.Odd.length : Int) > 6000 by omega)]; simp
  rw [e]
  exact .inl ⟨h1.elim .inl (fun h => .inr (.inl h)), rfl⟩
 ·have e : (decide ((f.Core.length : Int) > 6000) || decide ((f.Odd.length : Int) > 6000)) = false := by
   rw [dec_f (show ¬ (f.Core.length : Int) > 6000 by omega), dec_f (show ¬ (f.Odd.length : Int) > 6000 by omega)]; rfl
  rw [e, cond_false, gran_Size_eq hl (by omega) (by omega)]
  simp only [Option.bind_some]
  by_cases h2 : 60000 < sizeF f
  ·rw [dec_t (show (sizeF f : Int) > 60000 by omega)]
   exact .inl ⟨.inr (.inr h2), rfl⟩
  ·have hnl : ¬ LongF f := by unfold LongF; omega
   rw [dec_f (show ¬ (sizeF f : Int) > 60000 by omega), cond_false]
   obtain ⟨b, hb, hbs⟩ := gran_shape_eq hl
   rw [hb]
   simp only [Option.bind_some]
   refine .inr ?_
   cases b with
   | false => exact .inr ⟨hnl, fun h => (by have := hbs.2 h.shape; cases this), rfl⟩
   | true =>
    have hs := hbs.1 rfl
    obtain ⟨c, hc, hct⟩ := gran_turns_eq hl hs
    rw [hc]
    simp only [Option.bind_some, Bool.not_true, cond_false]
    cases c with
    | false => exact .inr ⟨hnl, fun h => (by have := hct.2 h.turns; cases this), rfl⟩
    | true =>
     simp only [Bool.not_true, cond_false]
     rcases all_loop (l := f.Odd) (step := gran_Right.s0 f) (fun _ g => Beside f g.Index) (no := .ret 50) (yes := .go ()) (fun k g hk _ => by
       obtain ⟨q1, q2⟩ := nat_at hk
       obtain ⟨b, hb, hbb⟩ := gran_beside_iff hl hs (hs.odd g (List.mem_of_getElem? hk)).2
       unfold gran_Right.s0
       rw [dec_t q2, cond_true, q1, w64_id (by omega)]
       simp only [Option.bind_some, hb]
       cases b
       ·exact .inr ⟨rfl, fun h => by have := hbb.2 h; cases this⟩
       ·exact .inl ⟨rfl, hbb.1 rfl⟩) (by unfold gran_Right.s0; rw [dec_f (by omega)]; rfl) with ⟨q1, q2⟩ | ⟨q1, q2⟩
     ·rw [q1]
      exact .inl ⟨hnl, ⟨hs, hct.1 rfl, fun g hg => by obtain ⟨k, hk⟩ := List.getElem?_of_mem hg; exact q2 k g hk⟩, rfl⟩
     ·rw [q1]
      exact .inr ⟨hnl, fun h => q2 fun k g hk => h.beside g (List.mem_of_getElem? hk), rfl⟩

def SmallF (f : Form) : Prop := f.Core.length ≤ 12 ∧ f.Odd.length ≤ 8 ∧ sizeF f ≤ 60
theorem epactlaw05_Small_eq {f : Form} (hl : Lim f) : ∃ b, epactlaw05_Small f = some b ∧ (b = true ↔ SmallF f) := by
 unfold epactlaw05_Small
 by_cases h : f.Core.length ≤ 12 ∧ f.Odd.length ≤ 8
 ·rw [dec_t (show (f.Core.length : Int) ≤ 12 by omega), dec_t (show (f.Odd.length : Int) ≤ 8 by omega), gran_Size_eq hl (by omega) (by omega)]
  refine ⟨decide ((sizeF f : Int) ≤ 60), rfl, ?_⟩
  rw [decide_eq_true_iff]
  exact ⟨fun h' => ⟨h.1, h.2, by omega⟩, fun h' => by have := h'.2.2; omega⟩
 ·have e : (decide ((f.Core.length : Int) ≤ 12) && decide ((f.Odd.length : Int) ≤ 8)) = false := by
   by_cases h1 : f.Core.length ≤ 12
   ·rw [dec_f (show ¬ (f.Odd.length : Int) ≤ 8 by omega)]; simp
   ·rw [dec_f (show ¬ (f.Core.length : Int) ≤ 12 by omega)]; rfl
  rw [e]
  exact ⟨false, rfl, fun h => (by cases h), fun h' => absurd ⟨h'.1, h'.2.1⟩ h⟩

end Go.Dn

namespace Go.Dn
open Go

theorem full_mem {f : Form} {l : List Span} : l ∈ full f ↔ l ∈ f.Core ∧ l ≠ [] := by
 unfold full
 rw [List.mem_filter, decide_eq_true_iff, gt_iff_lt, List.length_pos_iff]

theorem full_pair {f : Form} (hs : Shape f) (ht : Turns f) : (full f).Pairwise (fun a b => lstT a < fstT b) := by
 have hm : ∀ x ∈ full f, fstT x ≤ lstT x := fun x hx => fst_le_lst (hs.core x (full_mem.1 hx).1) (full_mem.1 hx).2
 have h1 := ht.1
 generalize full f = l at hm h1
 induction l with
 | nil => exact .nil
 | cons x l ih =>
  have ih := ih (fun y hy => hm y (List.mem_cons_of_mem _ hy)) (fun k a b ha hb => h1 (k + 1) a b ha hb)
  refine List.pairwise_cons.2 ⟨fun y hy => ?_, ih⟩
  cases l with
  | nil => cases hy
  | cons z l =>
   have hxz := h1 0 x z rfl rfl
   rcases List.mem_cons.1 hy with rfl | hy
   ·exact hxz
   ·have := (List.pairwise_cons.1 ih).1 y hy
    have := hm z (by simp)
    omega

theorem core_pair {f : Form} (hs : Shape f) (ht : Turns f) {j k : Nat} {a b : List Span} (hjk : j < k) (ha : f.Core[j]? = some a) (hb : f.Core[k]? = some b) (na : a ≠ []) (nb : b ≠ []) : lstT a < fstT b := by
 have h := full_pair hs ht
 unfold full at h
 rw [List.pairwise_filter] at h
 have hj := (List.getElem?_eq_some_iff.1 ha)
 have hk := (List.getElem?_eq_some_iff.1 hb)
 obtain ⟨hj, rfl⟩ := hj
 obtain ⟨hk, rfl⟩ := hk
 exact List.pairwise_iff_getElem.1 h j k hj hk hjk (by rw [decide_eq_true_iff]; exact List.length_pos_iff.2 na) (by rw [decide_eq_true_iff]; exact List.length_pos_iff.2 nb)

theorem core_turn {f : Form} (hs : Shape f) (ht : Turns f) {a b : List Span} (ha : a ∈ f.Core) (hb : b ∈ f.Core) (na : a ≠ []) (nb : b ≠ []) : lstT a < fstT b + f.Period := by
 have hA := full_mem.2 ⟨ha, na⟩
 have hB := full_mem.2 ⟨hb, nb⟩
 have hm : ∀ x ∈ full f, fstT x ≤ lstT x := fun x hx => fst_le_lst (hs.core x (full_mem.1 hx).1) (full_mem.1 hx).2
 have hn : full f ≠ [] := List.ne_nil_of_mem hA
 have hlast := List.getLast?_eq_some_getLast hn
 have hhead := List.head?_eq_some_head hn
 have h2 := ht.2 _ _ hlast hhead
 have hp := full_pair hs ht
 have e1 : lstT a ≤ lstT ((full f).getLast hn) := by
  obtain ⟨j, hj⟩ := List.getElem?_of_mem hA
  obtain ⟨hjl, hj⟩ := List.getElem?_eq_some_iff.1 hj
  by_cases hc : j = (full f).length - 1
  ·subst hc
   rw [List.getLast_eq_getElem, hj]
   exact Int.le_refl _
  ·have := List.pairwise_iff_getElem.1 hp j ((full f).length - 1) hjl (by omega) (by omega)
   rw [hj] at this
   have h5 := hm _ (List.getLast_mem hn)
   rw [List.getLast_eq_getElem] at h5 ⊢
   omega
 have e2 : fstT ((full f).head hn) ≤ fstT b := by
  obtain ⟨j, hj⟩ := List.getElem?_of_mem hB
  obtain ⟨hjl, hj⟩ := List.getElem?_eq_some_iff.1 hj
  have hh : (full f).head hn = (full f)[0]'(by omega) := List.head_eq_getElem hn
  by_cases hc : j = 0
  ·subst hc
   rw [hh, hj]
   exact Int.le_refl _
  ·have := List.pairwise_iff_getElem.1 hp 0 j (by omega) hjl (by omega)
   rw [hj, ← hh] at this
   have h5 := hm _ (List.head_mem hn)
   omega
 omega

theorem coreAt_idx {f : Form} (hs : Shape f) (h0 : f.Count ≠ 0) (i : Int) : f.Core[(i % f.Count).toNat]? = some (coreAt f i) := by
 have := (coreAt_get hs h0 i).1
 unfold at? at this
 rwa [if_pos (Int.emod_nonneg i h0)] at this

theorem core_order {f : Form} (hs : Shape f) (ht : Turns f) (h0 : f.Count ≠ 0) {i k : Int} (hik : i < k) (ni : coreAt f i ≠ []) (nk : coreAt f k ≠ []) : lstT (coreAt f i) + perAt f i < fstT (coreAt f k) + perAt f k := by
 have hp := core_pos hs h0
 have di := Int.emod_add_mul_ediv i f.Count
 have dk := Int.emod_add_mul_ediv k f.Count
 have mi := Int.emod_nonneg i h0
 have mk := Int.emod_nonneg k h0
 have li := Int.emod_lt_of_pos i hp
 have lk := Int.emod_lt_of_pos k hp
 have hq : i / f.Count ≤ k / f.Count := Int.ediv_le_ediv hp (by omega)
 unfold perAt
 rcases Int.lt_or_eq_of_le hq with h | h
 ·have h1 := core_turn hs ht (coreAt_get hs h0 i).2 (coreAt_get hs h0 k).2 ni nk
  have h2 : (i / f.Count + 1) * f.Period ≤ k / f.Count * f.Period := Int.mul_le_mul_of_nonneg_right (by omega) hs.per.1
  rw [Int.add_mul, Int.one_mul] at h2
  omega
 ·rw [h] at di ⊢
  have : i % f.Count < k % f.Count := by omega
  have h1 := core_pair hs ht (j := (i % f.Count).toNat) (k := (k % f.Count).toNat) (by omega) (coreAt_idx hs h0 i) (coreAt_idx hs h0 k) ni nk
  omega

theorem lst_shift {l : List Span} (d : Int) (hn : l ≠ []) : lstT (l.map (shiftS d)) = lstT l + d ∧ fstT (l.map (shiftS d)) = fstT l + d := by
 unfold lstT fstT
 rw [List.getLast?_map, List.head?_map, List.getLast?_eq_some_getLast hn, List.head?_eq_some_head hn]
 exact ⟨rfl, rfl⟩

theorem under_some {f : Form} (hl : Lim f) (hs : Shape f) {i k : Int} (hk : In64 k) (hik : i < k) (ti : tickP i) (ni : setAt f i ≠ []) : ∃ j, Under f k (j, true) ∧ i ≤ j := by
 obtain ⟨r, _, h⟩ := gran_Before_eq hl hs hk
 obtain ⟨j, b⟩ := r
 have h' := h
 rcases h with ⟨rfl, h1, h2, h3, h4⟩ | ⟨rfl, _, h4⟩
 ·refine ⟨j, h', ?_⟩
  apply Classical.byContradiction
  intro hc
  exact ni (h4 i hik (by simp only; omega) ti)
 ·exact absurd (h4 i hik ti) ni
theorem above_some {f : Form} (hl : Lim f) (hs : Shape f) {i k : Int} (hk : In64 k) (hik : k < i) (ti : tickP i) (ni : setAt f i ≠ []) : ∃ j, Above f k (j, true) ∧ j ≤ i := by
 obtain ⟨r, _, h⟩ := gran_Behind_eq hl hs hk
 obtain ⟨j, b⟩ := r
 have h' := h
 rcases h with ⟨rfl, h1, h2, h3, h4⟩ | ⟨rfl, _, h4⟩
 ·refine ⟨j, h', ?_⟩
  apply Classical.byContradiction
  intro hc
  exact ni (h4 i hik (by simp only; omega) ti)
 ·exact absurd (h4 i hik ti) ni

theorem RightF.order {f : Form} (hl : Lim f) (hr : RightF f) : ∀ (n : Nat) (i k : Int), (k - i).toNat = n → i < k → tickP i → tickP k → fits f i → fits f k → setAt f i ≠ [] → setAt f k ≠ [] → lstT (setAt f i) < fstT (setAt f k) := by
 have hs := hr.shape
 intro n
 induction n using Nat.strongRecOn with
 | _ n ih =>
  intro i k hn hik ti tk fi fk ni nk
  by_cases ok : isOdd f k
  ·obtain ⟨g, hg, rfl⟩ := ok
   obtain ⟨j, hj, hij⟩ := under_some hl hs (tick64 tk) hik ti ni
   obtain ⟨hi', _, hab⟩ := gran_Behind_eq hl hs (tick64 tk)
   obtain ⟨_, hlo, _, _⟩ := hr.beside g hg _ _ hj hab
   obtain ⟨fj, aj⟩ := hlo rfl
   have hj2 := hj
   rcases hj2 with ⟨_, j1, j2, j3, j4⟩ | ⟨h, _⟩
   ·simp only at fj aj j1 j2 j3
    have hjk := (aheadL_iff j3 nk).1 aj
    by_cases hji : i = j
    ·rw [hji]; exact hjk
    ·have h1 := ih (j - i).toNat (by omega) i j rfl (by omega) ti j2 fi fj ni j3
     have h2 := fst_le_lst (setAt_right hs fj) j3
     omega
   ·cases h
  ·by_cases oi : isOdd f i
   ·obtain ⟨g, hg, rfl⟩ := oi
    obtain ⟨j, hj, hij⟩ := above_some hl hs (tick64 ti) hik tk nk
    obtain ⟨lo', _, hun⟩ := gran_Before_eq hl hs (tick64 ti)
    obtain ⟨_, _, hhi, _⟩ := hr.beside g hg _ _ hun hj
    obtain ⟨fj, aj⟩ := hhi rfl
    have hj2 := hj
    rcases hj2 with ⟨_, j1, j2, j3, j4⟩ | ⟨h, _⟩
    ·simp only at fj aj j1 j2 j3
     have hjk := (aheadL_iff ni j3).1 aj
     by_cases hji : j = k
     ·rw [← hji]; exact hjk
     ·have h1 := ih (k - j).toNat (by omega) j k rfl (by omega) j2 tk fj fk j3 nk
      have h2 := fst_le_lst (setAt_right hs fj) j3
      omega
    ·cases h
   ·have h0 : f.Count ≠ 0 := fun h => ni (setAt_none oi h)
    have ni' := fun h => ni ((setAt_nil_core oi h0).2 h)
    have nk' := fun h => nk ((setAt_nil_core ok h0).2 h)
    rw [setAt_core oi h0, setAt_core ok h0, (lst_shift _ ni').1, (lst_shift _ nk').2]
    exact core_order hs hr.turns h0 hik ni' nk'

end Go.Dn

namespace Go.Dn
open Go

theorem Above.tick {f : Form} {i : Int} {r : Int × Bool} (h : Above f i r) (hr : r.2 = true) : i < r.1 ∧ tickP r.1 ∧ setAt f r.1 ≠ [] ∧ ∀ k, i < k → k < r.1 → tickP k → setAt f k = [] := by
 rcases h with ⟨_, h1, h2, h3, h4⟩ | ⟨h, _⟩
 ·exact ⟨h1, h2, h3, h4⟩
 ·rw [hr] at h; cases h
theorem Under.tick {f : Form} {i : Int} {r : Int × Bool} (h : Under f i r) (hr : r.2 = true) : r.1 < i ∧ tickP r.1 ∧ setAt f r.1 ≠ [] ∧ ∀ k, k < i → r.1 < k → tickP k → setAt f k = [] := by
 rcases h with ⟨_, h1, h2, h3, h4⟩ | ⟨h, _⟩
 ·exact ⟨h1, h2, h3, h4⟩
 ·rw [hr] at h; cases h

end Go.Dn

namespace Go.Dn
open Go

theorem eqf_loop {α β : Type} {a : List α} {b : List β} {step : Int → Option (Int ⊕ Jx Unit Bool)} {eq : α → β → Option Bool} (P : α → β → Prop)
  (hl : (a.length : Int) < 9223372036854775807) (hab : a.length = b.length)
  (heq : ∀ (k : Nat) x y, a[k]? = some x → b[k]? = some y → ∃ r, eq x y = some r ∧ (r = true ↔ P x y))
  (hstep : ∀ s, step s = bif decide (s < (a.length : Int)) then (at? a s).bind fun x1 => (at? b s).bind fun x2 => (eq x1 x2).bind fun x3 => bif (!x3) then some (.inr (.ret false)) else some (.inl (w64 (s + 1))) else some (.inr (.go ()))) :
  (loopO step 0 = some (.go ()) ∧ ∀ (k : Nat) x y, a[k]? = some x → b[k]? = some y → P x y) ∨ (loopO step 0 = some (.ret false) ∧ ¬ ∀ (k : Nat) x y, a[k]? = some x → b[k]? = some y → P x y) := by
 rcases all_loop (l := a) (step := step) (fun k x => ∀ y, b[k]? = some y → P x y) (no := .ret false) (yes := .go ()) (fun k x hk hp => by
  have hlt := (List.getElem?_eq_some_iff.1 hk).1
  have hat : at? a (k : Int) = some x := by rw [at?_nat hlt]; rw [List.getElem?_eq_getElem hlt] at hk; exact hk
  have hbt : at? b (k : Int) = some (b[k]'(by omega)) := at?_nat (by omega)
  have hbk : b[k]? = some (b[k]'(by omega)) := List.getElem?_eq_getElem (by omega)
  obtain ⟨r, h1, h2⟩ := heq k x _ hk hbk
  rw [hstep, dec_t (show (k : Int) < a.length by omega), cond_true, hat, hbt, w64_id (show _ by omega)]
  simp only [Option.bind_some, h1]
  cases r with
  | true => exact .inl ⟨rfl, fun y hy => by rw [hbk] at hy; cases hy; exact h2.1 rfl⟩
  | false => exact .inr ⟨rfl, fun h => by have := h2.2 (h _ hbk); cases this⟩) (by
  rw [hstep, dec_f (by omega)]; rfl) with ⟨h1, h2⟩ | ⟨h1, h2⟩
 ·exact .inl ⟨h1, fun k x y hx hy => h2 k x hx y hy⟩
 ·exact .inr ⟨h1, fun h => h2 fun k x hx y hy => h k x y hx hy⟩

theorem shifted_iff {a b : List Span} {d : Int} (hl : a.length = b.length) : (∀ (k : Nat) x y, a[k]? = some x → b[k]? = some y → y.From - x.From = d ∧ y.To - x.To = d) ↔ b = a.map (shiftS d) := by
 constructor
 ·intro h
  apply List.ext_getElem?
  intro k
  by_cases hk : k < a.length
  ·have h1 : a[k]? = some a[k] := List.getElem?_eq_getElem hk
   have h2 : b[k]? = some (b[k]'(by omega)) := List.getElem?_eq_getElem (by omega)
   rw [h2, List.getElem?_map, h1]
   obtain ⟨q1, q2⟩ := h k _ _ h1 h2
   simp only [Option.map_some, shiftS, Option.some.injEq]
   generalize b[k]'(by omega) = y at q1 q2 ⊢
   obtain ⟨y1, y2⟩ := y
   simp only at q1 q2
   simp only [Span.mk.injEq]
   omega
  ·rw [List.getElem?_eq_none (by omega), List.getElem?_eq_none (by simp; omega)]
 ·rintro rfl k x y hx hy
  rw [List.getElem?_map, hx] at hy
  simp only [Option.map_some, Option.some.injEq] at hy
  subst hy
  simp only [shiftS]
  omega

theorem canon_shifted_eq {a b : List Span} {d : Int} (ha : RightL a) (hb : RightL b) (hl : Len a) : ∃ r, canon_shifted a b d = some r ∧ (r = true ↔ b = a.map (shiftS d)) := by
 have hl' : (a.length : Int) < 9223372036854775807 := by have := reach_eq; unfold Len at hl; omega
 unfold canon_shifted slices_EqualFunc_SSpan_SSpan_Span_Span
 by_cases hlen : a.length = b.length
 ·rw [bne_f (by omega), cond_false]
  have tk : ∀ {l : List Span}, RightL l → ∀ (k : Nat) s, l[k]? = some s → tickP s.From ∧ tickP s.To := fun {l} h k s hs => by
   have := rightL_iff.1 h k s hs
   unfold goodSpan at this
   exact ⟨this.1, this.2.1⟩
  rcases eqf_loop (a := a) (b := b) (step := slices_EqualFunc_SSpan_SSpan_Span_Span.s0 a b (fun z0 z1 => some (canon_shifted_1 z0 z1 d))) (eq := fun z0 z1 => some (canon_shifted_1 z0 z1 d)) (fun x y => y.From - x.From = d ∧ y.To - x.To = d) hl' hlen (fun k x y hx hy => by
   refine ⟨_, rfl, ?_⟩
   obtain ⟨x1, x2⟩ := tk ha k x hx
   obtain ⟨y1, y2⟩ := tk hb k y hy
   unfold tickP at x1 x2 y1 y2
   unfold canon_shifted_1
   rw [w64_id (by omega), w64_id (by omega)]
   simp) (fun s => rfl) with ⟨h1, h2⟩ | ⟨h1, h2⟩
  ·rw [h1]
   exact ⟨true, rfl, ⟨fun _ => (shifted_iff hlen).1 h2, fun _ => rfl⟩⟩
  ·rw [h1]
   refine ⟨false, rfl, by simp only [Bool.false_eq_true, false_iff]; exact fun h => h2 ((shifted_iff hlen).2 h)⟩
 ·rw [bne_t (by omega), cond_true]
  refine ⟨false, rfl, by simp only [Bool.false_eq_true, false_iff]; rintro rfl; exact hlen (by simp)⟩

end Go.Dn

namespace Go.Dn
open Go

noncomputable def cs (f : Form) (i : Int) : List Span := (coreAt f i).map (shiftS (perAt f i))

theorem shift_shift (l : List Span) (a b : Int) : (l.map (shiftS a)).map (shiftS b) = l.map (shiftS (a + b)) := by
 rw [List.map_map]
 congr 1
 funext s
 simp only [Function.comp, shiftS, Span.mk.injEq]
 omega

theorem shift_inj {a b : List Span} {d : Int} (h : a.map (shiftS d) = b.map (shiftS d)) : a = b := by
 have := congrArg (List.map (shiftS (-d))) h
 rw [shift_shift, shift_shift, Int.add_right_neg, shift0, shift0] at this
 exact this

theorem cs_period {f : Form} (h0 : f.Count ≠ 0) (i : Int) : cs f (i + f.Count) = (cs f i).map (shiftS f.Period) := by
 unfold cs coreAt perAt
 rw [shift_shift, Int.add_emod_right, Int.add_ediv_of_dvd_right (Int.dvd_refl _), Int.ediv_self h0, Int.add_mul, Int.one_mul]

theorem cs_periods {f : Form} (h0 : f.Count ≠ 0) (i k : Int) : cs f (i + f.Count * k) = (cs f i).map (shiftS (k * f.Period)) := by
 unfold cs coreAt perAt
 rw [shift_shift, Int.add_mul_emod_self_left, Int.add_mul_ediv_left _ _ h0, Int.add_mul]

theorem cs_small {f : Form} {i : Int} (h0 : 0 ≤ i) (h1 : i < f.Count) : cs f i = f.Core.getD i.toNat [] := by
 unfold cs coreAt perAt
 rw [Int.emod_eq_of_lt h0 h1, Int.ediv_eq_zero_of_lt h0 h1, Int.zero_mul, shift0]

def TurnZ (f : Form) (d q : Int) : Prop := ∀ i, cs f (i + d) = (cs f i).map (shiftS q)

theorem turn_of {f : Form} (h0 : 0 < f.Count) {d q : Int} (h : ∀ i, 0 ≤ i → i < f.Count → cs f (i + d) = (cs f i).map (shiftS q)) : TurnZ f d q := by
 intro i
 have e : i = i % f.Count + f.Count * (i / f.Count) := (Int.emod_add_mul_ediv i f.Count).symm
 have h1 := h (i % f.Count) (Int.emod_nonneg i (by omega)) (Int.emod_lt_of_pos i h0)
 have e2 : i + d = (i % f.Count + d) + f.Count * (i / f.Count) := by omega
 rw [e2, cs_periods (by omega), h1]
 conv => rhs; rw [e, cs_periods (by omega)]
 rw [shift_shift, shift_shift, Int.add_comm]

def wrapI (f : Form) (d k : Int) : Int := if k + d ≥ f.Count then k + d - f.Count else k + d
def wrapP (f : Form) (d k : Int) : Int := if k + d ≥ f.Count then f.Period else 0

theorem wrap_cs {f : Form} {d k : Int} (hd : 1 ≤ d) (hdn : d ≤ f.Count) (h0 : 0 ≤ k) (h1 : k < f.Count) : 0 ≤ wrapI f d k ∧ wrapI f d k < f.Count ∧ cs f (k + d) = (cs f (wrapI f d k)).map (shiftS (wrapP f d k)) := by
 unfold wrapI wrapP
 by_cases h : k + d ≥ f.Count
 ·rw [if_pos h, if_pos h]
  refine ⟨by omega, by omega, ?_⟩
  rw [← cs_period (by omega)]
  congr 1; omega
 ·rw [if_neg h, if_neg h, shift0]
  exact ⟨by omega, by omega, rfl⟩

theorem canon_turn_eq {f : Form} (hl : Lim f) (hs : Shape f) {d q : Int} (hd : 1 ≤ d) (hdn : d ≤ f.Count) (hq : 0 ≤ q ∧ q ≤ 1099511627776) : ∃ r, canon_turn f d q = some r ∧ (r = true ↔ TurnZ f d q) := by
 have hcl : (f.Core.length : Int) < 4611686018427387904 := len_lt (b := 23) hl.core
 have hcnt := hs.count
 have key : ∀ k : Int, 0 ≤ k → k < f.Count → (cs f (wrapI f d k) = (cs f k).map (shiftS (q - wrapP f d k)) ↔ cs f (k + d) = (cs f k).map (shiftS q)) := fun k k0 k1 => by
  obtain ⟨_, _, h⟩ := wrap_cs hd hdn k0 k1
  rw [h]
  constructor
  ·intro e
   rw [e, shift_shift]
   congr 2; omega
  ·intro e
   apply shift_inj (d := wrapP f d k)
   rw [e, shift_shift]
   congr 2; omega
 unfold canon_turn
 rcases all_loop (l := f.Core) (step := canon_turn.s0 f d q) (fun k x => cs f (wrapI f d k) = x.map (shiftS (q - wrapP f d k))) (no := .ret false) (yes := .go ()) (fun k x hk hp => by
  have hlt := (List.getElem?_eq_some_iff.1 hk).1
  have hat : at? f.Core (k : Int) = some x := by rw [at?_nat hlt]; rw [List.getElem?_eq_getElem hlt] at hk; exact hk
  obtain ⟨w0, w1, _⟩ := wrap_cs (f := f) (k := (k : Int)) hd hdn (by omega) (by omega)
  have hx := hs.core x (List.mem_of_getElem? hk)
  have hlx := (hl.sets x (List.mem_of_getElem? hk)).1
  have hwl : (wrapI f d k).toNat < f.Core.length := by omega
  have hgw : cs f (wrapI f d k) = f.Core[(wrapI f d k).toNat] := by rw [cs_small w0 w1, List.getD_eq_getElem?_getD, List.getElem?_eq_getElem hwl]; rfl
  have hy := hs.core _ (List.getElem_mem hwl)
  have hat2 : at? f.Core (wrapI f d k) = some f.Core[(wrapI f d k).toNat] := at?_lt w0 (by omega)
  have hpk : (bif decide (w64 ((k : Int) + d) ≥ f.Count) then some (w64 (w64 ((k : Int) + d) - f.Count), f.Period) else some (w64 ((k : Int) + d), 0)) = some (wrapI f d k, wrapP f d k) := by
   rw [w64_id (show _ by omega)]
   unfold wrapI wrapP
   by_cases h : (k : Int) + d ≥ f.Count
   ·rw [dec_t h, cond_true, if_pos h, if_pos h, w64_id (show _ by omega)]
   ·rw [dec_f h, cond_false, if_neg h, if_neg h]
  obtain ⟨r, h1, h2⟩ := canon_shifted_eq (d := q - wrapP f d k) hx hy hlx
  have hwp : 0 ≤ wrapP f d k ∧ wrapP f d k ≤ 1099511627776 := by have := hs.per; unfold wrapP; split <;> omega
  unfold canon_turn.s0
  rw [dec_t (show (k : Int) < f.Core.length by omega), cond_true, hat]
  simp only [Option.bind_some, hpk, hat2]
  rw [w64_id (show _ by omega), h1]
  simp only [Option.bind_some]
  rw [hgw]
  cases r with
  | true => exact .inl ⟨by simp only [Bool.not_true, cond_false, Option.bind_some, Jx.elim]; rw [w64_id (show _ by omega)], h2.1 rfl⟩
  | false => exact .inr ⟨rfl, fun h => by have := h2.2 h; cases this⟩) (by
  unfold canon_turn.s0; rw [dec_f (by omega)]; rfl) with ⟨h1, h2⟩ | ⟨h1, h2⟩
 ·rw [h1]
  refine ⟨true, rfl, ⟨fun _ => turn_of (by omega) fun i i0 i1 => ?_, fun _ => rfl⟩⟩
  have hlt : i.toNat < f.Core.length := by omega
  have := h2 i.toNat _ (List.getElem?_eq_getElem hlt)
  rw [Int.toNat_of_nonneg i0] at this
  refine (key i i0 i1).1 ?_
  rw [this, cs_small i0 i1, List.getD_eq_getElem?_getD, List.getElem?_eq_getElem hlt]; rfl
 ·rw [h1]
  refine ⟨false, rfl, ⟨(fun h => nomatch h), fun ht => absurd (fun k x hk => ?_) h2⟩⟩
  have hlt := (List.getElem?_eq_some_iff.1 hk).1
  have := (key k (by omega) (by omega)).2 (ht k)
  rw [this, cs_small (by omega) (by omega), List.getD_eq_getElem?_getD, Int.toNat_natCast, hk]; rfl

end Go.Dn

namespace Go.Dn
open Go

structure Good (f : Form) (d : Int) : Prop where
 pos : 1 ≤ d
 dvd : d ∣ f.Count
 rest : f.Period % (f.Count / d) = 0
 turn : TurnZ f d (f.Period / (f.Count / d))

theorem good_self {f : Form} (h0 : 0 < f.Count) : Good f f.Count := by
 have e : f.Count / f.Count = 1 := Int.ediv_self (by omega)
 exact ⟨by omega, Int.dvd_refl _, by rw [e]; omega, by rw [e, Int.ediv_one]; exact cs_period (by omega)⟩

theorem copy_loop {x4 : List (List Span)} (hc : x4.length * 24 ≤ reachBytes) (hs : ∀ l ∈ x4, Len l) : loopO (canon_core.s1 x4) (0, []) = some x4 := by
 have hcl : (x4.length : Int) < 4611686018427387904 := len_lt (b := 23) hc
 have hr := reach_eq
 have hro := room_eq
 refine loopO_val (I := fun s r => r = x4 ∧ ∃ k : Nat, k ≤ x4.length ∧ s = ((k : Int), x4.take k)) (fun s => x4.length - s.1.toNat) ?_ ⟨rfl, 0, Nat.zero_le _, rfl⟩
 rintro s r ⟨rfl, k, hk, rfl⟩
 unfold canon_core.s1
 by_cases hlt : k < r.length
 ·left
  have hl := hs _ (List.getElem_mem hlt)
  unfold Len at hl
  have hcp : clone? 16 r[k] = some r[k] := by unfold clone?; rw [if_pos (by omega)]
  have hap : app? 24 (r.take k) [r[k]] = some (r.take (k + 1)) := by
   rw [app?_ok (by simp only [List.length_take, List.length_cons, List.length_nil]; have : min k r.length + 1 ≤ r.length := (by omega); have := Nat.mul_le_mul_right 24 this; omega)]
   rw [List.take_append_getElem hlt]
  refine ⟨((k : Int) + 1, r.take (k + 1)), ?_, ⟨rfl, k + 1, hlt, by push_cast; rfl⟩, by simp; omega⟩
  rw [dec_t (show (k : Int) < r.length by omega), cond_true, at?_nat hlt]
  simp only [Option.bind_some, hcp, hap]
  rw [w64_id (show _ by omega)]
 ·right
  have : k = r.length := by omega
  subst this
  rw [dec_f (show ¬ ((r.length : Int) < r.length) by omega), cond_false, List.take_length]

theorem core_b0_eq {f : Form} (hl : Lim f) (hs : Shape f) {d : Int} (hd : 1 ≤ d) (hdn : d ∣ f.Count) (h0 : 0 < f.Count) :
  (Good f d ∧ canon_core.b0 f ([], 0, 0) d = some ((f.Core.take d.toNat, f.Period / (f.Count / d), d), 1)) ∨ (¬ Good f d ∧ canon_core.b0 f ([], 0, 0) d = some (([], 0, 0), 0)) := by
 have hle : d ≤ f.Count := Int.le_of_dvd h0 hdn
 have hcl : (f.Core.length : Int) < 4611686018427387904 := len_lt (b := 23) hl.core
 have hcnt := hs.count
 have hm : 0 < f.Count / d := Int.ediv_pos_of_pos_of_dvd h0 (by omega) hdn
 have hmle : f.Count / d ≤ f.Count := Int.ediv_le_self _ (by omega)
 have htd : f.Count.tdiv d = f.Count / d := Int.tdiv_eq_ediv_of_nonneg (by omega)
 have hq : 0 ≤ f.Period / (f.Count / d) ∧ f.Period / (f.Count / d) ≤ 1099511627776 := by
  have h1 := hs.per
  have h2 : f.Period / (f.Count / d) ≤ f.Period := Int.ediv_le_self _ h1.1
  have h3 : 0 ≤ f.Period / (f.Count / d) := Int.ediv_nonneg h1.1 (by omega)
  omega
 have hfl : safe_Floor f.Period (w64 (f.Count.tdiv d)) = some (f.Period / (f.Count / d), f.Period % (f.Count / d), 0) := by
  rw [htd, w64_id (show _ by omega), safe_Floor_eq hl.period (by unfold In64; omega), floorS_pos hm]
 unfold canon_core.b0
 rw [nz?_ok (by omega), hfl]
 simp only [Option.bind_some]
 by_cases hr : f.Period % (f.Count / d) = 0
 ·rw [bne_f hr, cond_false]
  obtain ⟨r, h1, h2⟩ := canon_turn_eq hl hs hd hle hq
  rw [h1]
  cases r with
  | true =>
   left
   refine ⟨⟨hd, hdn, hr, h2.1 rfl⟩, ?_⟩
   have hcut : cut? f.Core 0 d = some (f.Core.take d.toNat) := by
    unfold cut?
    rw [if_pos ⟨by omega, by omega, by omega⟩]
    rfl
   simp only [Option.bind_some, Bool.not_true, cond_false, hcut]
   have := copy_loop (x4 := f.Core.take d.toNat) (by have := hl.core; simp only [List.length_take]; have h := Nat.mul_le_mul_right 24 (Nat.min_le_right d.toNat f.Core.length); omega) (fun l hl' => (hl.sets l (List.mem_of_mem_take hl')).1)
   rw [this]
   rfl
  | false =>
   right
   exact ⟨fun g => (by have := h2.2 g.turn; cases this), rfl⟩
 ·right
  refine ⟨fun g => hr g.rest, ?_⟩
  rw [bne_t hr]
  rfl

theorem least_good {f : Form} (h0 : 0 < f.Count) : ∃ d, Good f d ∧ ∀ d', Good f d' → d ≤ d' := by
 have : ∃ n : Nat, Good f n := ⟨f.Count.toNat, by rw [Int.toNat_of_nonneg (by omega)]; exact good_self h0⟩
 obtain ⟨n, hn⟩ := this
 induction n using Nat.strongRecOn with
 | _ n ih =>
  by_cases h : ∃ m : Nat, m < n ∧ Good f m
  ·obtain ⟨m, h1, h2⟩ := h
   exact ih m h1 h2
  ·refine ⟨n, hn, fun d' hd' => ?_⟩
   apply Classical.byContradiction
   intro hlt
   have := hd'.pos
   exact h ⟨d'.toNat, by omega, by rw [Int.toNat_of_nonneg (by omega)]; exact hd'⟩

theorem canon_bare_eq {f : Form} (hl : Lim f) : canon_bare f = gran_bare f := by
 unfold canon_bare gran_bare
 rfl

theorem canon_core_eq {f : Form} (hl : Lim f) (hs : Shape f) : (Bare f ∧ canon_core f = some (Form.mk 0 0 [] [])) ∨
  (¬ Bare f ∧ 0 < f.Count ∧ ∃ d, Good f d ∧ (∀ d', Good f d' → d ≤ d') ∧ canon_core f = some (Form.mk (f.Period / (f.Count / d)) d (f.Core.take d.toNat) [])) := by
 have hcl : (f.Core.length : Int) < 4611686018427387904 := len_lt (b := 23) hl.core
 have hcnt := hs.count
 obtain ⟨b, h1, h2⟩ := gran_bare_eq hl
 unfold canon_core
 rw [canon_bare_eq hl, h1]
 cases b with
 | true => exact .inl ⟨h2.1 rfl, rfl⟩
 | false =>
  right
  have hnb : ¬ Bare f := fun h => by have := h2.2 h; cases this
  have h0 : 0 < f.Count := by
   rcases Nat.eq_zero_or_pos f.Core.length with h | h
   ·exact absurd (fun l hl' => by rw [List.length_eq_zero_iff.1 h] at hl'; cases hl') hnb
   ·omega
  obtain ⟨d, hg, hmin⟩ := least_good h0
  refine ⟨hnb, h0, d, hg, hmin, ?_⟩
  have hdn : d ≤ f.Count := Int.le_of_dvd h0 hg.dvd
  have hd1 := hg.pos
  have hloop : loopO (canon_divisors_1.s0 f.Count (rangeY (canon_core.b0 f))) (1, (([], 0, 0), 0)) = some (.ret ((f.Core.take d.toNat, f.Period / (f.Count / d), d), 1)) := by
   refine loopO_val (I := fun s r => r = .ret ((f.Core.take d.toNat, f.Period / (f.Count / d), d), 1) ∧ ∃ k : Int, 1 ≤ k ∧ k ≤ d ∧ s = (k, (([], 0, 0), 0))) (fun s => (d - s.1).toNat) ?_ ⟨rfl, 1, by omega, hd1, rfl⟩
   rintro s r ⟨rfl, k, k1, k2, rfl⟩
   unfold canon_divisors_1.s0
   rw [dec_t (show k ≤ f.Count by omega), cond_true, nz?_ok (by omega)]
   simp only [Option.bind_some]
   by_cases hkd : k ∣ f.Count
   ·rw [beq_t (show f.Count.tmod k = 0 from Int.tmod_eq_zero_of_dvd hkd), cond_true]
    rcases core_b0_eq hl hs k1 hkd h0 with ⟨g, e⟩ | ⟨g, e⟩
    ·have : k = d := by have := hmin k g; omega
     subst this
     right
     simp only [rangeY, if_true, e, Option.map_some, Option.bind_some]
     rfl
    ·left
     have hne : k ≠ d := fun h => g (h ▸ hg)
     refine ⟨(k + 1, (([], 0, 0), 0)), ?_, ⟨trivial, k + 1, by omega, by omega, rfl⟩, by simp; omega⟩
     simp only [rangeY, if_true, e, Option.map_some, Option.bind_some]
     rw [w64_id (show _ by omega)]
     rfl
   ·left
    have hne : k ≠ d := fun h => hkd (h ▸ hg.dvd)
    refine ⟨(k + 1, (([], 0, 0), 0)), ?_, ⟨trivial, k + 1, by omega, by omega, rfl⟩, by simp; omega⟩
    rw [beq_f (fun h => hkd (Int.dvd_of_tmod_eq_zero h)), cond_false]
    simp only [Option.bind_some, cond_false]
    rw [w64_id (show _ by omega)]
  unfold canon_divisors_1
  rw [hloop]
  rfl

end Go.Dn

namespace Go.Dn
open Go

def Turn (h : Int → List Span) (d q : Int) : Prop := ∀ i, h (i + d) = (h i).map (shiftS q)

theorem Turn.neg {h : Int → List Span} {d q : Int} (t : Turn h d q) : Turn h (-d) (-q) := fun i => by
 have := t (i + -d)
 rw [show i + -d + d = i by omega] at this
 rw [this, shift_shift, Int.add_right_neg, shift0]

theorem Turn.add {h : Int → List Span} {d q d' q' : Int} (t : Turn h d q) (t' : Turn h d' q') : Turn h (d + d') (q + q') := fun i => by
 rw [show i + (d + d') = (i + d) + d' by omega, t', t, shift_shift]

theorem Turn.zero (h : Int → List Span) : Turn h 0 0 := fun i => by rw [Int.add_zero, shift0]

theorem Turn.nat {h : Int → List Span} {d q : Int} (t : Turn h d q) : ∀ k : Nat, Turn h (k * d) (k * q)
 | 0 => by simpa using Turn.zero h
 | k + 1 => by
  have := (Turn.nat t k).add t
  push_cast
  rw [Int.add_mul, Int.one_mul, Int.add_mul, Int.one_mul]
  exact this

theorem Turn.mul {h : Int → List Span} {d q : Int} (t : Turn h d q) (k : Int) : Turn h (k * d) (k * q) := by
 rcases Int.natAbs_eq k with e | e
 ·rw [e]; exact t.nat _
 ·rw [e, Int.neg_mul, Int.neg_mul]; exact (t.nat _).neg

theorem Turn.agree {h h' : Int → List Span} {d q a : Int} (t : Turn h d q) (t' : Turn h' d q) (hd : 0 < d) (he : ∀ i, a ≤ i → i < a + d → h i = h' i) : h = h' := by
 funext i
 have e : i = ((i - a) % d + a) + (i - a) / d * d := by
  have := Int.emod_add_mul_ediv (i - a) d
  rw [Int.mul_comm] at this
  omega
 have h1 := Int.emod_nonneg (i - a) (show d ≠ 0 by omega)
 have h2 := Int.emod_lt_of_pos (i - a) hd
 rw [e, t.mul, t'.mul, he _ (by omega) (by omega)]

noncomputable def csz (f : Form) (i : Int) : List Span := if f.Count = 0 then [] else cs f i

theorem csz_pos {f : Form} (h0 : 0 < f.Count) : csz f = cs f := by funext i; exact if_neg (by omega)
theorem setAt_csz {f : Form} {i : Int} (h : ¬ isOdd f i) : setAt f i = csz f i := by
 unfold csz
 by_cases h0 : f.Count = 0
 ·rw [if_pos h0, setAt_none h h0]
 ·rw [if_neg h0, setAt_core h h0]; rfl
theorem csz_bare {f : Form} (hs : Shape f) (hb : Bare f) (i : Int) : csz f i = [] := by
 unfold csz
 by_cases h0 : f.Count = 0
 ·rw [if_pos h0]
 ·rw [if_neg h0]; unfold cs; rw [hb _ (coreAt_get hs h0 i).2]; rfl

def CoreOf (f c : Form) : Prop := (Bare f ∧ c = Form.mk 0 0 [] []) ∨ (¬ Bare f ∧ 0 < f.Count ∧ ∃ d, Good f d ∧ (∀ d', Good f d' → d ≤ d') ∧ c = Form.mk (f.Period / (f.Count / d)) d (f.Core.take d.toNat) [])

theorem canon_core_ok {f : Form} (hl : Lim f) (hs : Shape f) : ∃ c, canon_core f = some c ∧ CoreOf f c := by
 rcases canon_core_eq hl hs with ⟨h1, h2⟩ | ⟨h1, h2, d, h3, h4, h5⟩
 ·exact ⟨_, h2, .inl ⟨h1, rfl⟩⟩
 ·exact ⟨_, h5, .inr ⟨h1, h2, d, h3, h4, rfl⟩⟩

theorem CoreOf.odd {f c : Form} (h : CoreOf f c) : c.Odd = [] := by
 rcases h with ⟨_, rfl⟩ | ⟨_, _, d, _, _, rfl⟩ <;> rfl

theorem CoreOf.csz {f c : Form} (hs : Shape f) (h : CoreOf f c) : csz c = csz f := by
 rcases h with ⟨hb, rfl⟩ | ⟨hb, h0, d, hg, _, rfl⟩
 ·funext i; rw [csz_bare hs hb]; rfl
 ·have hd := hg.pos
  have hdn : d ≤ f.Count := Int.le_of_dvd h0 hg.dvd
  have hcnt := hs.count
  rw [csz_pos h0, csz_pos (show 0 < (Form.mk (f.Period / (f.Count / d)) d (f.Core.take d.toNat) []).Count by show 0 < d; omega)]
  refine Turn.agree (a := 0) (d := d) (q := f.Period / (f.Count / d)) (cs_period (f := Form.mk (f.Period / (f.Count / d)) d (f.Core.take d.toNat) []) (show d ≠ 0 by omega)) hg.turn (by omega) (fun i i0 i1 => ?_)
  rw [cs_small i0 (show i < d by omega), cs_small i0 (by omega)]
  show (f.Core.take d.toNat).getD i.toNat [] = _
  rw [List.getD_eq_getElem?_getD, List.getD_eq_getElem?_getD, List.getElem?_take_of_lt (by omega)]

theorem CoreOf.shape {f c : Form} (hs : Shape f) (h : CoreOf f c) : Shape c := by
 rcases h with ⟨hb, rfl⟩ | ⟨hb, h0, d, hg, _, rfl⟩
 ·exact ⟨rfl, by simp, by simp, by simp, by simp, fun j k a b _ h => by simp at h⟩
 ·have hd := hg.pos
  have hdn : d ≤ f.Count := Int.le_of_dvd h0 hg.dvd
  have hcnt := hs.count
  have hm : 0 < f.Count / d := Int.ediv_pos_of_pos_of_dvd h0 (by omega) hg.dvd
  have hp : 0 < f.Period := by
   have := hs.per; have := hs.zero
   rcases Int.lt_or_le 0 f.Period with h | h
   ·exact h
   ·have : f.Period = 0 := by omega
    have := hs.zero.2 this
    omega
  have hq : 0 < f.Period / (f.Count / d) := Int.ediv_pos_of_pos_of_dvd hp (by omega) (Int.dvd_of_emod_eq_zero hg.rest)
  have hq2 : f.Period / (f.Count / d) ≤ f.Period := Int.ediv_le_self _ (by omega)
  refine ⟨?_, ?_, ?_, ?_, by simp, fun j k a b _ h => by simp at h⟩
  ·simp only [List.length_take]; omega
  ·simp only; omega
  ·simp only; have := hs.per; omega
  ·intro l hl'; exact hs.core l (List.mem_of_mem_take hl')

theorem CoreOf.lim {f c : Form} (hl : Lim f) (hs : Shape f) (h : CoreOf f c) : Lim c := by
 have hsc := h.shape hs
 have hn : c.Core.length ≤ f.Core.length ∧ ∀ l ∈ c.Core, l ∈ f.Core := by
  rcases h with ⟨hb, rfl⟩ | ⟨hb, h0, d, hg, _, rfl⟩
  ·exact ⟨Nat.zero_le _, fun l hl' => by cases hl'⟩
  ·exact ⟨by simp only [List.length_take]; omega, fun l hl' => List.mem_of_mem_take hl'⟩
 have hc := hl.core
 have h24 := Nat.mul_le_mul_right 24 hn.1
 have hp := hsc.per
 have hcnt := hsc.count
 have hcl : (f.Core.length : Int) < 4611686018427387904 := len_lt (b := 23) hl.core
 exact ⟨by omega, fun l hl' => hl.sets l (hn.2 l hl'), by rw [h.odd]; simp [reach_eq], by rw [h.odd]; simp, by unfold In64; omega, by unfold In64; omega⟩

theorem CoreOf.setAt {f c : Form} (hs : Shape f) (h : CoreOf f c) (i : Int) : setAt c i = Go.Dn.csz f i := by
 rw [setAt_csz (by rintro ⟨g, hg, _⟩; rw [h.odd] at hg; cases hg), h.csz hs]

theorem canon_plain_eq {f c : Form} (hl : Lim f) (hs : Shape f) (h : CoreOf f c) {g : Granule} (hg : g ∈ f.Odd) : ∃ r, canon_plain c g = some r ∧ (r = true ↔ csz f g.Index = g.Ticks) := by
 obtain ⟨hr, ht⟩ := hs.odd g hg
 have hlc := h.lim hl hs
 have hsc := h.shape hs
 unfold canon_plain
 rw [gran_Get_eq hlc hsc (tick64 ht)]
 by_cases hf : fits c g.Index
 ·rw [if_pos ⟨ht, hf⟩]
  obtain ⟨r, h1, h2⟩ := spans_Same_eq (a := Go.Dn.setAt c g.Index) (b := g.Ticks) (setAt_len hlc hsc _)
  refine ⟨r, ?_, ?_⟩
  ·simp only [Option.bind_some]
   rw [beq_t rfl, cond_true, h1]; rfl
  ·rw [h2, h.setAt hs]
 ·rw [if_neg (fun h' => hf h'.2)]
  refine ⟨false, rfl, ⟨(fun h' => nomatch h'), fun e => absurd (fun s hs' => ?_) hf⟩⟩
  rw [h.setAt hs, e] at hs'
  obtain ⟨k, hk⟩ := List.getElem?_of_mem hs'
  have := rightL_iff.1 hr k s hk
  exact ⟨this.1, this.2.1⟩

open Classical in
noncomputable def oddly (f : Form) (g : Granule) : Bool := decide (¬ csz f g.Index = g.Ticks)

noncomputable def canonF (f c : Form) : Form := Form.mk c.Period c.Count c.Core (f.Odd.filter (oddly f))

theorem canon_Form_eq {f : Form} (hl : Lim f) (hs : Shape f) : ∃ c, CoreOf f c ∧ canon_Form f = some (canonF f c) := by
 obtain ⟨c, h1, hc⟩ := canon_core_ok hl hs
 refine ⟨c, hc, ?_⟩
 unfold canon_Form
 rw [h1]
 simp only [Option.bind_some]
 have hol : (f.Odd.length : Int) < 4611686018427387904 := len_lt (b := 31) hl.odd
 have hr := reach_eq
 have hro := room_eq
 have : loopO (canon_Form.s0 f c) (0, []) = some (f.Odd.filter (oddly f)) := by
  refine loopO_val (I := fun s r => r = f.Odd.filter (oddly f) ∧ ∃ k : Nat, k ≤ f.Odd.length ∧ s = ((k : Int), (f.Odd.take k).filter (oddly f))) (fun s => f.Odd.length - s.1.toNat) ?_ ⟨rfl, 0, Nat.zero_le _, rfl⟩
  rintro s r ⟨rfl, k, hk, rfl⟩
  unfold canon_Form.s0
  by_cases hlt : k < f.Odd.length
  ·left
   have hmem := List.getElem_mem hlt
   obtain ⟨r, p1, p2⟩ := canon_plain_eq hl hs hc hmem
   have htk : f.Odd.take (k + 1) = f.Odd.take k ++ [f.Odd[k]] := (List.take_append_getElem hlt).symm
   have hlen := (hl.ticks _ hmem).2.1
   unfold Len at hlen
   refine ⟨((k : Int) + 1, (f.Odd.take (k + 1)).filter (oddly f)), ?_, ⟨rfl, k + 1, hlt, by push_cast; rfl⟩, by simp; omega⟩
   rw [dec_t (show (k : Int) < f.Odd.length by omega), cond_true, at?_nat hlt]
   simp only [Option.bind_some, p1]
   rw [w64_id (show _ by omega), htk, List.filter_append]
   cases r with
   | true =>
    have : oddly f f.Odd[k] = false := by unfold oddly; rw [decide_eq_false_iff_not]; exact fun h => h (p2.1 rfl)
    simp only [Bool.not_true, cond_false, Option.bind_some, List.filter_cons, this, Bool.false_eq_true, if_false, List.filter_nil, List.append_nil]
   | false =>
    have : oddly f f.Odd[k] = true := by unfold oddly; rw [decide_eq_true_iff]; exact fun h => by have := p2.2 h; cases this
    have hcp : clone? 16 f.Odd[k].Ticks = some f.Odd[k].Ticks := by unfold clone?; rw [if_pos (by omega)]
    have hfl : ((f.Odd.take k).filter (oddly f)).length ≤ k := by
     have := List.length_filter_le (oddly f) (f.Odd.take k)
     simp only [List.length_take] at this
     omega
    have hap : app? 32 ((f.Odd.take k).filter (oddly f)) [Granule.mk f.Odd[k].Index f.Odd[k].Ticks] = some ((f.Odd.take k).filter (oddly f) ++ [f.Odd[k]]) := by
     rw [app?_ok (by simp only [List.length_cons, List.length_nil]; have h3 := hl.odd; have := Nat.mul_le_mul_right 32 (show ((f.Odd.take k).filter (oddly f)).length + 1 ≤ f.Odd.length by omega); omega)]
    simp only [Bool.not_false, cond_true, Option.bind_some, hcp, hap, List.filter_cons, this, if_true, List.filter_nil]
  ·right
   have : k = f.Odd.length := by omega
   subst this
   rw [dec_f (show ¬ ((f.Odd.length : Int) < f.Odd.length) by omega), cond_false, List.take_length]
 rw [this]
 rfl

end Go.Dn

namespace Go.Dn
open Go

theorem ext_of {α : Type} {a b : List α} (hl : a.length = b.length) (h : ∀ (k : Nat) x y, a[k]? = some x → b[k]? = some y → x = y) : a = b := by
 apply List.ext_getElem hl
 intro k h1 h2
 exact h k _ _ (List.getElem?_eq_getElem h1) (List.getElem?_eq_getElem h2)

theorem sameSets_eq {x y : List (List Span)} (hc : x.length * 24 ≤ reachBytes) (hs : ∀ l ∈ x, Len l) : ∃ r, slices_EqualFunc_SSSpan_SSSpan_SSpan_SSpan x y (fun z0 z1 => spans_Same z0 z1) = some r ∧ (r = true ↔ x = y) := by
 have hl : (x.length : Int) < 4611686018427387904 := len_lt (b := 23) hc
 unfold slices_EqualFunc_SSSpan_SSSpan_SSpan_SSpan
 by_cases hlen : x.length = y.length
 ·rw [bne_f (by omega), cond_false]
  rcases eqf_loop (a := x) (b := y) (step := slices_EqualFunc_SSSpan_SSSpan_SSpan_SSpan.s0 x y (fun z0 z1 => spans_Same z0 z1)) (eq := fun z0 z1 => spans_Same z0 z1) (fun p q => p = q) (by omega) hlen (fun k p q hp hq => spans_Same_eq (hs p (List.mem_of_getElem? hp))) (fun s => rfl) with ⟨h1, h2⟩ | ⟨h1, h2⟩
  ·rw [h1]; exact ⟨true, rfl, ⟨fun _ => ext_of hlen h2, fun _ => rfl⟩⟩
  ·rw [h1]; exact ⟨false, rfl, ⟨(fun h => nomatch h), fun e => absurd (fun k p q hp hq => by rw [e, hq] at hp; exact (Option.some.inj hp).symm) h2⟩⟩
 ·rw [bne_t (by omega), cond_true]
  exact ⟨false, rfl, ⟨(fun h => nomatch h), fun e => absurd (congrArg List.length e) hlen⟩⟩

theorem granule_ext {x y : Granule} : x = y ↔ x.Index = y.Index ∧ x.Ticks = y.Ticks := by
 obtain ⟨a, b⟩ := x
 obtain ⟨c, d⟩ := y
 simp

theorem canon_equal_1_eq {x y : Granule} (h : Len x.Ticks) : ∃ r, canon_equal_1 x y = some r ∧ (r = true ↔ x = y) := by
 unfold canon_equal_1
 rw [granule_ext]
 by_cases hi : x.Index = y.Index
 ·rw [beq_t hi, cond_true]
  obtain ⟨r, h1, h2⟩ := spans_Same_eq (b := y.Ticks) h
  rw [h1]
  exact ⟨r, rfl, by rw [h2]; exact ⟨fun e => ⟨hi, e⟩, fun e => e.2⟩⟩
 ·rw [beq_f hi, cond_false]
  exact ⟨false, rfl, ⟨(fun h => nomatch h), fun e => absurd e.1 hi⟩⟩

theorem sameOdd_eq {x y : List Granule} (hc : x.length * 32 ≤ reachBytes) (hs : ∀ g ∈ x, Len g.Ticks) : ∃ r, slices_EqualFunc_SGranule_SGranule_Granule_Granule x y (fun z0 z1 => canon_equal_1 z0 z1) = some r ∧ (r = true ↔ x = y) := by
 have hl : (x.length : Int) < 4611686018427387904 := len_lt (b := 31) hc
 unfold slices_EqualFunc_SGranule_SGranule_Granule_Granule
 by_cases hlen : x.length = y.length
 ·rw [bne_f (by omega), cond_false]
  rcases eqf_loop (a := x) (b := y) (step := slices_EqualFunc_SGranule_SGranule_Granule_Granule.s0 x y (fun z0 z1 => canon_equal_1 z0 z1)) (eq := fun z0 z1 => canon_equal_1 z0 z1) (fun p q => p = q) (by omega) hlen (fun k p q hp hq => canon_equal_1_eq (hs p (List.mem_of_getElem? hp))) (fun s => rfl) with ⟨h1, h2⟩ | ⟨h1, h2⟩
  ·rw [h1]; exact ⟨true, rfl, ⟨fun _ => ext_of hlen h2, fun _ => rfl⟩⟩
  ·rw [h1]; exact ⟨false, rfl, ⟨(fun h => nomatch h), fun e => absurd (fun k p q hp hq => by rw [e, hq] at hp; exact (Option.some.inj hp).symm) h2⟩⟩
 ·rw [bne_t (by omega), cond_true]
  exact ⟨false, rfl, ⟨(fun h => nomatch h), fun e => absurd (congrArg List.length e) hlen⟩⟩

theorem form_ext {a b : Form} : a = b ↔ a.Period = b.Period ∧ a.Count = b.Count ∧ a.Core = b.Core ∧ a.Odd = b.Odd := by
 obtain ⟨a1, a2, a3, a4⟩ := a
 obtain ⟨b1, b2, b3, b4⟩ := b
 simp

theorem canon_equal_eq {a b : Form} (hl : Lim a) : ∃ r, canon_equal a b = some r ∧ (r = true ↔ a = b) := by
 unfold canon_equal
 rw [form_ext]
 by_cases hp : a.Period = b.Period ∧ a.Count = b.Count
 ·rw [beq_t hp.1, beq_t hp.2]
  simp only [Bool.and_self, cond_true]
  obtain ⟨r, h1, h2⟩ := sameSets_eq (y := b.Core) hl.core (fun l h => (hl.sets l h).1)
  rw [h1]
  simp only [Option.bind_some]
  cases r with
  | true =>
   obtain ⟨r', h3, h4⟩ := sameOdd_eq (y := b.Odd) hl.odd (fun g h => (hl.ticks g h).2.1)
   rw [cond_true, h3]
   exact ⟨r', rfl, by rw [h4]; exact ⟨fun e => ⟨hp.1, hp.2, h2.1 rfl, e⟩, fun e => e.2.2.2⟩⟩
  | false =>
   exact ⟨false, rfl, ⟨(fun h => nomatch h), fun e => by have := h2.2 e.2.2.1; cases this⟩⟩
 ·have : ((a.Period == b.Period) && (a.Count == b.Count)) = false := by
   rw [Bool.and_eq_false_iff]
   by_cases h : a.Period = b.Period
   ·exact .inr (beq_f fun h' => hp ⟨h, h'⟩)
   ·exact .inl (beq_f h)
  rw [this]
  exact ⟨false, rfl, ⟨(fun h => nomatch h), fun e => absurd ⟨e.1, e.2.1⟩ hp⟩⟩

theorem alike_eq {a b : List Span} (ha : Len a) : ∃ r, epactlow_Alike a b = some r ∧ (r = true ↔ a = b) := by
 have hl : (a.length : Int) < 9223372036854775807 := by have := reach_eq; unfold Len at ha; omega
 unfold epactlow_Alike
 by_cases hlen : a.length = b.length
 ·rw [bne_f (by omega), cond_false]
  rcases eqf_loop (a := a) (b := b) (step := epactlow_Alike.s0 a b) (eq := fun x y => some (decide (y = x))) (fun p q => p = q) hl hlen (fun k p q hp hq => ⟨_, rfl, by rw [decide_eq_true_iff]; exact ⟨Eq.symm, Eq.symm⟩⟩) (fun s => by
   unfold epactlow_Alike.s0
   simp only [span_beq]
   rfl) with ⟨h1, h2⟩ | ⟨h1, h2⟩
  ·rw [h1]; exact ⟨true, rfl, ⟨fun _ => ext_of hlen h2, fun _ => rfl⟩⟩
  ·rw [h1]; exact ⟨false, rfl, ⟨(fun h => nomatch h), fun e => absurd (fun k p q hp hq => by rw [e, hq] at hp; exact (Option.some.inj hp).symm) h2⟩⟩
 ·rw [bne_t (by omega), cond_true]
  exact ⟨false, rfl, ⟨(fun h => nomatch h), fun e => absurd (congrArg List.length e) hlen⟩⟩

theorem alikeForms_eq {a b : Form} (hl : Lim a) : ∃ r, epactlow_AlikeForms a b = some r ∧ (r = true ↔ a = b) := by
 have hc : (a.Core.length : Int) < 4611686018427387904 := len_lt (b := 23) hl.core
 have ho : (a.Odd.length : Int) < 4611686018427387904 := len_lt (b := 31) hl.odd
 unfold epactlow_AlikeForms
 rw [form_ext]
 by_cases hp : a.Period = b.Period ∧ a.Count = b.Count ∧ a.Core.length = b.Core.length ∧ a.Odd.length = b.Odd.length
 ·obtain ⟨p1, p2, p3, p4⟩ := hp
  rw [bne_f p1, bne_f p2, bne_f (show (a.Core.length : Int) = b.Core.length by omega), bne_f (show (a.Odd.length : Int) = b.Odd.length by omega)]
  simp only [Bool.or_self, cond_false]
  rcases eqf_loop (a := a.Core) (b := b.Core) (step := epactlow_AlikeForms.s0 a b) (eq := epactlow_Alike) (fun p q => p = q) (by omega) p3 (fun k p q hp hq => alike_eq (hl.sets p (List.mem_of_getElem? hp)).1) (fun s => rfl) with ⟨h1, h2⟩ | ⟨h1, h2⟩
  ·rw [h1]
   simp only [Option.bind_some, Jx.elim]
   have ec := ext_of p3 h2
   rcases eqf_loop (a := a.Odd) (b := b.Odd) (step := epactlow_AlikeForms.s1 a b) (eq := fun x y => bif x.Index != y.Index then some false else epactlow_Alike x.Ticks y.Ticks) (fun p q => p = q) (by omega) p4 (fun k p q hp hq => by
    rw [granule_ext]
    by_cases hi : p.Index = q.Index
    ·rw [bne_f hi, cond_false]
     obtain ⟨r, q1, q2⟩ := alike_eq (b := q.Ticks) (hl.ticks p (List.mem_of_getElem? hp)).2.1
     exact ⟨r, q1, by rw [q2]; exact ⟨fun e => ⟨hi, e⟩, fun e => e.2⟩⟩
    ·rw [bne_t hi, cond_true]
     exact ⟨false, rfl, ⟨(fun h => nomatch h), fun e => absurd e.1 hi⟩⟩) (fun s => by
    unfold epactlow_AlikeForms.s1
    rcases e1 : at? a.Odd s with _ | x
    ·rfl
    rcases e2 : at? b.Odd s with _ | y
    ·rfl
    simp only [Option.bind_some]
    cases x.Index != y.Index with
    | true => rfl
    | false =>
     simp only [cond_false]
     rcases epactlow_Alike x.Ticks y.Ticks with _ | r
     ·rfl
     ·rfl) with ⟨h3, h4⟩ | ⟨h3, h4⟩
   ·rw [h3]; exact ⟨true, rfl, ⟨fun _ => ⟨p1, p2, ec, ext_of p4 h4⟩, fun _ => rfl⟩⟩
   ·rw [h3]; exact ⟨false, rfl, ⟨(fun h => nomatch h), fun e => absurd (fun k p q hp hq => by rw [e.2.2.2, hq] at hp; exact (Option.some.inj hp).symm) h4⟩⟩
  ·rw [h1]; exact ⟨false, rfl, ⟨(fun h => nomatch h), fun e => absurd (fun k p q hp hq => by rw [e.2.2.1, hq] at hp; exact (Option.some.inj hp).symm) h2⟩⟩
 ·refine ⟨false, ?_, ⟨(fun h => nomatch h), fun e => absurd ⟨e.1, e.2.1, by rw [e.2.2.1], by rw [e.2.2.2]⟩ hp⟩⟩
  have : ((((a.Period != b.Period) || (a.Count != b.Count)) || ((a.Core.length : Int) != (b.Core.length : Int))) || ((a.Odd.length : Int) != (b.Odd.length : Int))) = true := by
   simp only [Bool.or_eq_true, bne_iff_ne, ne_eq]
   apply Classical.byContradiction
   intro hn
   apply hp
   refine ⟨?_, ?_, ?_, ?_⟩ <;> apply Classical.byContradiction <;> intro h <;> apply hn
   ·exact .inl (.inl (.inl h))
   ·exact .inl (.inl (.inr h))
   ·exact .inl (.inr (by omega))
   ·exact .inr (by omega)
  rw [this]; rfl

end Go.Dn

namespace Go.Dn
open Go

theorem inc_pairwise {l : List Granule} : Inc l ↔ l.Pairwise (fun a b => a.Index < b.Index) := by
 rw [List.pairwise_iff_getElem]
 constructor
 ·intro h i j hi hj hij
  exact h i j _ _ hij (List.getElem?_eq_getElem hi) (List.getElem?_eq_getElem hj)
 ·intro h j k a b hjk ha hb
  obtain ⟨h1, rfl⟩ := List.getElem?_eq_some_iff.1 ha
  obtain ⟨h2, rfl⟩ := List.getElem?_eq_some_iff.1 hb
  exact h j k h1 h2 hjk

theorem Inc.filter {l : List Granule} (h : Inc l) (p : Granule → Bool) : Inc (l.filter p) := inc_pairwise.2 ((inc_pairwise.1 h).filter p)

theorem canonF_mem {f c : Form} {g : Granule} : g ∈ (canonF f c).Odd ↔ g ∈ f.Odd ∧ oddly f g = true := List.mem_filter

theorem canonF_lim {f c : Form} (hl : Lim f) (hs : Shape f) (h : CoreOf f c) : Lim (canonF f c) := by
 have := h.lim hl hs
 refine ⟨this.core, this.sets, ?_, fun g hg => hl.ticks g (canonF_mem.1 hg).1, this.count, this.period⟩
 have h1 : (canonF f c).Odd.length ≤ f.Odd.length := List.length_filter_le _ _
 have := hl.odd
 have := Nat.mul_le_mul_right 32 h1
 omega

end Go.Dn

namespace Go.Dn
open Go

theorem epactlaw06_right_eq {f : Form} (hl : Lim f) : ∃ b, epactlaw06_right f = some b ∧ (b = true ↔ SmallF f ∧ RightF f) := by
 unfold epactlaw06_right
 obtain ⟨b, hb, hbs⟩ := epactlaw05_Small_eq hl
 rw [hb]
 simp only [Option.bind_some]
 cases b with
 | false => exact ⟨false, rfl, fun h => (by cases h), fun h => by have := hbs.2 h.1; cases this⟩
 | true =>
  have hsm := hbs.1 rfl
  have hnl : ¬ LongF f := by unfold LongF; have := hsm.1; have := hsm.2.1; have := hsm.2.2; omega
  rw [cond_true]
  rcases gran_Right_eq hl with ⟨h, _⟩ | ⟨_, h1, h2⟩ | ⟨_, h1, h2⟩
  ·exact absurd h hnl
  ·rw [h2]; exact ⟨true, rfl, fun _ => ⟨hsm, h1⟩, fun _ => rfl⟩
  ·rw [h2]; exact ⟨false, rfl, fun h => (by cases h), fun h => absurd h.2 h1⟩

end Go.Dn

namespace Go.Dn
open Go

theorem shift_ne {l : List Span} (hn : l ≠ []) {a b : Int} (h : l.map (shiftS a) = l.map (shiftS b)) : a = b := by
 cases l with
 | nil => exact absurd rfl hn
 | cons s l =>
  simp only [List.map_cons, List.cons.injEq, shiftS, Span.mk.injEq] at h
  omega

theorem Turn.uniq {h : Int → List Span} {d q q' : Int} (t : Turn h d q) (t' : Turn h d q') {i : Int} (hn : h i ≠ []) : q = q' := shift_ne hn ((t i).symm.trans (t' i))

theorem core_turn_self {f : Form} (h0 : 0 < f.Count) : Turn (cs f) f.Count f.Period := cs_period (by omega)

theorem cs_some {f : Form} (hs : Shape f) (hb : ¬ Bare f) (h0 : 0 < f.Count) (a : Int) : ∃ i, a ≤ i ∧ i < a + f.Count ∧ cs f i ≠ [] := by
 apply Classical.byContradiction
 intro hn
 apply hb
 have hz : cs f = fun _ => [] := Turn.agree (a := a) (core_turn_self h0) (fun i => rfl) h0 (fun i i0 i1 => Classical.byContradiction fun h => hn ⟨i, i0, i1, h⟩)
 intro l hl
 obtain ⟨k, hk⟩ := List.getElem?_of_mem hl
 have hkl := (List.getElem?_eq_some_iff.1 hk).1
 have hcnt := hs.count
 have := congrFun hz (k : Int)
 rw [cs_small (by omega) (by omega), List.getD_eq_getElem?_getD, Int.toNat_natCast, hk] at this
 exact this

theorem good_of_turn {f : Form} (hs : Shape f) (hb : ¬ Bare f) (h0 : 0 < f.Count) {d q : Int} (hd : 1 ≤ d) (hdn : d ∣ f.Count) (t : Turn (cs f) d q) : Good f d ∧ f.Period / (f.Count / d) = q := by
 obtain ⟨i, _, _, hi⟩ := cs_some hs hb h0 0
 obtain ⟨m, hm⟩ := hdn
 have hmp : 0 < m := by
  rcases Int.lt_or_le 0 m with h | h
  ·exact h
  ·have : d * m ≤ 0 := Int.mul_nonpos_of_nonneg_of_nonpos (by omega) h
   omega
 have e1 : f.Count / d = m := by rw [hm, Int.mul_ediv_cancel_left _ (by omega)]
 have e2 : f.Period = m * q := by
  have t1 := t.mul m
  have t2 := core_turn_self h0
  rw [hm, Int.mul_comm d m] at t2
  exact t2.uniq t1 hi
 have e3 : f.Period / m = q := by rw [e2, Int.mul_ediv_cancel_left _ (by omega)]
 exact ⟨⟨hd, ⟨m, hm⟩, by rw [e1, e2]; exact Int.mul_emod_right _ _, by rw [e1, e3]; exact t⟩, by rw [e1, e3]⟩

theorem least_turn {h : Int → List Span} {n p : Int} (hn : 0 < n) (t : Turn h n p) : ∃ d q, 1 ≤ d ∧ Turn h d q ∧ ∀ d' q', Turn h d' q' → d ∣ d' := by
 have : ∃ m : Nat, 1 ≤ m ∧ ∃ q, Turn h m q := ⟨n.toNat, by omega, p, by rw [Int.toNat_of_nonneg (by omega)]; exact t⟩
 obtain ⟨m, hm⟩ := this
 induction m using Nat.strongRecOn with
 | _ m ih =>
  by_cases hex : ∃ m' : Nat, m' < m ∧ 1 ≤ m' ∧ ∃ q, Turn h m' q
  ·obtain ⟨m', h1, h2⟩ := hex
   exact ih m' h1 h2
  ·obtain ⟨h1, q, hq⟩ := hm
   refine ⟨m, q, by omega, hq, fun d' q' t' => ?_⟩
   apply Classical.byContradiction
   intro hnd
   have r0 := Int.emod_nonneg d' (show (m : Int) ≠ 0 by omega)
   have r1 := Int.emod_lt_of_pos d' (show (0 : Int) < m by omega)
   have hr : d' % m ≠ 0 := fun e => hnd (Int.dvd_of_emod_eq_zero e)
   have tt := t'.add ((hq.mul (d' / m)).neg)
   have e : d' + -(d' / m * m) = d' % m := by
    have := Int.emod_add_mul_ediv d' m
    rw [Int.mul_comm] at this
    omega
   rw [e] at tt
   exact hex ⟨(d' % m).toNat, by omega, by omega, _, by rw [Int.toNat_of_nonneg r0]; exact tt⟩

theorem least_is {f : Form} (hs : Shape f) (hb : ¬ Bare f) (h0 : 0 < f.Count) {d : Int} (hg : Good f d) (hmin : ∀ d', Good f d' → d ≤ d') {t q : Int} (ht : 1 ≤ t) (tt : Turn (cs f) t q) (hall : ∀ d' q', Turn (cs f) d' q' → t ∣ d') : d = t ∧ f.Period / (f.Count / d) = q := by
 have h1 := hall _ _ (core_turn_self h0)
 obtain ⟨g1, g2⟩ := good_of_turn hs hb h0 ht h1 tt
 have h2 := hmin t g1
 have h3 := Int.le_of_dvd hg.pos (hall _ _ hg.turn)
 have : d = t := by omega
 subst this
 exact ⟨rfl, g2⟩

theorem coreOf_eq {f g c c' : Form} (hf : Shape f) (hg : Shape g) (h : csz f = csz g) (hbb : Bare f ↔ Bare g) (hc : CoreOf f c) (hc' : CoreOf g c') : c = c' := by
 rcases hc with ⟨b1, rfl⟩ | ⟨b1, z1, d1, g1, m1, rfl⟩ <;> rcases hc' with ⟨b2, rfl⟩ | ⟨b2, z2, d2, g2, m2, rfl⟩
 ·rfl
 ·exact absurd (hbb.1 b1) b2
 ·exact absurd (hbb.2 b2) b1
 ·rw [csz_pos z1, csz_pos z2] at h
  obtain ⟨t, q, t1, t2, t3⟩ := least_turn z1 (core_turn_self z1)
  obtain ⟨e1, e2⟩ := least_is hf b1 z1 g1 m1 t1 t2 t3
  rw [h] at t2 t3
  obtain ⟨e3, e4⟩ := least_is hg b2 z2 g2 m2 t1 t2 t3
  have : d1 = d2 := by omega
  subst this
  have l1 : d1 ≤ f.Count := Int.le_of_dvd z1 g1.dvd
  have l2 : d1 ≤ g.Count := Int.le_of_dvd z2 g2.dvd
  have c1 := hf.count
  have c2 := hg.count
  have p1 := g1.pos
  rw [form_ext]
  refine ⟨by rw [e2, e4], rfl, ?_, rfl⟩
  apply List.ext_getElem?
  intro k
  show (f.Core.take d1.toNat)[k]? = (g.Core.take d1.toNat)[k]?
  by_cases hk : k < d1.toNat
  ·rw [List.getElem?_take_of_lt hk, List.getElem?_take_of_lt hk]
   have := congrFun h (k : Int)
   rw [cs_small (by omega) (by omega), cs_small (by omega) (by omega), List.getD_eq_getElem?_getD, List.getD_eq_getElem?_getD, Int.toNat_natCast] at this
   rw [List.getElem?_eq_getElem (show k < f.Core.length by omega), List.getElem?_eq_getElem (show k < g.Core.length by omega)] at this ⊢
   exact congrArg some this
  ·rw [List.getElem?_eq_none (by rw [List.length_take]; omega), List.getElem?_eq_none (by rw [List.length_take]; omega)]

def NearF (f : Form) (m : Int) : Prop := ∀ g ∈ f.Odd, -m ≤ g.Index ∧ g.Index ≤ m

end Go.Dn

namespace Go.Dn
open Go

end Go.Dn

namespace Go.Dn
open Go

theorem anew_eq {l : List Span} (hl : Len l) : epactlow_Anew l = some l := by
 unfold epactlow_Anew new?
 have hr := reach_eq
 have hro := room_eq
 unfold Len at hl
 rw [if_pos ⟨by omega, by omega⟩]
 simp only [Option.bind_some, Option.some.injEq]
 unfold cpy
 simp

theorem anewForm_eq {f : Form} (hl : Lim f) : epactlow_AnewForm f = some f := by
 have hr := reach_eq
 have hro := room_eq
 have hcl : (f.Core.length : Int) < 4611686018427387904 := len_lt (b := 23) hl.core
 have hol : (f.Odd.length : Int) < 4611686018427387904 := len_lt (b := 31) hl.odd
 have h1 : loopO (epactlow_AnewForm.s0 f) (0, []) = some f.Core := by
  refine loopO_val (I := fun s r => r = f.Core ∧ ∃ k : Nat, k ≤ f.Core.length ∧ s = ((k : Int), f.Core.take k)) (fun s => f.Core.length - s.1.toNat) ?_ ⟨rfl, 0, Nat.zero_le _, rfl⟩
  rintro s r ⟨rfl, k, hk, rfl⟩
  unfold epactlow_AnewForm.s0
  by_cases hlt : k < f.Core.length
  ·left
   have htk : f.Core.take (k + 1) = f.Core.take k ++ [f.Core[k]] := (List.take_append_getElem hlt).symm
   refine ⟨((k : Int) + 1, f.Core.take (k + 1)), ?_, ⟨rfl, k + 1, hlt, by push_cast; rfl⟩, by simp; omega⟩
   have hc := hl.core
   rw [dec_t (show (k : Int) < f.Core.length by omega), cond_true, at?_nat hlt]
   simp only [Option.bind_some, anew_eq (hl.sets _ (List.getElem_mem hlt)).1]
   rw [app?_ok (by simp only [List.length_take, List.length_cons, List.length_nil]; omega), w64_id (show _ by omega), htk]
   rfl
  ·right
   have : k = f.Core.length := by omega
   subst this
   rw [dec_f (by omega), cond_false, List.take_length]
 have h2 : loopO (epactlow_AnewForm.s1 f) (0, []) = some f.Odd := by
  refine loopO_val (I := fun s r => r = f.Odd ∧ ∃ k : Nat, k ≤ f.Odd.length ∧ s = ((k : Int), f.Odd.take k)) (fun s => f.Odd.length - s.1.toNat) ?_ ⟨rfl, 0, Nat.zero_le _, rfl⟩
  rintro s r ⟨rfl, k, hk, rfl⟩
  unfold epactlow_AnewForm.s1
  by_cases hlt : k < f.Odd.length
  ·left
   have htk : f.Odd.take (k + 1) = f.Odd.take k ++ [f.Odd[k]] := (List.take_append_getElem hlt).symm
   refine ⟨((k : Int) + 1, f.Odd.take (k + 1)), ?_, ⟨rfl, k + 1, hlt, by push_cast; rfl⟩, by simp; omega⟩
   have hc := hl.odd
   rw [dec_t (show (k : Int) < f.Odd.length by omega), cond_true, at?_nat hlt]
   simp only [Option.bind_some, anew_eq (hl.ticks _ (List.getElem_mem hlt)).2.1]
   rw [app?_ok (by simp only [List.length_take, List.length_cons, List.length_nil]; omega), w64_id (show _ by omega), htk]
   rfl
  ·right
   have : k = f.Odd.length := by omega
   subst this
   rw [dec_f (by omega), cond_false, List.take_length]
 unfold epactlow_AnewForm
 rw [h1, h2]
 rfl

end Go.Dn

namespace Go.Dn
open Go

def Mid (x : Int) : Prop := -1000000000000000000 ≤ x ∧ x ≤ 1000000000000000000

end Go.Dn

namespace Go.Dn
open Go

end Go.Dn

namespace Go.Dn
open Go

def repC (f : Form) : Nat → List (List Span)
 | 0 => []
 | k + 1 => repC f k ++ f.Core.map (fun l => l.map (shiftS (k * f.Period)))
theorem repC_len (f : Form) (n : Nat) : (repC f n).length = n * f.Core.length := by
 induction n with
 | zero => simp [repC]
 | succ n ih => simp [repC, ih, Nat.succ_mul]
theorem repC_one (f : Form) : repC f 1 = f.Core := by
 simp only [repC, List.nil_append]
 have : (fun l : List Span => l.map (shiftS (((0 : Nat) : Int) * f.Period))) = id := by
  funext l; simp only [Int.natCast_zero, Int.zero_mul, id]; exact shift0 l
 rw [this, List.map_id]
theorem repC_mem {f : Form} {n : Nat} {l : List Span} : l ∈ repC f n ↔ ∃ k, k < n ∧ ∃ m ∈ f.Core, l = m.map (shiftS ((k : Nat) * f.Period)) := by
 induction n with
 | zero => simp [repC]
 | succ n ih =>
  simp only [repC, List.mem_append, ih, List.mem_map]
  constructor
  ·rintro (⟨k, hk, m, hm, rfl⟩ | ⟨m, hm, rfl⟩)
   ·exact ⟨k, by omega, m, hm, rfl⟩
   ·exact ⟨n, by omega, m, hm, rfl⟩
  ·rintro ⟨k, hk, m, hm, rfl⟩
   by_cases h : k < n
   ·exact .inl ⟨k, h, m, hm, rfl⟩
   ·obtain rfl : k = n := by omega
    exact .inr ⟨m, hm, rfl⟩
theorem repC_get {f : Form} {n k j : Nat} (hk : k < n) (hj : j < f.Core.length) : (repC f n).getD (k * f.Core.length + j) [] = (f.Core.getD j []).map (shiftS ((k : Nat) * f.Period)) := by
 induction n with
 | zero => omega
 | succ n ih =>
  simp only [repC]
  by_cases h : k < n
  ·rw [← ih h]
   have : k * f.Core.length + j < n * f.Core.length := by
    have : (k + 1) * f.Core.length ≤ n * f.Core.length := Nat.mul_le_mul_right _ (by omega)
    rw [Nat.add_mul, Nat.one_mul] at this
    omega
   simp only [List.getD_eq_getElem?_getD]
   rw [List.getElem?_append_left (by rw [repC_len]; exact this)]
  ·obtain rfl : k = n := by omega
   simp only [List.getD_eq_getElem?_getD]
   rw [List.getElem?_append_right (by rw [repC_len]; omega), repC_len, Nat.add_sub_cancel_left, List.getElem?_map, List.getElem?_eq_getElem hj]
   rfl

def FitK (f : Form) (k : Nat) : Prop := ∀ l ∈ f.Core, ∀ s ∈ l, tickP (s.From + k * f.Period) ∧ tickP (s.To + k * f.Period)

theorem twice_inner {f : Form} (hl : Lim f) (hs : Shape f) (hc : f.Core.length ≤ 12) {k : Nat} (hk : k < 6) (hp : f.Period ≤ 1073741824) {acc : List (List Span)} (ha : acc.length ≤ 72) :
  ∃ r, loopO (epactlaw06_twice.s1 f ((k : Int), acc)) (0, acc) = some r ∧ (r = .ret (f, false) ∨ (FitK f k ∧ r = .go (acc ++ f.Core.map (fun l => l.map (shiftS ((k : Nat) * f.Period)))))) := by
 have hper := hs.per
 have hkp : 0 ≤ (k : Int) * f.Period ∧ (k : Int) * f.Period ≤ 6442450944 := by
  refine ⟨Int.mul_nonneg (by omega) hper.1, ?_⟩
  have := Int.mul_le_mul (a := (k : Int)) (b := f.Period) (c := 6) (d := 1073741824) (by omega) hp hper.1 (by omega)
  omega
 have hr := room_eq
 obtain ⟨r, h1, h2⟩ := loopO_inv (step := epactlaw06_twice.s1 f ((k : Int), acc))
  (fun s => ∃ j : Nat, j ≤ f.Core.length ∧ s = ((j : Int), acc ++ (f.Core.take j).map (fun l => l.map (shiftS ((k : Nat) * f.Period)))) ∧ ∀ l ∈ f.Core.take j, ∀ s ∈ l, tickP (s.From + k * f.Period) ∧ tickP (s.To + k * f.Period))
  (fun s => f.Core.length - s.1.toNat)
  (fun r => r = .ret (f, false) ∨ (FitK f k ∧ r = .go (acc ++ f.Core.map (fun l => l.map (shiftS ((k : Nat) * f.Period)))))) (by
   rintro s ⟨j, hj, rfl, hf⟩
   unfold epactlaw06_twice.s1
   by_cases hlt : j < f.Core.length
   ·rw [dec_t (show (j : Int) < f.Core.length by omega), cond_true]
    simp only
    rw [at?_nat hlt]
    simp only [Option.bind_some]
    rw [w64_id (x := (k : Int) * f.Period) (by omega)]
    have hm := List.getElem_mem hlt
    rcases spans_Move_eq (hl.sets _ hm).1 (hl.sets _ hm).2 (b := (k : Int) * f.Period) (by unfold In64; omega) with ⟨q1, q2⟩ | ⟨q1, q2⟩
    ·left
     rw [q2]
     simp only [Option.bind_some, bne_self_eq_false, cond_false]
     rw [app?_ok (by simp only [List.length_append, List.length_map, List.length_take, List.length_cons, List.length_nil]; omega)]
     simp only [Option.bind_some]
     rw [w64_id (by omega)]
     have htk : f.Core.take (j + 1) = f.Core.take j ++ [f.Core[j]] := (List.take_append_getElem hlt).symm
     refine ⟨_, rfl, ⟨j + 1, hlt, ?_, ?_⟩, ?_⟩
     ·rw [htk, List.map_append, ← List.append_assoc]; push_cast; rfl
     ·rw [htk]
      intro l hl'
      rcases List.mem_append.1 hl' with h | h
      ·exact hf l h
      ·rw [List.mem_singleton] at h; subst h; exact q1
     ·simp only; omega
    ·right
     rw [q2]
     exact ⟨_, rfl, .inl rfl⟩
   ·right
    obtain rfl : j = f.Core.length := by omega
    rw [dec_f (by simp only; omega), cond_false]
    rw [List.take_length] at hf ⊢
    exact ⟨_, rfl, .inr ⟨hf, rfl⟩⟩) (0, acc) ⟨0, Nat.zero_le _, by simp, by simp⟩
 exact ⟨r, h1, h2⟩

theorem twice_eq {f : Form} (hl : Lim f) (hs : Shape f) (hc : f.Core.length ≤ 12) (hp : f.Period ≤ 1073741824) {n : Nat} (h1 : 1 ≤ n) (hn : n ≤ 6) :
  ∃ r, epactlaw06_twice f n = some r ∧ (r = (f, false) ∨ ((∀ k, k < n → FitK f k) ∧ r = (Form.mk (f.Period * n) (f.Count * n) (repC f n) f.Odd, true))) := by
 have hper := hs.per
 have hcnt := hs.count
 have hr := room_eq
 unfold epactlaw06_twice
 rw [anewForm_eq hl]
 simp only [Option.bind_some]
 have f0 : FitK f 0 := fun l hm s hsm => by
  obtain ⟨i, hi⟩ := List.getElem?_of_mem hsm
  have := (hs.core l hm).ok i s hi
  simp only [Int.natCast_zero, Int.zero_mul, Int.add_zero]
  exact ⟨this.1, this.2.1⟩
 obtain ⟨r, q1, q2⟩ := loopO_inv (step := epactlaw06_twice.s0 f n)
  (fun s => ∃ k : Nat, 1 ≤ k ∧ k ≤ n ∧ s = ((k : Int), repC f k) ∧ ∀ i, i < k → FitK f i)
  (fun s => n - s.1.toNat)
  (fun r => r = .ret (f, false) ∨ ((∀ k, k < n → FitK f k) ∧ r = .go (repC f n))) (by
   rintro s ⟨k, hk1, hk, rfl, hf⟩
   unfold epactlaw06_twice.s0
   by_cases hlt : k < n
   ·rw [dec_t (show (k : Int) < n by omega), cond_true]
    have hb : (repC f k).length ≤ 72 := by
     rw [repC_len]
     exact Nat.le_trans (Nat.mul_le_mul (show k ≤ 6 by omega) hc) (by decide)
    obtain ⟨r, e1, e2⟩ := twice_inner hl hs hc (k := k) (by omega) hp hb
    simp only
    rw [e1]
    rcases e2 with rfl | ⟨fk, rfl⟩
    ·right; exact ⟨_, rfl, .inl rfl⟩
    ·left
     simp only [Option.bind_some, Jx.elim]
     rw [w64_id (by omega)]
     refine ⟨_, rfl, ⟨k + 1, by omega, hlt, ?_, ?_⟩, ?_⟩
     ·simp only [repC]; push_cast; rfl
     ·intro i hi
      by_cases h : i < k
      ·exact hf i h
      ·obtain rfl : i = k := by omega
       exact fk
     ·simp only; omega
   ·right
    obtain rfl : k = n := by omega
    rw [dec_f (by simp only; omega), cond_false]
    exact ⟨_, rfl, .inr ⟨hf, rfl⟩⟩) (1, f.Core) ⟨1, Nat.le_refl _, h1, by rw [repC_one]; rfl, fun i hi => by
     obtain rfl : i = 0 := by omega
     exact f0⟩
 rw [q1]
 simp only [Option.bind_some]
 rcases q2 with rfl | ⟨hf, rfl⟩
 ·exact ⟨_, rfl, .inl rfl⟩
 ·refine ⟨_, rfl, .inr ⟨hf, ?_⟩⟩
  have b1 : 0 ≤ f.Period * n ∧ f.Period * n ≤ 6442450944 := by
   refine ⟨Int.mul_nonneg hper.1 (by omega), ?_⟩
   have := Int.mul_le_mul (a := f.Period) (b := (n : Int)) (c := 1073741824) (d := 6) hp (by omega) (by omega) (by omega)
   omega
  have b2 : 0 ≤ f.Count * n ∧ f.Count * n ≤ 72 := by
   refine ⟨Int.mul_nonneg (by omega) (by omega), ?_⟩
   have := Int.mul_le_mul (a := f.Count) (b := (n : Int)) (c := 12) (d := 6) (by omega) (by omega) (by omega) (by omega)
   omega
  rw [w64_id (by omega), w64_id (by omega)]

theorem turned_csz {f : Form} (hs : Shape f) {n : Nat} (h1 : 1 ≤ n) (o : List Granule) : csz (Form.mk (f.Period * n) (f.Count * n) (repC f n) o) = csz f := by
 have hcnt := hs.count
 by_cases h0 : f.Count = 0
 ·funext i
  unfold csz
  rw [if_pos h0, if_pos (by simp [h0])]
 ·have hp : 0 < f.Count := by omega
  have hpn : 0 < f.Count * n := Int.mul_pos hp (by omega)
  rw [csz_pos hp, csz_pos (show 0 < (Form.mk (f.Period * n) (f.Count * n) (repC f n) o).Count from hpn)]
  have t1 : Turn (cs f) (f.Count * n) (f.Period * n) := by
   have := (core_turn_self hp).mul n
   rwa [Int.mul_comm, Int.mul_comm (n : Int) f.Period] at this
  have t2 := core_turn_self (show 0 < (Form.mk (f.Period * n) (f.Count * n) (repC f n) o).Count from hpn)
  refine t2.agree t1 hpn (a := 0) fun i hi hi2 => ?_
  have hi2 : i < f.Count * n := by simpa using hi2
  rw [cs_small hi (by simpa using hi2)]
  have e : i = i % f.Count + f.Count * (i / f.Count) := (Int.emod_add_mul_ediv i f.Count).symm
  have m0 := Int.emod_nonneg i (show f.Count ≠ 0 by omega)
  have m1 := Int.emod_lt_of_pos i hp
  have d0 : 0 ≤ i / f.Count := Int.ediv_nonneg hi (by omega)
  have d1 : i / f.Count < n := by
   apply Int.ediv_lt_of_lt_mul hp
   rw [Int.mul_comm]; exact hi2
  have r : cs f i = (cs f (i % f.Count)).map (shiftS (i / f.Count * f.Period)) := by
   conv => lhs; rw [e]
   exact cs_periods (by omega) _ _
  rw [r, cs_small m0 m1]
  have hj : (i % f.Count).toNat < f.Core.length := by omega
  have hk : (i / f.Count).toNat < n := by omega
  have hg := repC_get hk hj
  have hix : i.toNat = (i / f.Count).toNat * f.Core.length + (i % f.Count).toNat := by
   have : ((i / f.Count).toNat : Int) = i / f.Count := Int.toNat_of_nonneg d0
   have q : (((i / f.Count).toNat * f.Core.length + (i % f.Count).toNat : Nat) : Int) = i := by
    push_cast
    rw [this, ← hcnt, Int.toNat_of_nonneg m0, Int.mul_comm]
    omega
   omega
  show (repC f n).getD i.toNat [] = _
  rw [hix, hg, Int.toNat_of_nonneg d0]

theorem map_nil' {l : List Span} {d : Int} : l.map (shiftS d) = [] ↔ l = [] := List.map_eq_nil_iff
theorem turned_bare {f : Form} {n : Nat} (h1 : 1 ≤ n) (p c : Int) (o : List Granule) : Bare f ↔ Bare (Form.mk p c (repC f n) o) := by
 constructor
 ·intro hb l hl
  obtain ⟨k, hk, m, hm, rfl⟩ := repC_mem.1 hl
  rw [hb m hm]; rfl
 ·intro hb l hl
  have : l.map (shiftS ((0 : Nat) * f.Period)) ∈ repC f n := repC_mem.2 ⟨0, by omega, l, hl, rfl⟩
  exact map_nil'.1 (hb _ this)

theorem turns_loop {f : Form} (hl : Lim f) (hs : Shape f) (ho : f.Odd.length ≤ 8) {x2 : Form × Bool} (hx2 : x2.1.Odd = f.Odd) {at' : Int} (hat : In64 at') {x4 : List Span × Int} (h4 : x4.2 = 0 → x4.1 = setAt f at') :
  ∃ r, loopO (epactlaw06_CanonTurns.s0 at' x2 x4) ((x4.2 != 0), 0, []) = some r ∧ r.2.length ≤ 9 ∧ (∀ g ∈ r.2, g ∈ f.Odd ∨ g = ⟨at', x4.1⟩) ∧ r.2.filter (oddly f) = f.Odd.filter (oddly f) ∧ (r.1 = false → oddly f ⟨at', x4.1⟩ = false) := by
 have hr := room_eq
 have hnone : ∀ (_ : x4.2 = 0) (_ : ¬ isOdd f at'), oddly f ⟨at', x4.1⟩ = false := fun h0 hn => by
  unfold oddly
  apply dec_f
  simp only [Classical.not_not]
  rw [h4 h0, setAt_csz hn]
 obtain ⟨r, q1, q2⟩ := loopO_inv (step := epactlaw06_CanonTurns.s0 at' x2 x4)
  (fun s => ∃ (k : Nat) (p : Bool) (acc : List Granule), k ≤ f.Odd.length ∧ s = (p, (k : Int), acc) ∧ acc.length ≤ k + 1 ∧ (p = false → acc.length ≤ k) ∧ (∀ g ∈ acc, g ∈ f.Odd ∨ g = ⟨at', x4.1⟩) ∧ acc.filter (oddly f) = (f.Odd.take k).filter (oddly f) ∧ (p = false → x4.2 = 0 ∧ ∀ j g, j < k → f.Odd[j]? = some g → g.Index < at'))
  (fun s => f.Odd.length - s.2.1.toNat)
  (fun r => r.2.length ≤ 9 ∧ (∀ g ∈ r.2, g ∈ f.Odd ∨ g = ⟨at', x4.1⟩) ∧ r.2.filter (oddly f) = f.Odd.filter (oddly f) ∧ (r.1 = false → r.2.length ≤ 8 ∧ oddly f ⟨at', x4.1⟩ = false)) (by
   rintro s ⟨k, p, acc, hk, rfl, ha1, ha2, ham, haf, hp⟩
   unfold epactlaw06_CanonTurns.s0
   simp only [hx2]
   rw [w64_id (x := at') hat]
   by_cases hlt : k < f.Odd.length
   ·left
    rw [dec_t (show (k : Int) < f.Odd.length by omega), cond_true, at?_nat hlt]
    have hm := List.getElem_mem hlt
    have htk : f.Odd.take (k + 1) = f.Odd.take k ++ [f.Odd[k]] := (List.take_append_getElem hlt).symm
    have hget : f.Odd[k]? = some f.Odd[k] := List.getElem?_eq_getElem hlt
    simp only [Option.bind_some]
    by_cases he : f.Odd[k].Index = at'
    ·rw [beq_t he]
     simp only [cond_true, Option.bind_some, Bool.not_true, Bool.false_and, cond_false]
     rw [app?_ok (by simp only [List.length_cons, List.length_nil]; omega)]
     simp only [Option.bind_some]
     rw [w64_id (by omega)]
     refine ⟨_, rfl, ⟨k + 1, true, acc ++ [f.Odd[k]], hlt, by push_cast; rfl, by simp; omega, nofun, ?_, ?_, nofun⟩, by simp only; omega⟩
     ·intro g hg
      rcases List.mem_append.1 hg with h | h
      ·exact ham g h
      ·rw [List.mem_singleton] at h; subst h; exact .inl hm
     ·rw [htk, List.filter_append, List.filter_append, haf]
    ·rw [beq_f he]
     simp only [cond_false, Option.bind_some]
     by_cases hin : p = false ∧ f.Odd[k].Index > at'
     ·obtain ⟨rfl, hgt⟩ := hin
      rw [dec_t hgt]
      simp only [Bool.not_false, Bool.and_self, cond_true]
      obtain ⟨h0, hall⟩ := hp rfl
      have hn : ¬ isOdd f at' := by
       rintro ⟨g, hg, hgi⟩
       obtain ⟨j, hj⟩ := List.getElem?_of_mem hg
       by_cases h : j < k
       ·have := hall j g h hj; omega
       ·by_cases h' : j = k
        ·subst h'; rw [hget] at hj; cases hj; omega
        ·have := hs.inc k j f.Odd[k] g (by omega) hget hj; omega
      have hz := hnone h0 hn
      rw [app?_ok (by simp only [List.length_cons, List.length_nil]; omega)]
      simp only [Option.bind_some]
      rw [app?_ok (by simp only [List.length_append, List.length_cons, List.length_nil]; omega)]
      simp only [Option.bind_some]
      rw [w64_id (by omega)]
      have := ha2 rfl
      refine ⟨_, rfl, ⟨k + 1, true, acc ++ [⟨at', x4.1⟩] ++ [f.Odd[k]], hlt, by push_cast; rfl, by simp; omega, nofun, ?_, ?_, nofun⟩, by simp only; omega⟩
      ·intro g hg
       rcases List.mem_append.1 hg with h | h
       ·rcases List.mem_append.1 h with h | h
        ·exact ham g h
        ·rw [List.mem_singleton] at h; exact .inr h
       ·rw [List.mem_singleton] at h; subst h; exact .inl hm
      ·rw [htk, List.filter_append, List.filter_append, List.filter_append, haf]
       simp [hz]
     ·have : (!p && decide (f.Odd[k].Index > at')) = false := by
       cases p with
       | true => rfl
       | false => rw [Bool.not_false, Bool.true_and]; apply dec_f; intro h; exact hin ⟨rfl, h⟩
      rw [this, cond_false]
      simp only [Option.bind_some]
      rw [app?_ok (by simp only [List.length_cons, List.length_nil]; omega)]
      simp only [Option.bind_some]
      rw [w64_id (by omega)]
      refine ⟨_, rfl, ⟨k + 1, p, acc ++ [f.Odd[k]], hlt, by push_cast; rfl, by simp; omega, fun hpf => by have := ha2 hpf; simp; omega, ?_, ?_, ?_⟩, by simp only; omega⟩
      ·intro g hg
       rcases List.mem_append.1 hg with h | h
       ·exact ham g h
       ·rw [List.mem_singleton] at h; subst h; exact .inl hm
      ·rw [htk, List.filter_append, List.filter_append, haf]
      ·intro hpf
       obtain ⟨h0, hall⟩ := hp hpf
       refine ⟨h0, fun j g hj hg => ?_⟩
       by_cases h : j < k
       ·exact hall j g h hg
       ·obtain rfl : j = k := by omega
        rw [hget] at hg; cases hg
        have : ¬ f.Odd[j].Index > at' := fun h => hin ⟨hpf, h⟩
        omega
   ·right
    obtain rfl : k = f.Odd.length := by omega
    rw [dec_f (by omega), cond_false]
    rw [List.take_length] at haf
    refine ⟨_, rfl, by simp only; omega, ham, haf, fun hpf => ⟨by have := ha2 hpf; simp only; omega, ?_⟩⟩
    obtain ⟨h0, hall⟩ := hp hpf
    exact hnone h0 (by
     rintro ⟨g, hg, hgi⟩
     obtain ⟨j, hj⟩ := List.getElem?_of_mem hg
     have := hall j g (List.getElem?_eq_some_iff.1 hj).1 hj
     omega)) ((x4.2 != 0), 0, []) ⟨0, x4.2 != 0, [], Nat.zero_le _, rfl, by simp, by simp, by simp, by simp, fun h => ⟨by simpa using h, fun j g hj => by omega⟩⟩
 exact ⟨r, q1, q2.1, q2.2.1, q2.2.2.1, fun h => (q2.2.2.2 h).2⟩

open Classical in
theorem canonTurns_true (f : Form) (times at' : Int) (hf : f.ok) (ht : okI .u8 times) (ha : okI .i8 at') : epactlaw06_CanonTurns f times at' = some true := by
 have hl := Form.lim hf
 have hr := room_eq
 have hrb := reach_eq
 rw [okI_u8] at ht
 rw [okI_i8] at ha
 have hat : In64 at' := by unfold In64; omega
 unfold epactlaw06_CanonTurns
 obtain ⟨b1, e1, i1⟩ := epactlaw06_right_eq hl
 rw [e1]
 cases b1 with
 | false => rfl
 | true =>
 obtain ⟨sf, rf⟩ := i1.1 rfl
 have hs := rf.shape
 simp only [Option.bind_some, Bool.not_true, Bool.false_or]
 by_cases hp : f.Period > 1073741824
 ·rw [dec_t hp]; rfl
 rw [dec_f hp, cond_false]
 have hn : w64 (1 + w64 (times.tmod 6)) = ((1 + (times % 6).toNat : Nat) : Int) := by
  rw [Int.tmod_eq_emod_of_nonneg (by omega), w64_id (x := times % 6) (by omega), w64_id (by omega)]
  omega
 rw [hn]
 have n1 : 1 ≤ 1 + (times % 6).toNat := by omega
 have n6 : 1 + (times % 6).toNat ≤ 6 := by omega
 generalize 1 + (times % 6).toNat = n at n1 n6
 obtain ⟨x2, e2, h2⟩ := twice_eq hl hs sf.1 (by omega) n1 n6
 rw [e2]
 simp only [Option.bind_some]
 rcases h2 with rfl | ⟨hfit, rfl⟩
 ·rfl
 simp only [Bool.not_true, cond_false]
 have hcl : (repC f n).length ≤ 72 := by
  rw [repC_len]
  exact Nat.le_trans (Nat.mul_le_mul n6 sf.1) (by decide)
 have hsets : ∀ l ∈ repC f n, Len l ∧ Sp64 l := fun l hm => by
  obtain ⟨k, hk, m, hm', rfl⟩ := repC_mem.1 hm
  refine ⟨by have := (hl.sets m hm').1; unfold Len at *; rwa [List.length_map], fun s hs' => ?_⟩
  obtain ⟨s0, hs0, rfl⟩ := List.mem_map.1 hs'
  have := hfit k hk m hm' s0 hs0
  exact ⟨tick64 this.1, tick64 this.2⟩
 have hper := hs.per
 have hcnt := hs.count
 have b1 : 0 ≤ f.Period * n ∧ f.Period * n ≤ 6442450944 := by
  refine ⟨Int.mul_nonneg hper.1 (by omega), ?_⟩
  have := Int.mul_le_mul (a := f.Period) (b := (n : Int)) (c := 1073741824) (d := 6) (by omega) (by omega) (by omega) (by omega)
  omega
 have hsl := sf.1
 have b2 : 0 ≤ f.Count * n ∧ f.Count * n ≤ 72 := by
  refine ⟨Int.mul_nonneg (by omega) (by omega), ?_⟩
  have := Int.mul_le_mul (a := f.Count) (b := (n : Int)) (c := 12) (d := 6) (by omega) (by omega) (by omega) (by omega)
  omega
 have lim : ∀ o : List Granule, o.length ≤ 9 → (∀ g ∈ o, In64 g.Index ∧ Len g.Ticks ∧ Sp64 g.Ticks) → Lim (Form.mk (f.Period * n) (f.Count * n) (repC f n) o) := fun o ho hg =>
  ⟨by simp only; omega, hsets, by simp only; omega, hg, by unfold In64; simp only; omega, by unfold In64; simp only; omega⟩
 have hodd := sf.2.1
 rcases gran_Right_eq (lim f.Odd (by omega) hl.ticks) with ⟨_, h⟩ | ⟨_, hr0, h⟩ | ⟨_, _, h⟩
 ·rw [h]; rfl
 ·rw [h]
  simp only [Option.bind_some, bne_self_eq_false, cond_false]
  rw [w64_id (x := at') hat, gran_Get_eq hl hs hat]
  simp only [Option.bind_some]
  have hx4 : ∃ x4 : List Span × Int, (if tickP at' ∧ fits f at' then (setAt f at', (0 : Int)) else ([], 20)) = x4 ∧ (x4.2 = 0 → x4.1 = setAt f at') ∧ Len x4.1 ∧ Sp64 x4.1 := by
   refine ⟨_, rfl, ?_, ?_⟩
   ·split
    ·intro _; rfl
    ·intro h; cases h
   ·split
    ·rename_i h; exact ⟨setAt_len hl hs at', (setAt_right hs h.2).sp64⟩
    ·refine ⟨by unfold Len; simp, fun s hs => by cases hs⟩
  obtain ⟨x4, hx, h40, h41, h42⟩ := hx4
  rw [hx]
  obtain ⟨r, l1, l2, l3, l4, l5⟩ := turns_loop hl hs hodd (x2 := (Form.mk (f.Period * n) (f.Count * n) (repC f n) f.Odd, true)) rfl hat h40
  rw [l1]
  simp only [Option.bind_some]
  have hy : ∃ y : List Granule, (bif (!r.1) then (app? 32 r.2 [(Granule.mk at' x4.1)]).bind fun x8 => some x8 else some r.2) = some y ∧ y.length ≤ 10 ∧ (∀ g ∈ y, g ∈ f.Odd ∨ g = ⟨at', x4.1⟩) ∧ y.filter (oddly f) = f.Odd.filter (oddly f) := by
   cases hr1 : r.1 with
   | true => exact ⟨r.2, rfl, by omega, l3, l4⟩
   | false =>
    refine ⟨r.2 ++ [⟨at', x4.1⟩], ?_, by simp; omega, ?_, ?_⟩
    ·simp only [Bool.not_false, cond_true]
     rw [app?_ok (by simp only [List.length_cons, List.length_nil]; omega)]; rfl
    ·intro g hg
     rcases List.mem_append.1 hg with h | h
     ·exact l3 g h
     ·rw [List.mem_singleton] at h; exact .inr h
    ·rw [List.filter_append, l4]; simp [l5 hr1]
  obtain ⟨y, y1, y2, y3, y4⟩ := hy
  rw [y1]
  simp only [Option.bind_some]
  have limg : Lim (Form.mk (f.Period * n) (f.Count * n) (repC f n) y) :=
   ⟨by simp only; omega, hsets, by simp only; omega, fun g hg => by
    rcases y3 g hg with h | rfl
    ·exact hl.ticks g h
    ·exact ⟨hat, h41, h42⟩, by unfold In64; simp only; omega, by unfold In64; simp only; omega⟩
  rcases gran_Right_eq limg with ⟨_, h⟩ | ⟨_, rg, h⟩ | ⟨_, _, h⟩
  ·rw [h]; rfl
  ·rw [h]
   simp only [Option.bind_some, bne_self_eq_false, cond_false]
   obtain ⟨c, c1, c2⟩ := canon_Form_eq hl hs
   obtain ⟨c', d1, d2⟩ := canon_Form_eq limg rg.shape
   have ez := turned_csz hs n1 y
   have ec : c = c' := coreOf_eq hs rg.shape ez.symm (turned_bare n1 _ _ _) c1 d1
   subst ec
   have eo : oddly (Form.mk (f.Period * n) (f.Count * n) (repC f n) y) = oddly f := by
    funext g; unfold oddly; rw [ez]
   have ef : canonF (Form.mk (f.Period * n) (f.Count * n) (repC f n) y) c = canonF f c := by
    unfold canonF
    rw [eo]
    show Form.mk c.Period c.Count c.Core (y.filter (oddly f)) = _
    rw [y4]
   rw [ef] at d2
   have lc := canonF_lim hl hs c1
   obtain ⟨r1, s1, s2⟩ := canon_equal_eq (b := canonF f c) lc
   obtain ⟨r2, s3, s4⟩ := alikeForms_eq (b := canonF f c) lc
   have hr1 : r1 = true := s2.2 rfl
   have hr2 : r2 = true := s4.2 rfl
   subst hr1 hr2
   have hsame : canon_Same f (Form.mk (f.Period * n) (f.Count * n) (repC f n) y) = some true := by unfold canon_Same; rw [c2, d2]; simp only [Option.bind_some, s1]
   rw [hsame]
   simp only [Option.bind_some, cond_true, c2, d2, s3]
   rfl
  ·rw [h]; rfl
 ·rw [h]; rfl

end Go.Dn
