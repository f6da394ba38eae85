/- Forms, in plain terms: what an index keeps. -/
import Derived.Test.YtefaoeaohhdhkaaP2
set_option linter.unusedVariables false
set_option linter.unusedSimpArgs false
namespace Go.Dn
open Go

theorem cmp_Compare_eq (x y : Int) : cmp_Compare_int x y = if x < y then -1 else if y < x then 1 else 0 := by
  unfold cmp_Compare_int cmp_isNaN_int
  simp only [bne_self_eq_false, cond_false, pickB, decide_eq_true_eq, gt_iff_lt, Bool.false_eq_true, if_false]

/-- Lists by rising indexes. -/
def Inc (l : List Granule) : Prop := ∀ (j k : Nat) (a b : Granule), j < k → l[j]? = some a → l[k]? = some b → a.Index < b.Index

theorem bsearch_eq {l : List Granule} {t : Int} (hl : l.length * 32 ≤ reachBytes) (hs : Inc l) : ∃ p : Nat, p ≤ l.length ∧ (∀ (k : Nat) (g : Granule), l[k]? = some g → (k < p ↔ g.Index < t)) ∧
    slices_BinarySearchFunc_SGranule_Granule_int l t (fun z0 z1 => some (gran_odd_1 z0 z1)) = some ((p : Int), decide (∃ g, l[p]? = some g ∧ g.Index = t)) := by
  have hlen : (l.length : Int) < 4398046511104 * 4 := by have := reach_eq; omega
  have hcmp : ∀ g i, gran_odd_1 g i = if g.Index < i then -1 else if i < g.Index then 1 else 0 := fun g i => cmp_Compare_eq _ _
  obtain ⟨r, h1, p, rfl, hp, hlow, hhigh⟩ := loopO_inv (step := slices_BinarySearchFunc_SGranule_Granule_int.s0 l t (fun z0 z1 => some (gran_odd_1 z0 z1)))
    (I := fun s => ∃ i j : Nat, s = ((i : Int), (j : Int)) ∧ i ≤ j ∧ j ≤ l.length ∧ (∀ k g, l[k]? = some g → k < i → g.Index < t) ∧ (∀ k g, l[k]? = some g → j ≤ k → t ≤ g.Index))
    (fun s => (s.2 - s.1).toNat)
    (fun r => ∃ p : Nat, r = (p : Int) ∧ p ≤ l.length ∧ (∀ k g, l[k]? = some g → k < p → g.Index < t) ∧ (∀ k g, l[k]? = some g → p ≤ k → t ≤ g.Index)) (by
    rintro s ⟨i, j, rfl, hij, hj, hlow, hhigh⟩
    unfold slices_BinarySearchFunc_SGranule_Granule_int.s0
    by_cases hlt : i < j
    · have hm : w64 ((IntKind.u64.wrap (w64 ((i : Int) + j))).fdiv (2 ^ 1)) = ((i + j) / 2 : Nat) := by
        rw [w64_id (x := (i : Int) + j) (by omega), wrap_u64, Int.fdiv_eq_ediv_of_nonneg _ (by decide), w64_id (by omega)]
        omega
      have hml : (i + j) / 2 < l.length := by omega
      simp only [hm]
      rw [dec_t (show (i : Int) < j by omega), cond_true, at?_nat hml]
      simp only [Option.bind_some, hcmp]
      refine .inl ?_
      have hget := List.getElem?_eq_getElem hml
      by_cases hc : l[(i + j) / 2].Index < t
      · rw [if_pos hc]
        refine ⟨((((i + j) / 2 + 1 : Nat) : Int), (j : Int)), ?_, ⟨(i + j) / 2 + 1, j, rfl, by omega, hj, fun k g hk hki => ?_, hhigh⟩, by simp; omega⟩
        · rw [w64_id (by omega)]; simp
        · rcases Nat.lt_or_ge k ((i + j) / 2) with h | h
          · have := hs k _ g _ h hk hget; omega
          · have : k = (i + j) / 2 := by omega
            subst this; rw [hget] at hk; cases hk; exact hc
      · rw [if_neg hc]
        refine ⟨((i : Int), (((i + j) / 2 : Nat) : Int)), ?_, ⟨i, (i + j) / 2, rfl, by omega, by omega, hlow, fun k g hk hki => ?_⟩, by simp; omega⟩
        · split <;> simp
        · rcases Nat.lt_or_ge ((i + j) / 2) k with h | h
          · have := hs _ k _ g h hget hk; omega
          · have : k = (i + j) / 2 := by omega
            subst this; rw [hget] at hk; cases hk; omega
    · refine .inr ⟨(i : Int), by rw [dec_f (show ¬ (i : Int) < j by omega)]; rfl, i, rfl, by omega, hlow, fun k g hk hki => hhigh k g hk (by omega)⟩) (0, (l.length : Int)) ⟨0, l.length, rfl, Nat.zero_le _, Nat.le_refl _, fun k g _ h => by omega, fun k g hk h => by
        rw [List.getElem?_eq_none h] at hk; cases hk⟩
  refine ⟨p, hp, fun k g hk => ⟨fun h => hlow k g hk h, fun h => ?_⟩, ?_⟩
  · rcases Nat.lt_or_ge k p with h2 | h2
    · exact h2
    · have := hhigh k g hk h2; omega
  · unfold slices_BinarySearchFunc_SGranule_Granule_int
    rw [h1]
    simp only [Option.bind_some]
    by_cases hlt : p < l.length
    · rw [dec_t (show (p : Int) < l.length by omega), cond_true, at?_nat hlt]
      simp only [Option.bind_some, hcmp, Option.some.injEq, Prod.mk.injEq, true_and]
      have := hhigh p _ (List.getElem?_eq_getElem hlt) (Nat.le_refl _)
      rw [List.getElem?_eq_getElem hlt]
      by_cases he : l[p].Index = t
      · rw [if_neg (by omega), if_neg (by omega)]; simp [he]
      · rw [if_neg (by omega), if_pos (by omega)]; simp [he]
    · rw [dec_f (show ¬ (p : Int) < l.length by omega), cond_false]
      simp only [Option.bind_some, Option.some.injEq, Prod.mk.injEq, true_and]
      rw [List.getElem?_eq_none (by omega)]
      simp

/-- Numbers, sets and indexes are right. -/
structure Shape (f : Form) : Prop where
  count : f.Count = f.Core.length
  zero : f.Count = 0 ↔ f.Period = 0
  per : 0 ≤ f.Period ∧ f.Period ≤ 1099511627776
  core : ∀ l ∈ f.Core, RightL l
  odd : ∀ g ∈ f.Odd, RightL g.Ticks ∧ tickP g.Index
  inc : Inc f.Odd

/-- What a form bears that is handed in. -/
structure Lim (f : Form) : Prop where
  core : f.Core.length * 24 ≤ reachBytes
  sets : ∀ l ∈ f.Core, Len l ∧ Sp64 l
  odd : f.Odd.length * 32 ≤ reachBytes
  ticks : ∀ g ∈ f.Odd, In64 g.Index ∧ Len g.Ticks ∧ Sp64 g.Ticks
  count : In64 f.Count
  period : In64 f.Period

theorem Form.lim {f : Form} (h : f.ok) : Lim f := by
  obtain ⟨h1, h2, h3, h4⟩ := h
  exact ⟨h3.1, fun l hl => okSpans (h3.2 l hl), h4.1, fun g hg => ⟨(h4.2 g hg).1, okSpans (h4.2 g hg).2⟩, h2, h1⟩

theorem gran_odd_eq {f : Form} (hl : Lim f) (hs : Inc f.Odd) (i : Int) : ∃ p : Nat, p ≤ f.Odd.length ∧ (∀ (k : Nat) (g : Granule), f.Odd[k]? = some g → (k < p ↔ g.Index < i)) ∧ gran_odd f i = some ((p : Int), decide (∃ g, f.Odd[p]? = some g ∧ g.Index = i)) := by
  obtain ⟨p, h1, h2, h3⟩ := bsearch_eq (t := i) hl.odd hs
  exact ⟨p, h1, h2, by unfold gran_odd; rw [h3]; rfl⟩

/-- Is an index an exception? -/
def isOdd (f : Form) (i : Int) : Prop := ∃ g ∈ f.Odd, g.Index = i
def coreAt (f : Form) (i : Int) : List Span := f.Core.getD (i % f.Count).toNat []
def perAt (f : Form) (i : Int) : Int := i / f.Count * f.Period
open Classical in
/-- The set of an index, wherever its ticks are. -/
noncomputable def setAt (f : Form) (i : Int) : List Span := if h : isOdd f i then h.choose.Ticks else if f.Count = 0 then [] else (coreAt f i).map (shiftS (perAt f i))

theorem Inc.uniq {l : List Granule} (h : Inc l) {a b : Granule} (ha : a ∈ l) (hb : b ∈ l) (he : a.Index = b.Index) : a = b := by
  obtain ⟨j, hj⟩ := List.getElem?_of_mem ha
  obtain ⟨k, hk⟩ := List.getElem?_of_mem hb
  rcases Nat.lt_trichotomy j k with hjk | rfl | hjk
  · have := h j k a b hjk hj hk; omega
  · rw [hj] at hk; cases hk; rfl
  · have := h k j b a hjk hk hj; omega

theorem setAt_odd {f : Form} (hs : Inc f.Odd) {g : Granule} (hg : g ∈ f.Odd) : setAt f g.Index = g.Ticks := by
  have h : isOdd f g.Index := ⟨g, hg, rfl⟩
  unfold setAt
  rw [dif_pos h]
  rw [hs.uniq h.choose_spec.1 hg h.choose_spec.2]
theorem setAt_none {f : Form} {i : Int} (h : ¬ isOdd f i) (h0 : f.Count = 0) : setAt f i = [] := by unfold setAt; rw [dif_neg h, if_pos h0]
theorem setAt_core {f : Form} {i : Int} (h : ¬ isOdd f i) (h0 : f.Count ≠ 0) : setAt f i = (coreAt f i).map (shiftS (perAt f i)) := by unfold setAt; rw [dif_neg h, if_neg h0]

theorem core_pos {f : Form} (hs : Shape f) (h0 : f.Count ≠ 0) : 0 < f.Count := by have := hs.count; omega
theorem coreAt_get {f : Form} (hs : Shape f) (h0 : f.Count ≠ 0) (i : Int) : at? f.Core (i % f.Count) = some (coreAt f i) ∧ coreAt f i ∈ f.Core := by
  have hp := core_pos hs h0
  have h1 := Int.emod_nonneg i h0
  have h2 := Int.emod_lt_of_pos i hp
  have h3 : (i % f.Count).toNat < f.Core.length := by have := hs.count; omega
  unfold coreAt
  rw [at?_lt h1 (by have := hs.count; omega), List.getD_eq_getElem?_getD, List.getElem?_eq_getElem h3]
  exact ⟨rfl, List.getElem_mem h3⟩

theorem gran_kept_odd {f : Form} (hl : Lim f) (hs : Shape f) {g : Granule} (hg : g ∈ f.Odd) : gran_kept f g.Index = some (g.Ticks, 0, 0) := by
  obtain ⟨p, h1, h2, h3⟩ := gran_odd_eq hl hs.inc g.Index
  obtain ⟨k, hk⟩ := List.getElem?_of_mem hg
  have hkl := (List.getElem?_eq_some_iff.1 hk).1
  have hpk : p ≤ k := by
    rcases Nat.lt_or_ge k p with h | h
    · have := (h2 k g hk).1 h; omega
    · exact h
  have hpl : p < f.Odd.length := by omega
  have hpg := h2 p _ (List.getElem?_eq_getElem hpl)
  have : p = k := by
    rcases Nat.lt_or_ge p k with h | h
    · have := hs.inc p k _ g h (List.getElem?_eq_getElem hpl) hk
      exact absurd (hpg.2 this) (Nat.lt_irrefl _)
    · omega
  subst this
  unfold gran_kept
  rw [h3]
  simp only [Option.bind_some]
  rw [dec_t ⟨g, hk, rfl⟩, cond_true, at?_nat hpl]
  rw [List.getElem?_eq_getElem hpl] at hk
  cases hk; rfl

theorem gran_kept_core {f : Form} (hl : Lim f) (hs : Shape f) {i : Int} (hi : In64 i) (ho : ¬ isOdd f i) : gran_kept f i = if f.Count = 0 then some ([], 0, 0) else some (coreAt f i, (fitS (perAt f i)).1, (fitS (perAt f i)).2) := by
  obtain ⟨p, h1, h2, h3⟩ := gran_odd_eq hl hs.inc i
  unfold gran_kept
  rw [h3]
  simp only [Option.bind_some]
  rw [dec_f (by rintro ⟨g, hg, he⟩; exact ho ⟨g, List.mem_of_getElem? hg, he⟩), cond_false]
  by_cases h0 : f.Count = 0
  · rw [beq_t h0, cond_true, if_pos h0]
  · rw [beq_f h0, cond_false, if_neg h0, safe_Floor_eq hi hl.count, floorS_pos (core_pos hs h0)]
    simp only [Option.bind_some]
    rw [(coreAt_get hs h0 i).1]
    simp only [Option.bind_some]
    have hq : In64 (i / f.Count) := by
      have hp := core_pos hs h0
      unfold In64 at hi ⊢
      constructor
      · have : -9223372036854775808 ≤ i / f.Count := by
          rw [Int.le_ediv_iff_mul_le hp]
          have : (-9223372036854775808) * f.Count ≤ -9223372036854775808 := by
            have : (-9223372036854775808) * f.Count ≤ (-9223372036854775808) * 1 := Int.mul_le_mul_of_nonpos_left (by omega) (by omega)
            omega
          omega
        exact this
      · have : i / f.Count ≤ 9223372036854775807 := by
          rcases Int.lt_or_le i 0 with h | h
          · have : i / f.Count < 0 := Int.ediv_neg_of_neg_of_pos h hp
            omega
          · have := Int.ediv_le_self f.Count h
            omega
        exact this
    rw [safe_Mul_eq hq hl.period]
    rfl

/-- Are all ticks of an index's set ticks? -/
def fits (f : Form) (i : Int) : Prop := ∀ s ∈ setAt f i, tickP s.From ∧ tickP s.To

theorem shift0 (l : List Span) : l.map (shiftS 0) = l := by
  have : shiftS 0 = id := by funext s; simp [shiftS]
  rw [this, List.map_id]

theorem setAt_nil_core {f : Form} {i : Int} (ho : ¬ isOdd f i) (h0 : f.Count ≠ 0) : setAt f i = [] ↔ coreAt f i = [] := by rw [setAt_core ho h0, List.map_eq_nil_iff]

open Classical in
theorem gran_Get_eq {f : Form} (hl : Lim f) (hs : Shape f) {i : Int} (hi : In64 i) : gran_Get f i = some (if tickP i ∧ fits f i then (setAt f i, 0) else ([], 20)) := by
  unfold gran_Get
  rw [inRange_eq]
  by_cases ht : tickP i
  · rw [dec_t ht, Bool.not_true, cond_false]
    by_cases ho : isOdd f i
    · obtain ⟨g, hg, rfl⟩ := ho
      have hset := setAt_odd hs.inc hg
      have hr := (hs.odd g hg).1
      have hf : fits f g.Index := by
        intro s hsm
        rw [hset] at hsm
        obtain ⟨k, hk⟩ := List.getElem?_of_mem hsm
        exact ⟨(hr.ok k s hk).1, (hr.ok k s hk).2.1⟩
      rw [gran_kept_odd hl hs hg, if_pos ⟨ht, hf⟩, hset]
      simp only [Option.bind_some]
      by_cases hn : g.Ticks = []
      · rw [hn]; rfl
      · have : ((g.Ticks.length : Int) == 0) = false := beq_f (by have := List.length_pos_iff.2 hn; omega)
        rw [this, cond_false]
        simp only [bne_self_eq_false, cond_false]
        rcases spans_Move_eq (b := 0) (hl.ticks g hg).2.1 hr.sp64 ⟨by decide, by decide⟩ with ⟨_, h2⟩ | ⟨h1, _⟩
        · rw [h2, shift0]; rfl
        · refine absurd (fun s hsm => ?_) h1
          rw [← hset] at hsm
          simpa using hf s hsm
    · rw [gran_kept_core hl hs hi ho]
      by_cases h0 : f.Count = 0
      · rw [if_pos h0, if_pos ⟨ht, by intro s hsm; rw [setAt_none ho h0] at hsm; cases hsm⟩, setAt_none ho h0]; rfl
      · rw [if_neg h0]
        simp only [Option.bind_some]
        by_cases hn : coreAt f i = []
        · rw [if_pos ⟨ht, by intro s hsm; rw [(setAt_nil_core ho h0).2 hn] at hsm; cases hsm⟩, (setAt_nil_core ho h0).2 hn, hn]; rfl
        · have : (((coreAt f i).length : Int) == 0) = false := beq_f (by have := List.length_pos_iff.2 hn; omega)
          rw [this, cond_false]
          have hmem := (coreAt_get hs h0 i).2
          have hr := hs.core _ hmem
          have hfe : fits f i ↔ ∀ s ∈ coreAt f i, tickP (s.From + perAt f i) ∧ tickP (s.To + perAt f i) := by
            unfold fits; rw [setAt_core ho h0]
            constructor
            · intro h s hsm; exact h (shiftS (perAt f i) s) (List.mem_map.2 ⟨s, hsm, rfl⟩)
            · intro h s hsm
              obtain ⟨s, hsm', rfl⟩ := List.mem_map.1 hsm
              exact h s hsm'
          rcases fit_or (perAt f i) with ⟨q1, q2⟩ | ⟨q1, q2⟩ <;> rw [q2]
          · simp only [bne_self_eq_false, cond_false]
            rcases spans_Move_eq (b := perAt f i) (hl.sets _ hmem).1 hr.sp64 q1 with ⟨h1, h2⟩ | ⟨h1, h2⟩
            · rw [h2, if_pos ⟨ht, hfe.2 h1⟩, setAt_core ho h0]; rfl
            · rw [h2, if_neg (fun h => h1 (hfe.1 h.2))]; rfl
          · rw [if_neg]
            · rfl
            · rintro ⟨_, h⟩
              have h := hfe.1 h
              obtain ⟨s, hsm⟩ := List.exists_mem_of_ne_nil _ hn
              have h1 := (h s hsm).1
              obtain ⟨k, hk⟩ := List.getElem?_of_mem hsm
              have h2 := (hr.ok k s hk).1
              unfold tickP at h1 h2
              exact q1 (by unfold In64; omega)
  · rw [dec_f ht, if_neg (fun h => ht h.1)]; rfl

open Classical in
theorem gran_some_eq {f : Form} (hl : Lim f) (hs : Shape f) {i : Int} (hi : In64 i) : gran_some f i = some (decide (setAt f i ≠ [])) := by
  unfold gran_some
  by_cases ho : isOdd f i
  · obtain ⟨g, hg, rfl⟩ := ho
    rw [gran_kept_odd hl hs hg, setAt_odd hs.inc hg]
    simp only [Option.bind_some]
    cases g.Ticks <;> simp
  · rw [gran_kept_core hl hs hi ho]
    by_cases h0 : f.Count = 0
    · rw [if_pos h0, setAt_none ho h0]; rfl
    · rw [if_neg h0]
      simp only [Option.bind_some, Ne, setAt_nil_core ho h0]
      cases coreAt f i <;> simp

end Go.Dn
