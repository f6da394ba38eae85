/- Forms, in plain terms: what is next to an index; right forms; their order. -/
import Derived.Test.YtefaoeaohhdhkaaP4
set_option linter.unusedVariables false
set_option linter.unusedSimpArgs false
namespace Go.Dn
open Go

theorem containsFunc_eq {l : List (List Span)} {p : List Span → Bool} (hl : l.length * 24 ≤ reachBytes) : slices_ContainsFunc_SSSpan_SSpan l (fun z => some (p z)) = some (decide (∃ x ∈ l, p x = true)) := by
  have hlen := len_lt (b := 23) hl
  unfold slices_ContainsFunc_SSSpan_SSpan slices_IndexFunc_SSSpan_SSpan
  by_cases hall : ∀ (k : Nat) (x : List Span), l[k]? = some x → ¬ p x = true
  · have : loopO (slices_IndexFunc_SSSpan_SSpan.s0 l (fun z => some (p z))) 0 = some (.go ()) := by
      refine loopO_val (I := fun (s : Int) r => r = .go () ∧ ∃ k : Nat, s = k ∧ k ≤ l.length) (fun s => l.length - s.toNat) ?_ ⟨rfl, 0, rfl, Nat.zero_le _⟩
      rintro s r ⟨rfl, k, rfl, hk⟩
      unfold slices_IndexFunc_SSSpan_SSpan.s0
      by_cases hlt : k < l.length
      · rw [dec_t (show (k : Int) < l.length by omega), cond_true, at?_nat hlt, w64_id (by omega)]
        have := hall k _ (List.getElem?_eq_getElem hlt)
        simp only [Option.bind_some, Bool.not_eq_true] at this ⊢
        rw [this]
        exact .inl ⟨_, rfl, ⟨trivial, k + 1, by push_cast; rfl, hlt⟩, by simp; omega⟩
      · rw [dec_f (show ¬ (k : Int) < l.length by omega)]; exact .inr rfl
    rw [this, dec_f (by rintro ⟨x, hx, hp⟩; obtain ⟨k, hk⟩ := List.getElem?_of_mem hx; exact hall k x hk hp)]
    rfl
  · obtain ⟨k0, x0, hx0, hb0, hg⟩ := first_bad (good := fun _ x => ¬ p x = true) hall
    have hb0 : p x0 = true := Classical.byContradiction hb0
    have hlt0 := (List.getElem?_eq_some_iff.1 hx0).1
    have : loopO (slices_IndexFunc_SSSpan_SSpan.s0 l (fun z => some (p z))) 0 = some (.ret (k0 : Int)) := by
      refine loopO_val (I := fun (s : Int) r => r = .ret (k0 : Int) ∧ ∃ k : Nat, s = k ∧ k ≤ k0) (fun s => l.length - s.toNat) ?_ ⟨rfl, 0, rfl, Nat.zero_le _⟩
      rintro s r ⟨rfl, k, rfl, hk⟩
      unfold slices_IndexFunc_SSSpan_SSpan.s0
      have hkl : k < l.length := by omega
      rw [dec_t (show (k : Int) < l.length by omega), cond_true, at?_nat hkl, w64_id (by omega)]
      by_cases hlt : k < k0
      · have := hg k _ hlt (List.getElem?_eq_getElem hkl)
        simp only [Option.bind_some, Bool.not_eq_true] at this ⊢
        rw [this]
        exact .inl ⟨_, rfl, ⟨trivial, k + 1, by push_cast; rfl, hlt⟩, by simp; omega⟩
      · have : k = k0 := by omega
        subst this
        rw [List.getElem?_eq_getElem hkl] at hx0
        cases hx0
        simp only [Option.bind_some, hb0]
        exact .inr rfl
    rw [this, dec_t ⟨x0, List.mem_of_getElem? hx0, hb0⟩]
    simp only [Option.bind_some, Jx.elim]
    rw [dec_t (by omega)]

/-- The core has no granule. -/
def Bare (f : Form) : Prop := ∀ l ∈ f.Core, l = []
theorem gran_bare_eq {f : Form} (hl : Lim f) : ∃ b, gran_bare f = some b ∧ (b = true ↔ Bare f) := by
  unfold gran_bare
  rw [containsFunc_eq hl.core]
  refine ⟨_, rfl, ?_⟩
  simp only [gran_bare_1, Bool.not_eq_true', decide_eq_false_iff_not, decide_eq_true_eq]
  constructor
  · intro h l hm
    apply Classical.byContradiction
    intro hn
    exact h ⟨l, hm, by have := List.length_pos_iff.2 hn; omega⟩
  · rintro h ⟨l, hm, hp⟩
    rw [h l hm] at hp; simp at hp

theorem setAt_bare {f : Form} (hs : Shape f) (hb : Bare f) {i : Int} (ho : ¬ isOdd f i) : setAt f i = [] := by
  by_cases h0 : f.Count = 0
  · exact setAt_none ho h0
  · exact (setAt_nil_core ho h0).2 (hb _ (coreAt_get hs h0 i).2)

/-- The first index with a granule, from one on, upwards; or there is none. -/
def UpTo (f : Form) (i : Int) (r : Int × Bool) : Prop := (r.2 = true ∧ i ≤ r.1 ∧ tickP r.1 ∧ setAt f r.1 ≠ [] ∧ ∀ k, i ≤ k → k < r.1 → setAt f k = []) ∨ (r.2 = false ∧ r.1 = 0 ∧ ∀ k, i ≤ k → tickP k → setAt f k = [])
def DownTo (f : Form) (i : Int) (r : Int × Bool) : Prop := (r.2 = true ∧ r.1 ≤ i ∧ tickP r.1 ∧ setAt f r.1 ≠ [] ∧ ∀ k, k ≤ i → r.1 < k → setAt f k = []) ∨ (r.2 = false ∧ r.1 = 0 ∧ ∀ k, k ≤ i → tickP k → setAt f k = [])

/-- Exceptions' places: an index that is none has its place between. -/
theorem odd_split {f : Form} (hs : Shape f) {p : Nat} {i : Int} (hp : ∀ (k : Nat) (g : Granule), f.Odd[k]? = some g → (k < p ↔ g.Index < i)) {j : Int} (hj : isOdd f j) : ∃ (k : Nat) (g : Granule), f.Odd[k]? = some g ∧ g.Index = j ∧ (k < p ↔ j < i) := by
  obtain ⟨g, hg, rfl⟩ := hj
  obtain ⟨k, hk⟩ := List.getElem?_of_mem hg
  exact ⟨k, g, hk, rfl, hp k g hk⟩

theorem gran_step_up {f : Form} (hl : Lim f) (hs : Shape f) {i : Int} (hi : -1099511627776 ≤ i ∧ i ≤ 1099511627776) : ∃ r, gran_step f i 1 = some r ∧ UpTo f i r := by
  have hi64 : In64 i := by unfold In64; omega
  obtain ⟨b, hb, hbb⟩ := gran_bare_eq hl
  have holen := len_lt (b := 31) hl.odd
  unfold gran_step
  rw [hb]
  simp only [Option.bind_some]
  cases b with
  | true =>
    have hbare := hbb.1 rfl
    rw [cond_true]
    obtain ⟨p, h1, h2, h3⟩ := gran_odd_eq hl hs.inc i
    rw [h3]
    simp only [Option.bind_some, dec_f (show ¬ (1 : Int) < 0 by omega), Bool.false_and, cond_false]
    obtain ⟨r, hr, hpost⟩ := loopO_inv (step := gran_step.s0 f 1) (I := fun (s : Int) => ∃ k : Nat, s = k ∧ p ≤ k ∧ k ≤ f.Odd.length ∧ ∀ (j : Nat) (g : Granule), f.Odd[j]? = some g → p ≤ j → j < k → g.Ticks = []) (fun s => f.Odd.length - s.toNat)
      (fun r => (∃ (k : Nat) (g : Granule), r = .ret (g.Index, true) ∧ f.Odd[k]? = some g ∧ p ≤ k ∧ g.Ticks ≠ [] ∧ ∀ (j : Nat) (g' : Granule), f.Odd[j]? = some g' → p ≤ j → j < k → g'.Ticks = []) ∨ (r = .go () ∧ ∀ (j : Nat) (g' : Granule), f.Odd[j]? = some g' → p ≤ j → g'.Ticks = [])) (by
      rintro s ⟨k, rfl, hpk, hk, hn⟩
      unfold gran_step.s0
      by_cases hlt : k < f.Odd.length
      · rw [dec_t (show (k : Int) ≥ 0 by omega), dec_t (show (k : Int) < f.Odd.length by omega), Bool.and_self, cond_true, at?_nat hlt, w64_id (by omega)]
        simp only [Option.bind_some]
        have hget := List.getElem?_eq_getElem hlt
        by_cases hc : f.Odd[k].Ticks = []
        · rw [hc]
          refine .inl ⟨(k : Int) + 1, rfl, ⟨k + 1, by push_cast; rfl, by omega, hlt, fun j g hj hpj hjk => ?_⟩, by simp; omega⟩
          rcases Nat.lt_or_ge j k with h | h
          · exact hn j g hj hpj h
          · have : j = k := by omega
            subst this; rw [hget] at hj; cases hj; exact hc
        · rw [dec_t (show ((f.Odd[k].Ticks.length : Int) > 0) by have := List.length_pos_iff.2 hc; omega), cond_true]
          exact .inr ⟨_, rfl, .inl ⟨k, _, rfl, hget, hpk, hc, hn⟩⟩
      · rw [dec_f (show ¬ (k : Int) < f.Odd.length by omega), Bool.and_false, cond_false]
        refine .inr ⟨_, rfl, .inr ⟨rfl, fun j g hj hpj => hn j g hj hpj ?_⟩⟩
        have := (List.getElem?_eq_some_iff.1 hj).1; omega) (p : Int) ⟨p, rfl, Nat.le_refl _, h1, fun j g _ h h' => by omega⟩
    rw [hr]
    simp only [Option.bind_some]
    rcases hpost with ⟨k, g, rfl, hk, hpk, hne, hn⟩ | ⟨rfl, hn⟩
    · have hset := setAt_odd hs.inc (List.mem_of_getElem? hk)
      have hgi : ¬ g.Index < i := fun h => by have := (h2 k g hk).2 h; omega
      refine ⟨_, rfl, .inl ⟨rfl, by simp only; omega, (hs.odd g (List.mem_of_getElem? hk)).2, by simp only; rw [hset]; exact hne, fun j hij hjg => ?_⟩⟩
      simp only at hjg
      by_cases ho : isOdd f j
      · obtain ⟨k', g', hk', rfl, hiff⟩ := odd_split hs h2 ho
        rw [setAt_odd hs.inc (List.mem_of_getElem? hk')]
        refine hn k' g' hk' ?_ ?_
        · rcases Nat.lt_or_ge k' p with h | h
          · have := hiff.1 h; omega
          · exact h
        · rcases Nat.lt_or_ge k' k with h | h
          · exact h
          · rcases Nat.lt_or_ge k k' with h' | h'
            · have := hs.inc k k' g g' h' hk hk'; omega
            · have : k = k' := by omega
              subst this; rw [hk] at hk'; cases hk'; omega
      · exact setAt_bare hs hbare ho
    · refine ⟨_, rfl, .inr ⟨rfl, rfl, fun j hij _ => ?_⟩⟩
      by_cases ho : isOdd f j
      · obtain ⟨k', g', hk', rfl, hiff⟩ := odd_split hs h2 ho
        rw [setAt_odd hs.inc (List.mem_of_getElem? hk')]
        refine hn k' g' hk' ?_
        rcases Nat.lt_or_ge k' p with h | h
        · have := hiff.1 h; omega
        · exact h
      · exact setAt_bare hs hbare ho
  | false =>
    rw [cond_false]
    obtain ⟨r, hr, hpost⟩ := loopO_inv (step := gran_step.s1 f 1) (I := fun (s : Int) => i ≤ s ∧ s ≤ 1099511627777 ∧ ∀ k, i ≤ k → k < s → setAt f k = []) (fun s => (1099511627777 - s).toNat)
      (fun r => (∃ j, r = .ret (j, true) ∧ i ≤ j ∧ tickP j ∧ setAt f j ≠ [] ∧ ∀ k, i ≤ k → k < j → setAt f k = []) ∨ (r = .go () ∧ ∀ k, i ≤ k → tickP k → setAt f k = [])) (by
      rintro s ⟨hs1, hs2, hn⟩
      unfold gran_step.s1
      rw [inRange_eq]
      by_cases ht : tickP s
      · rw [dec_t ht, cond_true, gran_some_eq hl hs (tick64 ht), w64_id (by unfold tickP at ht; omega)]
        simp only [Option.bind_some]
        by_cases hc : setAt f s = []
        · rw [hc]
          refine .inl ⟨s + 1, by simp, ⟨by omega, by unfold tickP at ht; omega, fun k hk hks => ?_⟩, by unfold tickP at ht; omega⟩
          by_cases h : k = s
          · rw [h]; exact hc
          · exact hn k hk (by omega)
        · rw [dec_t hc, cond_true]
          exact .inr ⟨_, rfl, .inl ⟨s, rfl, hs1, ht, hc, hn⟩⟩
      · rw [dec_f ht, cond_false]
        exact .inr ⟨_, rfl, .inr ⟨rfl, fun k hk htk => hn k hk (by unfold tickP at ht htk; omega)⟩⟩) i ⟨Int.le_refl _, by omega, fun k h h' => by omega⟩
    rw [hr]
    simp only [Option.bind_some]
    rcases hpost with ⟨j, rfl, h1, h2, h3, h4⟩ | ⟨rfl, hn⟩
    · exact ⟨_, rfl, .inl ⟨rfl, h1, h2, h3, h4⟩⟩
    · exact ⟨_, rfl, .inr ⟨rfl, rfl, hn⟩⟩

theorem gran_step_down {f : Form} (hl : Lim f) (hs : Shape f) {i : Int} (hi : -1099511627776 ≤ i ∧ i ≤ 1099511627776) : ∃ r, gran_step f i (-1) = some r ∧ DownTo f i r := by
  have hi64 : In64 i := by unfold In64; omega
  obtain ⟨b, hb, hbb⟩ := gran_bare_eq hl
  have holen := len_lt (b := 31) hl.odd
  unfold gran_step
  rw [hb]
  simp only [Option.bind_some]
  cases b with
  | true =>
    have hbare := hbb.1 rfl
    rw [cond_true]
    obtain ⟨p, h1, h2, h3⟩ := gran_odd_eq hl hs.inc i
    rw [h3]
    -- the number of exceptions up to the index
    obtain ⟨q, hq1, hq2, hq3⟩ : ∃ q : Nat, q ≤ f.Odd.length ∧ (∀ (k : Nat) (g : Granule), f.Odd[k]? = some g → (k < q ↔ g.Index ≤ i)) ∧ ((bif (decide ((-1 : Int) < 0) && !decide (∃ g, f.Odd[p]? = some g ∧ g.Index = i)) then some (w64 ((p : Int) - 1)) else some (p : Int)) : Option Int) = some ((q : Int) - 1) := by
      by_cases he : ∃ g, f.Odd[p]? = some g ∧ g.Index = i
      · obtain ⟨g, hg, hgi⟩ := he
        have hpl := (List.getElem?_eq_some_iff.1 hg).1
        refine ⟨p + 1, by omega, fun k g' hk => ?_, by rw [dec_t (p := ∃ g, f.Odd[p]? = some g ∧ g.Index = i) ⟨g, hg, hgi⟩]; simp⟩
        have := h2 k g' hk
        constructor
        · intro h
          rcases Nat.lt_or_ge k p with h' | h'
          · have := this.1 h'; omega
          · have : k = p := by omega
            subst this; rw [hg] at hk; cases hk; omega
        · intro h
          rcases Nat.lt_or_ge p k with h' | h'
          · have := hs.inc p k g g' h' hg hk; omega
          · omega
      · refine ⟨p, h1, fun k g' hk => ?_, by rw [dec_f (p := ∃ g, f.Odd[p]? = some g ∧ g.Index = i) he, w64_id (by omega)]; simp⟩
        have := h2 k g' hk
        constructor
        · intro h; have := this.1 h; omega
        · intro h
          by_cases hgi : g'.Index = i
          · exfalso
            have hkp : ¬ k < p := fun h' => by have := this.1 h'; omega
            rcases Nat.lt_or_ge p k with h' | h'
            · have hpl : p < f.Odd.length := by have := (List.getElem?_eq_some_iff.1 hk).1; omega
              have h5 := hs.inc p k _ g' h' (List.getElem?_eq_getElem hpl) hk
              have h6 := (h2 p _ (List.getElem?_eq_getElem hpl)).2 (by omega)
              omega
            · have : k = p := by omega
              subst this
              exact he ⟨g', hk, hgi⟩
          · exact this.2 (by omega)
    simp only [Option.bind_some]
    rw [hq3]
    simp only [Option.bind_some]
    obtain ⟨r, hr, hpost⟩ := loopO_inv (step := gran_step.s0 f (-1)) (I := fun (s : Int) => ∃ k : Nat, s = (k : Int) - 1 ∧ k ≤ q ∧ ∀ (j : Nat) (g : Granule), f.Odd[j]? = some g → k ≤ j → j < q → g.Ticks = []) (fun s => (s + 1).toNat)
      (fun r => (∃ (k : Nat) (g : Granule), r = .ret (g.Index, true) ∧ f.Odd[k]? = some g ∧ k < q ∧ g.Ticks ≠ [] ∧ ∀ (j : Nat) (g' : Granule), f.Odd[j]? = some g' → k < j → j < q → g'.Ticks = []) ∨ (r = .go () ∧ ∀ (j : Nat) (g' : Granule), f.Odd[j]? = some g' → j < q → g'.Ticks = [])) (by
      rintro s ⟨k, rfl, hk, hn⟩
      unfold gran_step.s0
      by_cases h0 : 0 < k
      · have hlt : k - 1 < f.Odd.length := by omega
        rw [dec_t (show (k : Int) - 1 ≥ 0 by omega), dec_t (show (k : Int) - 1 < f.Odd.length by omega), Bool.and_self, cond_true, show (k : Int) - 1 = ((k - 1 : Nat) : Int) by omega, at?_nat hlt, w64_id (by omega)]
        simp only [Option.bind_some]
        have hget := List.getElem?_eq_getElem hlt
        by_cases hc : f.Odd[k - 1].Ticks = []
        · rw [hc]
          refine .inl ⟨((k - 1 : Nat) : Int) + -1, rfl, ⟨k - 1, by omega, by omega, fun j g hj hpj hjk => ?_⟩, by simp; omega⟩
          rcases Nat.lt_or_ge j k with h | h
          · have : j = k - 1 := by omega
            subst this; rw [hget] at hj; cases hj; exact hc
          · exact hn j g hj h hjk
        · rw [dec_t (show ((f.Odd[k - 1].Ticks.length : Int) > 0) by have := List.length_pos_iff.2 hc; omega), cond_true]
          exact .inr ⟨_, rfl, .inl ⟨k - 1, _, rfl, hget, by omega, hc, fun j g hj h1 h2 => hn j g hj (by omega) h2⟩⟩
      · rw [dec_f (show ¬ (k : Int) - 1 ≥ 0 by omega), Bool.false_and, cond_false]
        exact .inr ⟨_, rfl, .inr ⟨rfl, fun j g hj hjq => hn j g hj (by omega) hjq⟩⟩) ((q : Int) - 1) ⟨q, rfl, Nat.le_refl _, fun j g _ h h' => by omega⟩
    rw [hr]
    simp only [Option.bind_some]
    rcases hpost with ⟨k, g, rfl, hk, hkq, hne, hn⟩ | ⟨rfl, hn⟩
    · have hset := setAt_odd hs.inc (List.mem_of_getElem? hk)
      have hgi := (hq2 k g hk).1 hkq
      refine ⟨_, rfl, .inl ⟨rfl, hgi, (hs.odd g (List.mem_of_getElem? hk)).2, by simp only; rw [hset]; exact hne, fun j hij hjg => ?_⟩⟩
      simp only at hjg
      by_cases ho : isOdd f j
      · obtain ⟨g', hg', rfl⟩ := ho
        obtain ⟨k', hk'⟩ := List.getElem?_of_mem hg'
        rw [setAt_odd hs.inc hg']
        refine hn k' g' hk' ?_ ((hq2 k' g' hk').2 hij)
        rcases Nat.lt_or_ge k k' with h | h
        · exact h
        · rcases Nat.lt_or_ge k' k with h' | h'
          · have := hs.inc k' k g' g h' hk' hk; omega
          · have : k = k' := by omega
            subst this; rw [hk] at hk'; cases hk'; omega
      · exact setAt_bare hs hbare ho
    · refine ⟨_, rfl, .inr ⟨rfl, rfl, fun j hij _ => ?_⟩⟩
      by_cases ho : isOdd f j
      · obtain ⟨g', hg', rfl⟩ := ho
        obtain ⟨k', hk'⟩ := List.getElem?_of_mem hg'
        rw [setAt_odd hs.inc hg']
        exact hn k' g' hk' ((hq2 k' g' hk').2 hij)
      · exact setAt_bare hs hbare ho
  | false =>
    rw [cond_false]
    obtain ⟨r, hr, hpost⟩ := loopO_inv (step := gran_step.s1 f (-1)) (I := fun (s : Int) => s ≤ i ∧ -1099511627777 ≤ s ∧ ∀ k, k ≤ i → s < k → setAt f k = []) (fun s => (s + 1099511627777).toNat)
      (fun r => (∃ j, r = .ret (j, true) ∧ j ≤ i ∧ tickP j ∧ setAt f j ≠ [] ∧ ∀ k, k ≤ i → j < k → setAt f k = []) ∨ (r = .go () ∧ ∀ k, k ≤ i → tickP k → setAt f k = [])) (by
      rintro s ⟨hs1, hs2, hn⟩
      unfold gran_step.s1
      rw [inRange_eq]
      by_cases ht : tickP s
      · rw [dec_t ht, cond_true, gran_some_eq hl hs (tick64 ht), w64_id (by unfold tickP at ht; omega)]
        simp only [Option.bind_some]
        by_cases hc : setAt f s = []
        · rw [hc]
          refine .inl ⟨s + -1, by simp, ⟨by omega, by unfold tickP at ht; omega, fun k hk hks => ?_⟩, by unfold tickP at ht; omega⟩
          by_cases h : k = s
          · rw [h]; exact hc
          · exact hn k hk (by omega)
        · rw [dec_t hc, cond_true]
          exact .inr ⟨_, rfl, .inl ⟨s, rfl, hs1, ht, hc, hn⟩⟩
      · rw [dec_f ht, cond_false]
        exact .inr ⟨_, rfl, .inr ⟨rfl, fun k hk htk => hn k hk (by unfold tickP at ht htk; omega)⟩⟩) i ⟨Int.le_refl _, by omega, fun k h h' => by omega⟩
    rw [hr]
    simp only [Option.bind_some]
    rcases hpost with ⟨j, rfl, h1, h2, h3, h4⟩ | ⟨rfl, hn⟩
    · exact ⟨_, rfl, .inl ⟨rfl, h1, h2, h3, h4⟩⟩
    · exact ⟨_, rfl, .inr ⟨rfl, rfl, hn⟩⟩

/-- The granule behind an index. -/
def Above (f : Form) (i : Int) (r : Int × Bool) : Prop := (r.2 = true ∧ i < r.1 ∧ tickP r.1 ∧ setAt f r.1 ≠ [] ∧ ∀ k, i < k → k < r.1 → tickP k → setAt f k = []) ∨ (r.2 = false ∧ r.1 = 0 ∧ ∀ k, i < k → tickP k → setAt f k = [])
/-- The granule ahead of it. -/
def Under (f : Form) (i : Int) (r : Int × Bool) : Prop := (r.2 = true ∧ r.1 < i ∧ tickP r.1 ∧ setAt f r.1 ≠ [] ∧ ∀ k, k < i → r.1 < k → tickP k → setAt f k = []) ∨ (r.2 = false ∧ r.1 = 0 ∧ ∀ k, k < i → tickP k → setAt f k = [])

theorem gran_Behind_eq {f : Form} (hl : Lim f) (hs : Shape f) {i : Int} (hi : In64 i) : ∃ r, gran_Behind f i = some r ∧ Above f i r := by
  unfold gran_Behind
  by_cases h : i ≥ 1099511627776
  · rw [dec_t h, cond_true]
    exact ⟨_, rfl, .inr ⟨rfl, rfl, fun k hk ht => by unfold tickP at ht; omega⟩⟩
  · rw [dec_f h, cond_false, w64_id (by unfold In64 at hi; omega)]
    have hm : iMax (i + 1) (-1099511627776) = max (i + 1) (-1099511627776) := by unfold iMax; omega
    rw [hm]
    obtain ⟨r, h1, h2⟩ := gran_step_up hl hs (i := max (i + 1) (-1099511627776)) (by omega)
    rw [h1]
    refine ⟨r, rfl, ?_⟩
    rcases h2 with ⟨a, b, c, d, e⟩ | ⟨a, b, e⟩
    · exact .inl ⟨a, by omega, c, d, fun k hk hkr ht => e k (by unfold tickP at ht; omega) hkr⟩
    · exact .inr ⟨a, b, fun k hk ht => e k (by have := ht; unfold tickP at this; omega) ht⟩

theorem gran_Before_eq {f : Form} (hl : Lim f) (hs : Shape f) {i : Int} (hi : In64 i) : ∃ r, gran_Before f i = some r ∧ Under f i r := by
  unfold gran_Before
  by_cases h : i ≤ -1099511627776
  · rw [dec_t h, cond_true]
    exact ⟨_, rfl, .inr ⟨rfl, rfl, fun k hk ht => by unfold tickP at ht; omega⟩⟩
  · rw [dec_f h, cond_false, w64_id (by unfold In64 at hi; omega)]
    have hm : iMin (i - 1) 1099511627776 = min (i - 1) 1099511627776 := by unfold iMin; omega
    rw [hm]
    obtain ⟨r, h1, h2⟩ := gran_step_down hl hs (i := min (i - 1) 1099511627776) (by omega)
    rw [h1]
    refine ⟨r, rfl, ?_⟩
    rcases h2 with ⟨a, b, c, d, e⟩ | ⟨a, b, e⟩
    · exact .inl ⟨a, by omega, c, d, fun k hk hkr ht => e k (by unfold tickP at ht; omega) hkr⟩
    · exact .inr ⟨a, b, fun k hk ht => e k (by have := ht; unfold tickP at this; omega) ht⟩

end Go.Dn
