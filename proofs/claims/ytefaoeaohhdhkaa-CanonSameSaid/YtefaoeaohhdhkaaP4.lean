/- Forms, in plain terms: which are right; what is next to an index. -/
import Derived.Test.YtefaoeaohhdhkaaP3
set_option linter.unusedVariables false
set_option linter.unusedSimpArgs false
namespace Go.Dn
open Go

theorem len_lt {α : Type} {l : List α} {b : Nat} (h : l.length * (b + 1) ≤ reachBytes) : (l.length : Int) < 4611686018427387904 := by
  have := reach_eq
  have : l.length ≤ l.length * (b + 1) := Nat.le_mul_of_pos_right _ (by omega)
  omega

theorem nat_at {α : Type} {l : List α} {k : Nat} {x : α} (h : l[k]? = some x) : at? l (k : Int) = some x ∧ (k : Int) < l.length := by
  have hlt := (List.getElem?_eq_some_iff.1 h).1
  rw [List.getElem?_eq_getElem hlt] at h
  exact ⟨by rw [at?_nat hlt]; exact h, by omega⟩

/-! ### Numbers, sets and indexes -/
theorem shape_core {f : Form} (hl : Lim f) : (loopO (gran_shape.s0 f) 0 = some (.go ()) ∧ ∀ l ∈ f.Core, RightL l) ∨ (loopO (gran_shape.s0 f) 0 = some (.ret false) ∧ ¬ ∀ l ∈ f.Core, RightL l) := by
  have hlen := len_lt (b := 23) hl.core
  rcases all_loop (l := f.Core) (step := gran_shape.s0 f) (fun _ x => RightL x) (no := .ret false) (yes := .go ()) (fun k x hk _ => by
      obtain ⟨h1, h2⟩ := nat_at hk
      obtain ⟨b, hb, hr⟩ := spans_Right_eq (hl.sets x (List.mem_of_getElem? hk)).1 (hl.sets x (List.mem_of_getElem? hk)).2
      unfold gran_shape.s0
      rw [dec_t h2, cond_true, h1]
      simp only [Option.bind_some, hb, w64_id (show -9223372036854775808 ≤ (k : Int) + 1 ∧ (k : Int) + 1 ≤ 9223372036854775807 by omega)]
      cases b
      · exact .inr ⟨rfl, fun h => by have := hr.2 h; cases this⟩
      · exact .inl ⟨rfl, hr.1 rfl⟩) (by unfold gran_shape.s0; rw [dec_f (by omega)]; rfl) with ⟨h1, h2⟩ | ⟨h1, h2⟩
  · exact .inl ⟨h1, fun l hm => by obtain ⟨k, hk⟩ := List.getElem?_of_mem hm; exact h2 k l hk⟩
  · exact .inr ⟨h1, fun h => h2 fun k x hk => h x (List.mem_of_getElem? hk)⟩

def goodOdd (f : Form) (k : Nat) (g : Granule) : Prop := RightL g.Ticks ∧ tickP g.Index ∧ ∀ p, k ≠ 0 → f.Odd[k - 1]? = some p → p.Index < g.Index

theorem shape_odd {f : Form} (hl : Lim f) : (loopO (gran_shape.s1 f) 0 = some (.go ()) ∧ ∀ k g, f.Odd[k]? = some g → goodOdd f k g) ∨ (loopO (gran_shape.s1 f) 0 = some (.ret false) ∧ ¬ ∀ k g, f.Odd[k]? = some g → goodOdd f k g) := by
  have hlen := len_lt (b := 31) hl.odd
  refine all_loop (l := f.Odd) (step := gran_shape.s1 f) (goodOdd f) (no := .ret false) (yes := .go ()) (fun k x hk _ => ?_) (by unfold gran_shape.s1; rw [dec_f (by omega)]; rfl)
  obtain ⟨h1, h2⟩ := nat_at hk
  have hx := hl.ticks x (List.mem_of_getElem? hk)
  obtain ⟨b, hb, hr⟩ := spans_Right_eq hx.2.1 hx.2.2
  unfold gran_shape.s1
  rw [dec_t h2, cond_true, h1]
  simp only [Option.bind_some, hb, inRange_eq, w64_id (show -9223372036854775808 ≤ (k : Int) + 1 ∧ (k : Int) + 1 ≤ 9223372036854775807 by omega)]
  by_cases hbt : b = true ∧ tickP x.Index
  · rw [hbt.1, dec_t hbt.2]
    simp only [Bool.not_true, Bool.or_self, cond_false]
    by_cases h0 : k = 0
    · subst h0
      exact .inl ⟨by simp, hr.1 hbt.1, hbt.2, fun p h => absurd rfl h⟩
    · have hpl : k - 1 < f.Odd.length := by omega
      rw [dec_t (show (k : Int) > 0 by omega), cond_true, w64_id (by omega), show (k : Int) - 1 = ((k - 1 : Nat) : Int) by omega, at?_nat hpl]
      simp only [Option.bind_some]
      by_cases hc : x.Index ≤ f.Odd[k - 1].Index
      · rw [dec_t hc]
        refine .inr ⟨rfl, fun h => ?_⟩
        have := h.2.2 _ h0 (List.getElem?_eq_getElem hpl); omega
      · rw [dec_f hc]
        refine .inl ⟨rfl, hr.1 hbt.1, hbt.2, fun p _ hp => ?_⟩
        rw [List.getElem?_eq_getElem hpl] at hp; cases hp; omega
  · have : (!b || !decide (tickP x.Index)) = true := by
      cases b
      · rfl
      · rw [dec_f (fun h => hbt ⟨rfl, h⟩)]; rfl
    rw [this, cond_true]
    exact .inr ⟨rfl, fun h => hbt ⟨hr.2 h.1, h.2.1⟩⟩

theorem inc_of {f : Form} (h : ∀ k g, f.Odd[k]? = some g → goodOdd f k g) : Inc f.Odd := by
  intro j k a b hjk ha hb
  induction k generalizing b with
  | zero => omega
  | succ k ih =>
    have hkl := (List.getElem?_eq_some_iff.1 hb).1
    have h1 := (h (k + 1) b hb).2.2 f.Odd[k] (by omega) (by simp [List.getElem?_eq_getElem (show k < f.Odd.length by omega)])
    rcases Nat.lt_or_ge j k with h2 | h2
    · have := ih _ h2 (List.getElem?_eq_getElem (show k < f.Odd.length by omega)); omega
    · have : j = k := by omega
      subst this
      rw [List.getElem?_eq_getElem (show j < f.Odd.length by omega)] at ha; cases ha; exact h1

theorem gran_shape_eq {f : Form} (hl : Lim f) : ∃ b, gran_shape f = some b ∧ (b = true ↔ Shape f) := by
  unfold gran_shape
  by_cases h1 : f.Count = f.Core.length ∧ (f.Count = 0 ↔ f.Period = 0) ∧ 0 ≤ f.Period ∧ f.Period ≤ 1099511627776
  · have e : (f.Count != (f.Core.length : Int) || (f.Count == 0) != (f.Period == 0) || decide (f.Period < 0) || decide (f.Period > 1099511627776)) = false := by
      rw [bne_f h1.1, dec_f (show ¬ f.Period < 0 by omega), dec_f (show ¬ f.Period > 1099511627776 by omega)]
      simp only [Bool.false_or, Bool.or_false, bne_eq_false_iff_eq, ibeq, decide_eq_decide]
      exact h1.2.1
    rw [e, cond_false]
    rcases shape_core hl with ⟨h2, h3⟩ | ⟨h2, h3⟩
    · rw [h2]
      simp only [Option.bind_some, Jx.elim]
      rcases shape_odd hl with ⟨h4, h5⟩ | ⟨h4, h5⟩
      · rw [h4]
        exact ⟨true, rfl, fun _ => ⟨h1.1, h1.2.1, h1.2.2, h3, fun g hg => by obtain ⟨k, hk⟩ := List.getElem?_of_mem hg; exact ⟨(h5 k g hk).1, (h5 k g hk).2.1⟩, inc_of h5⟩, fun _ => rfl⟩
      · rw [h4]
        refine ⟨false, rfl, fun h => (by cases h), fun h => absurd (fun k g hk => ⟨(h.odd g (List.mem_of_getElem? hk)).1, (h.odd g (List.mem_of_getElem? hk)).2, fun p h0 hp => h.inc (k - 1) k p g (by omega) hp hk⟩) h5⟩
    · rw [h2]
      exact ⟨false, rfl, fun h => (by cases h), fun h => absurd h.core h3⟩
  · have e : (f.Count != (f.Core.length : Int) || (f.Count == 0) != (f.Period == 0) || decide (f.Period < 0) || decide (f.Period > 1099511627776)) = true := by
      apply Classical.byContradiction
      intro hn
      simp only [Bool.not_eq_true, Bool.or_eq_false_iff, bne_eq_false_iff_eq, decide_eq_false_iff_not, ibeq, decide_eq_decide] at hn
      exact h1 ⟨hn.1.1.1, hn.1.1.2, by omega, by omega⟩
    rw [e, cond_true]
    exact ⟨false, rfl, fun h => (by cases h), fun h => absurd ⟨h.count, h.zero, h.per⟩ h1⟩

/-! ### The core's order -/
def fstT (l : List Span) : Int := (l.head?.map Span.From).getD 0
def lstT (l : List Span) : Int := (l.getLast?.map Span.To).getD 0

theorem aheadL_iff {a b : List Span} (ha : a ≠ []) (hb : b ≠ []) : AheadL a b ↔ lstT a < fstT b := by
  unfold AheadL lstT fstT
  rw [List.getLast?_eq_some_getLast ha, List.head?_eq_some_head hb]
  simp

theorem RightL.tail {s : Span} {l : List Span} (h : RightL (s :: l)) : RightL l :=
  ⟨fun k x hk => h.ok (k + 1) x hk, fun k x y hx hy => h.gap (k + 1) x y hx hy⟩

theorem fst_le_lst {l : List Span} (h : RightL l) (hn : l ≠ []) : fstT l ≤ lstT l := by
  induction l with
  | nil => exact absurd rfl hn
  | cons s l ih =>
    have h0 := h.ok 0 s rfl
    cases l with
    | nil => simp [fstT, lstT]; exact h0.2.2
    | cons t l =>
      have h1 := h.gap 0 s t rfl rfl
      have h2 := ih h.tail (by simp)
      have e1 : lstT (s :: t :: l) = lstT (t :: l) := by simp [lstT]
      have e2 : fstT (t :: l) = t.From := rfl
      have e3 : fstT (s :: t :: l) = s.From := rfl
      rw [e1, e3]; rw [e2] at h2; omega

theorem lst_tick {l : List Span} (h : RightL l) (hn : l ≠ []) : tickP (lstT l) ∧ tickP (fstT l) := by
  have h1 : l.getLast? = some (l.getLast hn) := List.getLast?_eq_some_getLast hn
  have h2 : l.head? = some (l.head hn) := List.head?_eq_some_head hn
  obtain ⟨j, hj⟩ := List.getElem?_of_mem (List.getLast_mem hn)
  obtain ⟨k, hk⟩ := List.getElem?_of_mem (List.head_mem hn)
  unfold lstT fstT
  rw [h1, h2]
  exact ⟨(h.ok j _ hj).2.1, (h.ok k _ hk).1⟩

def full (f : Form) : List (List Span) := f.Core.filter (fun l => decide (l.length > 0))
/-- The core's granules are in order, from one period to the next, too. -/
def Turns (f : Form) : Prop := (∀ (k : Nat) (a b : List Span), (full f)[k]? = some a → (full f)[k + 1]? = some b → lstT a < fstT b) ∧ ∀ a b, (full f).getLast? = some a → (full f).head? = some b → lstT a < fstT b + f.Period

theorem full_loop {f : Form} (hl : Lim f) : loopO (gran_turns.s0 f) (0, []) = some (full f) := by
  have hlen := len_lt (b := 23) hl.core
  refine loopO_val (I := fun s r => r = full f ∧ ∃ k : Nat, k ≤ f.Core.length ∧ s = ((k : Int), (f.Core.take k).filter (fun l => decide (l.length > 0)))) (fun s => f.Core.length - s.1.toNat) ?_ ⟨rfl, 0, Nat.zero_le _, by simp⟩
  rintro s r ⟨rfl, k, hk, rfl⟩
  unfold gran_turns.s0
  by_cases hlt : k < f.Core.length
  · have htake : f.Core.take (k + 1) = f.Core.take k ++ [f.Core[k]] := List.take_succ_eq_append_getElem hlt
    simp only
    rw [dec_t (show (k : Int) < f.Core.length by omega), cond_true, at?_nat hlt, w64_id (by omega)]
    simp only [Option.bind_some]
    refine .inl ?_
    have hfl : ((f.Core.take k).filter (fun l => decide (l.length > 0))).length ≤ k := Nat.le_trans (List.length_filter_le _ _) (by rw [List.length_take]; exact Nat.min_le_left _ _)
    by_cases hc : f.Core[k].length > 0
    · rw [dec_t (show ((f.Core[k].length : Int) > 0) by omega), cond_true, app?_ok (by have h1 := hl.core; rw [reach_eq] at h1; rw [room_eq]; simp only [List.length_singleton]; omega)]
      exact ⟨_, rfl, ⟨trivial, k + 1, hlt, by rw [htake, List.filter_append]; simp [hc]⟩, by simp; omega⟩
    · rw [dec_f (show ¬ ((f.Core[k].length : Int) > 0) by omega), cond_false]
      exact ⟨_, rfl, ⟨trivial, k + 1, hlt, by rw [htake, List.filter_append]; simp [hc]⟩, by simp; omega⟩
  · have : k = f.Core.length := by omega
    subst this
    simp only
    rw [dec_f (show ¬ ((f.Core.length : Int) < f.Core.length) by omega), cond_false, List.take_length]
    exact .inr rfl

theorem gran_turns_eq {f : Form} (hl : Lim f) (hs : Shape f) : ∃ b, gran_turns f = some b ∧ (b = true ↔ Turns f) := by
  have hlen := len_lt (b := 23) hl.core
  have hfl : (full f).length ≤ f.Core.length := List.length_filter_le _ _
  have hmem : ∀ x ∈ full f, x ∈ f.Core ∧ x ≠ [] := fun x hx => by
    have := List.mem_filter.1 hx
    exact ⟨this.1, by rintro rfl; simp at this⟩
  unfold gran_turns
  rw [full_loop hl]
  simp only [Option.bind_some]
  rcases all_loop (l := full f) (step := gran_turns.s1 f (full f)) (fun k a => ∀ b, (full f)[(k + 1) % (full f).length]? = some b → lstT a < fstT b + (if k + 1 = (full f).length then f.Period else 0)) (no := .ret false) (yes := .go ()) (fun k a hk _ => by
      obtain ⟨h1, h2⟩ := nat_at hk
      have hkl : k < (full f).length := by omega
      have hmod : (k + 1) % (full f).length < (full f).length := Nat.mod_lt _ (by omega)
      have hnext : at? (full f) ((((k + 1) % (full f).length : Nat) : Int)) = some (full f)[(k + 1) % (full f).length] := at?_nat hmod
      obtain ⟨ha1, ha2⟩ := hmem a (List.mem_of_getElem? hk)
      obtain ⟨hb1, hb2⟩ := hmem _ (List.getElem_mem hmod)
      have hra := hs.core a ha1
      have hrb := hs.core _ hb1
      have hal : a.length - 1 < a.length := by have := List.length_pos_iff.2 ha2; omega
      have hlast : at? a (w64 ((a.length : Int) - 1)) = some a[a.length - 1] := by
        have := len_lt (b := 15) (hl.sets a ha1).1
        rw [w64_id (by omega), show (a.length : Int) - 1 = ((a.length - 1 : Nat) : Int) by omega, at?_nat hal]
      have hlt : lstT a = a[a.length - 1].To := by unfold lstT; rw [List.getLast?_eq_getElem?, List.getElem?_eq_getElem hal]; rfl
      unfold gran_turns.s1
      rw [dec_t h2, cond_true, h1, nz?_ok (by omega), w64_id (x := (k : Int) + 1) (by omega)]
      have htm : ((k : Int) + 1).tmod ((full f).length : Int) = (((k + 1) % (full f).length : Nat) : Int) := by
        rw [Int.tmod_eq_emod_of_nonneg (by omega)]; push_cast; rfl
      simp only [Option.bind_some, htm, hnext, hlast]
      rw [List.getElem?_eq_getElem hmod]
      generalize (full f)[(k + 1) % (full f).length] = b at *
      have hb0 : at? b 0 = some (b.head hb2) := by
        cases b with
        | nil => exact absurd rfl hb2
        | cons y b => rfl
      have hbf : fstT b = (b.head hb2).From := by unfold fstT; rw [List.head?_eq_some_head hb2]; rfl
      have htick := (lst_tick hrb hb2).2
      unfold tickP at htick
      have hper := hs.per
      by_cases hl1 : k + 1 = (full f).length
      · have e : ((k : Int) + 1 == ((full f).length : Int)) = true := beq_t (by omega)
        rw [e, cond_true]
        simp only [Option.bind_some, hb0, ← hbf, w64_id (show -9223372036854775808 ≤ fstT b + f.Period ∧ fstT b + f.Period ≤ 9223372036854775807 by omega), ← hlt, if_pos hl1]
        by_cases hc : lstT a ≥ fstT b + f.Period
        · rw [dec_t hc]; exact .inr ⟨rfl, fun h => by have := h b rfl; omega⟩
        · rw [dec_f hc]; exact .inl ⟨rfl, fun b' hb' => by cases hb'; omega⟩
      · have e : ((k : Int) + 1 == ((full f).length : Int)) = false := beq_f (by omega)
        rw [e, cond_false]
        simp only [Option.bind_some, hb0, ← hbf, w64_id (show -9223372036854775808 ≤ fstT b + 0 ∧ fstT b + 0 ≤ 9223372036854775807 by omega), ← hlt, if_neg hl1]
        by_cases hc : lstT a ≥ fstT b + 0
        · rw [dec_t hc]; exact .inr ⟨rfl, fun h => by have := h b rfl; omega⟩
        · rw [dec_f hc]; exact .inl ⟨rfl, fun b' hb' => by cases hb'; omega⟩) (by unfold gran_turns.s1; rw [dec_f (by omega)]; rfl) with ⟨h1, h2⟩ | ⟨h1, h2⟩
  · rw [h1]
    refine ⟨true, rfl, fun _ => ⟨fun k a b ha hb => ?_, fun a b ha hb => ?_⟩, fun _ => rfl⟩
    · have hkl := (List.getElem?_eq_some_iff.1 hb).1
      have := h2 k a ha b (by rw [Nat.mod_eq_of_lt hkl]; exact hb)
      rw [if_neg (by omega)] at this; omega
    · have hn : full f ≠ [] := by rintro e; rw [e] at ha; simp at ha
      have hpos := List.length_pos_iff.2 hn
      rw [List.getLast?_eq_getElem?] at ha
      have e1 : (full f).length - 1 + 1 = (full f).length := by omega
      have := h2 _ a ha b (by rw [e1, Nat.mod_self, ← List.head?_eq_getElem?]; exact hb)
      rw [if_pos e1] at this; exact this
  · rw [h1]
    refine ⟨false, rfl, fun h => (by cases h), fun h => absurd (fun k a hk b hb => ?_) h2⟩
    have hkl := (List.getElem?_eq_some_iff.1 hk).1
    by_cases hl1 : k + 1 = (full f).length
    · rw [if_pos hl1]
      rw [hl1, Nat.mod_self, ← List.head?_eq_getElem?] at hb
      exact h.2 a b (by rw [List.getLast?_eq_getElem?, ← hl1]; exact hk) hb
    · rw [if_neg hl1]
      rw [Nat.mod_eq_of_lt (by omega)] at hb
      have := h.1 k a b hk hb; omega

end Go.Dn
