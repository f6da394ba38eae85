/- Sets of spans, in plain terms. -/
import Derived.Test.YtefaoeaohhdhkaaP1
set_option linter.unusedVariables false
set_option linter.unusedSimpArgs false
namespace Go.Dn
open Go

theorem reach_eq : reachBytes = 140737488351232 := rfl

def tickP (t : Int) : Prop := -1099511627776 ≤ t ∧ t ≤ 1099511627776
instance (t : Int) : Decidable (tickP t) := by unfold tickP; infer_instance
theorem spans_tick_eq (t : Int) : spans_tick t = decide (tickP t) := by
  rw [Bool.eq_iff_iff, decide_eq_true_iff]; simp [spans_tick, tickP]
theorem inRange_eq (t : Int) : gran_inRange t = decide (tickP t) := by
  rw [Bool.eq_iff_iff, decide_eq_true_iff]; simp [gran_inRange, tickP]
theorem tick64 {t : Int} (h : tickP t) : In64 t := by unfold tickP at h; unfold In64; omega

/-- A right set. -/
structure RightL (l : List Span) : Prop where
  ok : ∀ (k : Nat) (s : Span), l[k]? = some s → tickP s.From ∧ tickP s.To ∧ s.From ≤ s.To
  gap : ∀ (k : Nat) (s t : Span), l[k]? = some s → l[k + 1]? = some t → s.To + 2 ≤ t.From

/-- What arguments bear: lists that are not too long, numbers of 64 bits. -/
abbrev Len (l : List Span) : Prop := l.length * 16 ≤ reachBytes
abbrev Sp64 (l : List Span) : Prop := ∀ s ∈ l, In64 s.From ∧ In64 s.To

theorem Span.ok64 {s : Span} (h : s.ok) : In64 s.From ∧ In64 s.To := h
theorem okSpans {l : List Span} (h : okL 16 Span.ok l) : Len l ∧ Sp64 l := ⟨h.1, fun s hs => Span.ok64 (h.2 s hs)⟩
theorem RightL.sp64 {l : List Span} (h : RightL l) : Sp64 l := fun s hs => by
  obtain ⟨k, hk⟩ := List.getElem?_of_mem hs
  have := h.ok k s hk
  exact ⟨tick64 this.1, tick64 this.2.1⟩

def goodSpan (l : List Span) (k : Nat) (s : Span) : Prop := tickP s.From ∧ tickP s.To ∧ s.From ≤ s.To ∧ ∀ p, k ≠ 0 → l[k - 1]? = some p → p.To + 2 ≤ s.From

theorem rightL_iff {l : List Span} : RightL l ↔ ∀ k s, l[k]? = some s → goodSpan l k s := by
  constructor
  · intro h k s hk
    obtain ⟨h1, h2, h3⟩ := h.ok k s hk
    refine ⟨h1, h2, h3, fun p h0 hp => ?_⟩
    have : k - 1 + 1 = k := by omega
    exact h.gap (k - 1) p s hp (by rw [this]; exact hk)
  · intro h
    refine ⟨fun k s hk => ⟨(h k s hk).1, (h k s hk).2.1, (h k s hk).2.2.1⟩, fun k s t hs ht => (h (k + 1) t ht).2.2.2 s (by omega) (by simpa using hs)⟩

theorem spans_Right_eq {l : List Span} (hl : Len l) (h64 : Sp64 l) : ∃ b, spans_Right l = some b ∧ (b = true ↔ RightL l) := by
  have hlen : l.length ≤ maxLen := by rw [maxLen_eq]; have := reach_eq; unfold Len at hl; omega
  have step : ∀ (k : Nat) (s : Span), l[k]? = some s → (∀ j y, j < k → l[j]? = some y → goodSpan l j y) → ∃ b, spans_Right.s0 l (k : Int) = (if b = true then some (.inl ((k : Int) + 1)) else some (.inr (.ret false))) ∧ (b = true ↔ goodSpan l k s) := by
    intro k s hk hprev
    have hlt := (List.getElem?_eq_some_iff.1 hk).1
    have hat : at? l (k : Int) = some s := by rw [at?_nat hlt]; rw [List.getElem?_eq_getElem hlt] at hk; exact hk
    unfold spans_Right.s0
    rw [dec_t (show (k : Int) < l.length by omega), cond_true, hat]
    simp only [Option.bind_some, spans_tick_eq]
    have hk1 : w64 ((k : Int) + 1) = k + 1 := w64_id (by rw [maxLen_eq] at hlen; omega)
    by_cases h1 : tickP s.From ∧ tickP s.To ∧ s.From ≤ s.To
    · have : (!decide (tickP s.From) || !decide (tickP s.To) || decide (s.From > s.To)) = false := by
        rw [dec_t h1.1, dec_t h1.2.1, dec_f (by omega)]; rfl
      rw [this, cond_false]
      by_cases h0 : k = 0
      · subst h0
        refine ⟨true, by simp [w64]; rw [wrap_i64]; rfl, by simp [goodSpan, h1]⟩
      · have hk0 : (k : Int) > 0 := by omega
        have hpl : k - 1 < l.length := by omega
        have hp : at? l (w64 ((k : Int) - 1)) = some l[k - 1] := by
          rw [w64_id (by rw [maxLen_eq] at hlen; omega), show ((k : Int) - 1) = ((k - 1 : Nat) : Int) by omega, at?_nat hpl]
        have hpg := hprev (k - 1) _ (by omega) (List.getElem?_eq_getElem hpl)
        have hpt : w64 (l[k - 1].To + 2) = l[k - 1].To + 2 := by
          have := hpg.2.1; unfold tickP at this; exact w64_id (by omega)
        rw [dec_t hk0, cond_true, hp]
        simp only [Option.bind_some, hpt]
        refine ⟨!decide (s.From < l[k - 1].To + 2), ?_, ?_⟩
        · cases hd : decide (s.From < l[k - 1].To + 2) <;> simp [hk1]
        · simp only [Bool.not_eq_true', decide_eq_false_iff_not, goodSpan]
          constructor
          · intro h; refine ⟨h1.1, h1.2.1, h1.2.2, fun p _ hp' => ?_⟩
            rw [List.getElem?_eq_getElem hpl] at hp'; cases hp'; omega
          · intro h; have := h.2.2.2 _ h0 (List.getElem?_eq_getElem hpl); omega
    · refine ⟨false, ?_, by simp only [Bool.false_eq_true, goodSpan, false_iff]; intro h; exact h1 ⟨h.1, h.2.1, h.2.2.1⟩⟩
      have : (!decide (tickP s.From) || !decide (tickP s.To) || decide (s.From > s.To)) = true := by
        by_cases a1 : tickP s.From
        · by_cases a2 : tickP s.To
          · have a3 : s.From > s.To := by
              apply Classical.byContradiction
              intro h
              exact h1 ⟨a1, a2, by omega⟩
            rw [dec_t a3]; simp
          · rw [dec_f a2]; simp
        · rw [dec_f a1]; simp
      rw [this]; rfl
  unfold spans_Right
  rcases all_loop (l := l) (step := spans_Right.s0 l) (goodSpan l) (no := .ret false) (yes := .go ()) (fun k x hk hp => by
      obtain ⟨b, h1, h2⟩ := step k x hk hp
      cases b
      · exact .inr ⟨h1, fun h => by have := h2.2 h; cases this⟩
      · exact .inl ⟨h1, h2.1 rfl⟩) (by
      unfold spans_Right.s0; rw [dec_f (by omega)]; rfl) with ⟨h1, h2⟩ | ⟨h1, h2⟩
  · rw [h1]; exact ⟨true, rfl, by simp [rightL_iff.2 h2]⟩
  · rw [h1]; exact ⟨false, rfl, by simp only [Bool.false_eq_true, false_iff]; exact fun h => h2 (rightL_iff.1 h)⟩


/-! ### Moved, ahead, the same -/
def shiftS (by_ : Int) (s : Span) : Span := ⟨s.From + by_, s.To + by_⟩

theorem spans_Move_eq {l : List Span} {b : Int} (hl : Len l) (h64 : Sp64 l) (hb : In64 b) :
    ((∀ s ∈ l, tickP (s.From + b) ∧ tickP (s.To + b)) ∧ spans_Move l b = some (l.map (shiftS b), 0)) ∨ ((¬ ∀ s ∈ l, tickP (s.From + b) ∧ tickP (s.To + b)) ∧ spans_Move l b = some ([], 20)) := by
  have hlen : (l.length : Int) < 9223372036854775807 := by have := reach_eq; unfold Len at hl; omega
  have step : ∀ (k : Nat) (s : Span) (acc : List Span), l[k]? = some s → acc.length = k → spans_Move.s0 l b ((k : Int), acc) = if tickP (s.From + b) ∧ tickP (s.To + b) then some (.inl ((k : Int) + 1, acc ++ [shiftS b s])) else some (.inr (.ret ([], 20))) := by
    intro k s acc hk hacc
    have hlt := (List.getElem?_eq_some_iff.1 hk).1
    have hat : at? l (k : Int) = some s := by rw [at?_nat hlt]; rw [List.getElem?_eq_getElem hlt] at hk; exact hk
    obtain ⟨f64, t64⟩ := h64 s (List.mem_of_getElem? hk)
    unfold spans_Move.s0
    rw [dec_t (show (k : Int) < l.length by omega), cond_true, hat]
    simp only [Option.bind_some]
    rw [safe_Add_eq f64 hb, safe_Add_eq t64 hb, spans_tick_eq, spans_tick_eq]
    have hk1 : w64 ((k : Int) + 1) = k + 1 := w64_id (by omega)
    have happ : ∀ x : Span, app? 16 acc [x] = some (acc ++ [x]) := fun x => app?_ok (by
      have := reach_eq; have := room_eq; unfold Len at hl; simp; omega)
    rcases fit_or (s.From + b) with ⟨q1, q2⟩ | ⟨q1, q2⟩ <;> rcases fit_or (s.To + b) with ⟨q3, q4⟩ | ⟨q3, q4⟩ <;> rw [q2, q4]
    · by_cases h : tickP (s.From + b) ∧ tickP (s.To + b)
      · rw [if_pos h, dec_t h.1, dec_t h.2]
        simp [happ, hk1, shiftS]
      · rw [if_neg h]
        have : (!decide (tickP (s.From + b)) || !decide (tickP (s.To + b))) = true := by
          by_cases h1 : tickP (s.From + b)
          · rw [dec_f (fun h2 => h ⟨h1, h2⟩)]; simp
          · rw [dec_f h1]; simp
        simp only [bne_self_eq_false, Bool.false_or, Bool.or_assoc] at this ⊢
        rw [this]; rfl
    · rw [if_neg (fun h => q3 (tick64 h.2))]; rfl
    · rw [if_neg (fun h => q1 (tick64 h.1))]; rfl
    · rw [if_neg (fun h => q1 (tick64 h.1))]; rfl
  have hend : ∀ acc, spans_Move.s0 l b ((l.length : Int), acc) = some (.inr (.go acc)) := fun acc => by unfold spans_Move.s0; rw [dec_f (by omega)]; rfl
  unfold spans_Move
  by_cases hall : ∀ s ∈ l, tickP (s.From + b) ∧ tickP (s.To + b)
  · refine .inl ⟨hall, ?_⟩
    have : loopO (spans_Move.s0 l b) (0, []) = some (.go (l.map (shiftS b))) := by
      refine loopO_val (I := fun (s : Int × List Span) r => r = .go (l.map (shiftS b)) ∧ ∃ k : Nat, k ≤ l.length ∧ s = ((k : Int), (l.take k).map (shiftS b))) (fun s => l.length - s.1.toNat) ?_ ⟨rfl, 0, Nat.zero_le _, by simp⟩
      rintro s r ⟨rfl, k, hk, rfl⟩
      by_cases hlt : k < l.length
      · refine .inl ⟨_, by rw [step k l[k] _ (List.getElem?_eq_getElem hlt) (by simp; omega), if_pos (hall _ (List.getElem_mem hlt))], ⟨rfl, k + 1, hlt, ?_⟩, by simp; omega⟩
        rw [List.take_succ_eq_append_getElem hlt, List.map_append]; push_cast; rfl
      · have : k = l.length := by omega
        subst this
        rw [List.take_length]
        exact .inr (hend _)
    rw [this]; rfl
  · refine .inr ⟨hall, ?_⟩
    obtain ⟨k0, s0, hk0, hb0, hg⟩ := first_bad (l := l) (good := fun _ s => tickP (s.From + b) ∧ tickP (s.To + b)) (fun h => hall fun s hs => by
      obtain ⟨k, hk⟩ := List.getElem?_of_mem hs; exact h k s hk)
    have hlt0 := (List.getElem?_eq_some_iff.1 hk0).1
    have : loopO (spans_Move.s0 l b) (0, []) = some (.ret ([], 20)) := by
      refine loopO_val (I := fun (s : Int × List Span) r => r = .ret ([], 20) ∧ ∃ k : Nat, k ≤ k0 ∧ s.1 = (k : Int) ∧ s.2.length = k) (fun s => l.length - s.1.toNat) ?_ ⟨rfl, 0, Nat.zero_le _, rfl, rfl⟩
      rintro ⟨i, acc⟩ r ⟨rfl, k, hk, h1, h2⟩
      simp only at h1 h2
      subst h1
      by_cases hlt : k < k0
      · have hkl : k < l.length := by omega
        exact .inl ⟨_, by rw [step k l[k] _ (List.getElem?_eq_getElem hkl) h2, if_pos (hg k _ hlt (List.getElem?_eq_getElem hkl))], ⟨rfl, k + 1, hlt, by push_cast; rfl, by simp; omega⟩, by simp; omega⟩
      · have : k = k0 := by omega
        subst this
        exact .inr (by rw [step k s0 _ hk0 h2, if_neg hb0])
    rw [this]; rfl

theorem RightL.shift {l : List Span} {b : Int} (h : RightL l) (ht : ∀ s ∈ l, tickP (s.From + b) ∧ tickP (s.To + b)) : RightL (l.map (shiftS b)) := by
  constructor
  · intro k s hk
    rw [List.getElem?_map, Option.map_eq_some_iff] at hk
    obtain ⟨s, hk, rfl⟩ := hk
    have h1 := h.ok k s hk
    have h2 := ht s (List.mem_of_getElem? hk)
    exact ⟨h2.1, h2.2, by simp only [shiftS]; omega⟩
  · intro k s t hk hk1
    rw [List.getElem?_map, Option.map_eq_some_iff] at hk hk1
    obtain ⟨s, hk, rfl⟩ := hk
    obtain ⟨t, hk1, rfl⟩ := hk1
    have := h.gap k s t hk hk1
    simp only [shiftS]; omega

/-- Each tick of one below each of the other. -/
def AheadL (a b : List Span) : Prop := ∀ x, a.getLast? = some x → ∀ y, b.head? = some y → x.To < y.From

theorem spans_Ahead_eq {a b : List Span} (ha : Len a) : ∃ r, spans_Ahead a b = some r ∧ (r = true ↔ AheadL a b) := by
  unfold spans_Ahead
  cases a with
  | nil => exact ⟨true, by simp, by simp [AheadL]⟩
  | cons x a =>
    cases b with
    | nil => exact ⟨true, by simp, by simp [AheadL]⟩
    | cons y b =>
      have hl : ((x :: a).length : Int) < 9223372036854775807 := by have := reach_eq; unfold Len at ha; omega
      have e1 : (((x :: a).length : Int) == 0 || ((y :: b).length : Int) == 0) = false := by simp; omega
      have hlt : (x :: a).length - 1 < (x :: a).length := by simp
      have e2 : at? (x :: a) (w64 (((x :: a).length : Int) - 1)) = some (x :: a)[(x :: a).length - 1] := by
        rw [w64_id (by simp at hl ⊢; omega), show (((x :: a).length : Int) - 1) = (((x :: a).length - 1 : Nat) : Int) by simp, at?_nat hlt]
      have e3 : at? (y :: b) 0 = some y := rfl
      rw [e1, cond_false, e2, e3]
      refine ⟨decide ((x :: a)[(x :: a).length - 1].To < y.From), rfl, ?_⟩
      have hlast : (x :: a).getLast? = some (x :: a)[(x :: a).length - 1] := by rw [List.getLast?_eq_getElem?, List.getElem?_eq_getElem hlt]
      simp only [decide_eq_true_eq, AheadL, hlast, List.head?_cons, Option.some.injEq]
      exact ⟨fun h x' hx y' hy => by rw [← hx, ← hy]; exact h, fun h => h _ rfl _ rfl⟩

theorem span_beq (x y : Span) : ((x.From == y.From) && ((x.To == y.To) && true)) = decide (x = y) := by
  obtain ⟨x1, x2⟩ := x
  obtain ⟨y1, y2⟩ := y
  by_cases h1 : x1 = y1 <;> by_cases h2 : x2 = y2 <;> simp [h1, h2]

theorem spans_Same_eq {a b : List Span} (ha : Len a) : ∃ r, spans_Same a b = some r ∧ (r = true ↔ a = b) := by
  have hl : (a.length : Int) < 9223372036854775807 := by have := reach_eq; unfold Len at ha; omega
  unfold spans_Same slices_Equal_SSpan_Span
  by_cases hlen : a.length = b.length
  · have e1 : ((a.length : Int) != (b.length : Int)) = false := bne_f (by omega)
    rw [e1, cond_false]
    rcases all_loop (l := a) (step := slices_Equal_SSpan_Span.s0 a b) (fun k x => b[k]? = some x) (no := .ret false) (yes := .go ()) (fun k x hk hp => by
      have hlt := (List.getElem?_eq_some_iff.1 hk).1
      have hat : at? a (k : Int) = some x := by rw [at?_nat hlt]; rw [List.getElem?_eq_getElem hlt] at hk; exact hk
      have hbt : at? b (k : Int) = some (b[k]'(by omega)) := at?_nat (by omega)
      unfold slices_Equal_SSpan_Span.s0
      rw [dec_t (show (k : Int) < a.length by omega), cond_true, hat, hbt, w64_id (show _ by omega)]
      simp only [Option.bind_some, span_beq]
      rw [List.getElem?_eq_getElem (show k < b.length by omega)]
      by_cases h : x = b[k]'(by omega)
      · rw [dec_t h]; exact .inl ⟨rfl, congrArg some h.symm⟩
      · rw [dec_f h]; exact .inr ⟨rfl, fun e => h (Option.some.inj e).symm⟩) (by
      unfold slices_Equal_SSpan_Span.s0; rw [dec_f (by omega)]; rfl) with ⟨h1, h2⟩ | ⟨h1, h2⟩
    · rw [h1]
      refine ⟨true, rfl, ⟨fun _ => List.ext_getElem? fun k => ?_, fun _ => rfl⟩⟩
      by_cases hk : k < a.length
      · rw [List.getElem?_eq_getElem hk]; exact (h2 k _ (List.getElem?_eq_getElem hk)).symm
      · rw [List.getElem?_eq_none (by omega), List.getElem?_eq_none (by omega)]
    · rw [h1]
      refine ⟨false, rfl, by simp only [Bool.false_eq_true, false_iff]; rintro rfl; exact h2 fun k x hk => hk⟩
  · have e1 : ((a.length : Int) != (b.length : Int)) = true := bne_t (by omega)
    rw [e1, cond_true]
    exact ⟨false, rfl, by simp only [Bool.false_eq_true, false_iff]; rintro rfl; exact hlen rfl⟩

end Go.Dn
