/- canon: what turns, what is the same. -/
import Derived.Test.YtefaoeaohhdhkaaP8
set_option linter.unusedVariables false
set_option linter.unusedSimpArgs false
namespace Go.Dn
open Go

/-- 'slices.EqualFunc'. -/
theorem eqf_loop {α β : Type} {a : List α} {b : List β} {step : Int → Option (Int ⊕ Jx Unit Bool)} {eq : α → β → Option Bool} (P : α → β → Prop)
    (hl : (a.length : Int) < 9223372036854775807) (hab : a.length = b.length)
    (heq : ∀ (k : Nat) x y, a[k]? = some x → b[k]? = some y → ∃ r, eq x y = some r ∧ (r = true ↔ P x y))
    (hstep : ∀ s, step s = bif decide (s < (a.length : Int)) then (at? a s).bind fun x1 => (at? b s).bind fun x2 => (eq x1 x2).bind fun x3 => bif (!x3) then some (.inr (.ret false)) else some (.inl (w64 (s + 1))) else some (.inr (.go ()))) :
    (loopO step 0 = some (.go ()) ∧ ∀ (k : Nat) x y, a[k]? = some x → b[k]? = some y → P x y) ∨ (loopO step 0 = some (.ret false) ∧ ¬ ∀ (k : Nat) x y, a[k]? = some x → b[k]? = some y → P x y) := by
  rcases all_loop (l := a) (step := step) (fun k x => ∀ y, b[k]? = some y → P x y) (no := .ret false) (yes := .go ()) (fun k x hk hp => by
    have hlt := (List.getElem?_eq_some_iff.1 hk).1
    have hat : at? a (k : Int) = some x := by rw [at?_nat hlt]; rw [List.getElem?_eq_getElem hlt] at hk; exact hk
    have hbt : at? b (k : Int) = some (b[k]'(by omega)) := at?_nat (by omega)
    have hbk : b[k]? = some (b[k]'(by omega)) := List.getElem?_eq_getElem (by omega)
    obtain ⟨r, h1, h2⟩ := heq k x _ hk hbk
    rw [hstep, dec_t (show (k : Int) < a.length by omega), cond_true, hat, hbt, w64_id (show _ by omega)]
    simp only [Option.bind_some, h1]
    cases r with
    | true => exact .inl ⟨rfl, fun y hy => by rw [hbk] at hy; cases hy; exact h2.1 rfl⟩
    | false => exact .inr ⟨rfl, fun h => by have := h2.2 (h _ hbk); cases this⟩) (by
    rw [hstep, dec_f (by omega)]; rfl) with ⟨h1, h2⟩ | ⟨h1, h2⟩
  · exact .inl ⟨h1, fun k x y hx hy => h2 k x hx y hy⟩
  · exact .inr ⟨h1, fun h => h2 fun k x hx y hy => h k x y hx hy⟩

/-- One set, so many ticks later. -/
theorem shifted_iff {a b : List Span} {d : Int} (hl : a.length = b.length) : (∀ (k : Nat) x y, a[k]? = some x → b[k]? = some y → y.From - x.From = d ∧ y.To - x.To = d) ↔ b = a.map (shiftS d) := by
  constructor
  · intro h
    apply List.ext_getElem?
    intro k
    by_cases hk : k < a.length
    · have h1 : a[k]? = some a[k] := List.getElem?_eq_getElem hk
      have h2 : b[k]? = some (b[k]'(by omega)) := List.getElem?_eq_getElem (by omega)
      rw [h2, List.getElem?_map, h1]
      obtain ⟨q1, q2⟩ := h k _ _ h1 h2
      simp only [Option.map_some, shiftS, Option.some.injEq]
      generalize b[k]'(by omega) = y at q1 q2 ⊢
      obtain ⟨y1, y2⟩ := y
      simp only at q1 q2
      simp only [Span.mk.injEq]
      omega
    · rw [List.getElem?_eq_none (by omega), List.getElem?_eq_none (by simp; omega)]
  · rintro rfl k x y hx hy
    rw [List.getElem?_map, hx] at hy
    simp only [Option.map_some, Option.some.injEq] at hy
    subst hy
    simp only [shiftS]
    omega

theorem canon_shifted_eq {a b : List Span} {d : Int} (ha : RightL a) (hb : RightL b) (hl : Len a) : ∃ r, canon_shifted a b d = some r ∧ (r = true ↔ b = a.map (shiftS d)) := by
  have hl' : (a.length : Int) < 9223372036854775807 := by have := reach_eq; unfold Len at hl; omega
  unfold canon_shifted slices_EqualFunc_SSpan_SSpan_Span_Span
  by_cases hlen : a.length = b.length
  · rw [bne_f (by omega), cond_false]
    have tk : ∀ {l : List Span}, RightL l → ∀ (k : Nat) s, l[k]? = some s → tickP s.From ∧ tickP s.To := fun {l} h k s hs => by
      have := rightL_iff.1 h k s hs
      unfold goodSpan at this
      exact ⟨this.1, this.2.1⟩
    rcases eqf_loop (a := a) (b := b) (step := slices_EqualFunc_SSpan_SSpan_Span_Span.s0 a b (fun z0 z1 => some (canon_shifted_1 z0 z1 d))) (eq := fun z0 z1 => some (canon_shifted_1 z0 z1 d)) (fun x y => y.From - x.From = d ∧ y.To - x.To = d) hl' hlen (fun k x y hx hy => by
      refine ⟨_, rfl, ?_⟩
      obtain ⟨x1, x2⟩ := tk ha k x hx
      obtain ⟨y1, y2⟩ := tk hb k y hy
      unfold tickP at x1 x2 y1 y2
      unfold canon_shifted_1
      rw [w64_id (by omega), w64_id (by omega)]
      simp) (fun s => rfl) with ⟨h1, h2⟩ | ⟨h1, h2⟩
    · rw [h1]
      exact ⟨true, rfl, ⟨fun _ => (shifted_iff hlen).1 h2, fun _ => rfl⟩⟩
    · rw [h1]
      refine ⟨false, rfl, by simp only [Bool.false_eq_true, false_iff]; exact fun h => h2 ((shifted_iff hlen).2 h)⟩
  · rw [bne_t (by omega), cond_true]
    refine ⟨false, rfl, by simp only [Bool.false_eq_true, false_iff]; rintro rfl; exact hlen (by simp)⟩

end Go.Dn
