/- canon: what is the same. -/
import Derived.Test.YtefaoeaohhdhkaaP12
set_option linter.unusedVariables false
set_option linter.unusedSimpArgs false
namespace Go.Dn
open Go

theorem ext_of {α : Type} {a b : List α} (hl : a.length = b.length) (h : ∀ (k : Nat) x y, a[k]? = some x → b[k]? = some y → x = y) : a = b := by
  apply List.ext_getElem hl
  intro k h1 h2
  exact h k _ _ (List.getElem?_eq_getElem h1) (List.getElem?_eq_getElem h2)

theorem sameSets_eq {x y : List (List Span)} (hc : x.length * 24 ≤ reachBytes) (hs : ∀ l ∈ x, Len l) : ∃ r, slices_EqualFunc_SSSpan_SSSpan_SSpan_SSpan x y (fun z0 z1 => spans_Same z0 z1) = some r ∧ (r = true ↔ x = y) := by
  have hl : (x.length : Int) < 4611686018427387904 := len_lt (b := 23) hc
  unfold slices_EqualFunc_SSSpan_SSSpan_SSpan_SSpan
  by_cases hlen : x.length = y.length
  · rw [bne_f (by omega), cond_false]
    rcases eqf_loop (a := x) (b := y) (step := slices_EqualFunc_SSSpan_SSSpan_SSpan_SSpan.s0 x y (fun z0 z1 => spans_Same z0 z1)) (eq := fun z0 z1 => spans_Same z0 z1) (fun p q => p = q) (by omega) hlen (fun k p q hp hq => spans_Same_eq (hs p (List.mem_of_getElem? hp))) (fun s => rfl) with ⟨h1, h2⟩ | ⟨h1, h2⟩
    · rw [h1]; exact ⟨true, rfl, ⟨fun _ => ext_of hlen h2, fun _ => rfl⟩⟩
    · rw [h1]; exact ⟨false, rfl, ⟨(fun h => nomatch h), fun e => absurd (fun k p q hp hq => by rw [e, hq] at hp; exact (Option.some.inj hp).symm) h2⟩⟩
  · rw [bne_t (by omega), cond_true]
    exact ⟨false, rfl, ⟨(fun h => nomatch h), fun e => absurd (congrArg List.length e) hlen⟩⟩

theorem granule_ext {x y : Granule} : x = y ↔ x.Index = y.Index ∧ x.Ticks = y.Ticks := by
  obtain ⟨a, b⟩ := x
  obtain ⟨c, d⟩ := y
  simp

theorem canon_equal_1_eq {x y : Granule} (h : Len x.Ticks) : ∃ r, canon_equal_1 x y = some r ∧ (r = true ↔ x = y) := by
  unfold canon_equal_1
  rw [granule_ext]
  by_cases hi : x.Index = y.Index
  · rw [beq_t hi, cond_true]
    obtain ⟨r, h1, h2⟩ := spans_Same_eq (b := y.Ticks) h
    rw [h1]
    exact ⟨r, rfl, by rw [h2]; exact ⟨fun e => ⟨hi, e⟩, fun e => e.2⟩⟩
  · rw [beq_f hi, cond_false]
    exact ⟨false, rfl, ⟨(fun h => nomatch h), fun e => absurd e.1 hi⟩⟩

theorem sameOdd_eq {x y : List Granule} (hc : x.length * 32 ≤ reachBytes) (hs : ∀ g ∈ x, Len g.Ticks) : ∃ r, slices_EqualFunc_SGranule_SGranule_Granule_Granule x y (fun z0 z1 => canon_equal_1 z0 z1) = some r ∧ (r = true ↔ x = y) := by
  have hl : (x.length : Int) < 4611686018427387904 := len_lt (b := 31) hc
  unfold slices_EqualFunc_SGranule_SGranule_Granule_Granule
  by_cases hlen : x.length = y.length
  · rw [bne_f (by omega), cond_false]
    rcases eqf_loop (a := x) (b := y) (step := slices_EqualFunc_SGranule_SGranule_Granule_Granule.s0 x y (fun z0 z1 => canon_equal_1 z0 z1)) (eq := fun z0 z1 => canon_equal_1 z0 z1) (fun p q => p = q) (by omega) hlen (fun k p q hp hq => canon_equal_1_eq (hs p (List.mem_of_getElem? hp))) (fun s => rfl) with ⟨h1, h2⟩ | ⟨h1, h2⟩
    · rw [h1]; exact ⟨true, rfl, ⟨fun _ => ext_of hlen h2, fun _ => rfl⟩⟩
    · rw [h1]; exact ⟨false, rfl, ⟨(fun h => nomatch h), fun e => absurd (fun k p q hp hq => by rw [e, hq] at hp; exact (Option.some.inj hp).symm) h2⟩⟩
  · rw [bne_t (by omega), cond_true]
    exact ⟨false, rfl, ⟨(fun h => nomatch h), fun e => absurd (congrArg List.length e) hlen⟩⟩

theorem form_ext {a b : Form} : a = b ↔ a.Period = b.Period ∧ a.Count = b.Count ∧ a.Core = b.Core ∧ a.Odd = b.Odd := by
  obtain ⟨a1, a2, a3, a4⟩ := a
  obtain ⟨b1, b2, b3, b4⟩ := b
  simp

theorem canon_equal_eq {a b : Form} (hl : Lim a) : ∃ r, canon_equal a b = some r ∧ (r = true ↔ a = b) := by
  unfold canon_equal
  rw [form_ext]
  by_cases hp : a.Period = b.Period ∧ a.Count = b.Count
  · rw [beq_t hp.1, beq_t hp.2]
    simp only [Bool.and_self, cond_true]
    obtain ⟨r, h1, h2⟩ := sameSets_eq (y := b.Core) hl.core (fun l h => (hl.sets l h).1)
    rw [h1]
    simp only [Option.bind_some]
    cases r with
    | true =>
      obtain ⟨r', h3, h4⟩ := sameOdd_eq (y := b.Odd) hl.odd (fun g h => (hl.ticks g h).2.1)
      rw [cond_true, h3]
      exact ⟨r', rfl, by rw [h4]; exact ⟨fun e => ⟨hp.1, hp.2, h2.1 rfl, e⟩, fun e => e.2.2.2⟩⟩
    | false =>
      exact ⟨false, rfl, ⟨(fun h => nomatch h), fun e => by have := h2.2 e.2.2.1; cases this⟩⟩
  · have : ((a.Period == b.Period) && (a.Count == b.Count)) = false := by
      rw [Bool.and_eq_false_iff]
      by_cases h : a.Period = b.Period
      · exact .inr (beq_f fun h' => hp ⟨h, h'⟩)
      · exact .inl (beq_f h)
    rw [this]
    exact ⟨false, rfl, ⟨(fun h => nomatch h), fun e => absurd ⟨e.1, e.2.1⟩ hp⟩⟩

theorem alike_eq {a b : List Span} (ha : Len a) : ∃ r, epactlow_Alike a b = some r ∧ (r = true ↔ a = b) := by
  have hl : (a.length : Int) < 9223372036854775807 := by have := reach_eq; unfold Len at ha; omega
  unfold epactlow_Alike
  by_cases hlen : a.length = b.length
  · rw [bne_f (by omega), cond_false]
    rcases eqf_loop (a := a) (b := b) (step := epactlow_Alike.s0 a b) (eq := fun x y => some (decide (y = x))) (fun p q => p = q) hl hlen (fun k p q hp hq => ⟨_, rfl, by rw [decide_eq_true_iff]; exact ⟨Eq.symm, Eq.symm⟩⟩) (fun s => by
      unfold epactlow_Alike.s0
      simp only [span_beq]
      rfl) with ⟨h1, h2⟩ | ⟨h1, h2⟩
    · rw [h1]; exact ⟨true, rfl, ⟨fun _ => ext_of hlen h2, fun _ => rfl⟩⟩
    · rw [h1]; exact ⟨false, rfl, ⟨(fun h => nomatch h), fun e => absurd (fun k p q hp hq => by rw [e, hq] at hp; exact (Option.some.inj hp).symm) h2⟩⟩
  · rw [bne_t (by omega), cond_true]
    exact ⟨false, rfl, ⟨(fun h => nomatch h), fun e => absurd (congrArg List.length e) hlen⟩⟩

theorem alikeForms_eq {a b : Form} (hl : Lim a) : ∃ r, epactlow_AlikeForms a b = some r ∧ (r = true ↔ a = b) := by
  have hc : (a.Core.length : Int) < 4611686018427387904 := len_lt (b := 23) hl.core
  have ho : (a.Odd.length : Int) < 4611686018427387904 := len_lt (b := 31) hl.odd
  unfold epactlow_AlikeForms
  rw [form_ext]
  by_cases hp : a.Period = b.Period ∧ a.Count = b.Count ∧ a.Core.length = b.Core.length ∧ a.Odd.length = b.Odd.length
  · obtain ⟨p1, p2, p3, p4⟩ := hp
    rw [bne_f p1, bne_f p2, bne_f (show (a.Core.length : Int) = b.Core.length by omega), bne_f (show (a.Odd.length : Int) = b.Odd.length by omega)]
    simp only [Bool.or_self, cond_false]
    rcases eqf_loop (a := a.Core) (b := b.Core) (step := epactlow_AlikeForms.s0 a b) (eq := epactlow_Alike) (fun p q => p = q) (by omega) p3 (fun k p q hp hq => alike_eq (hl.sets p (List.mem_of_getElem? hp)).1) (fun s => rfl) with ⟨h1, h2⟩ | ⟨h1, h2⟩
    · rw [h1]
      simp only [Option.bind_some, Jx.elim]
      have ec := ext_of p3 h2
      rcases eqf_loop (a := a.Odd) (b := b.Odd) (step := epactlow_AlikeForms.s1 a b) (eq := fun x y => bif x.Index != y.Index then some false else epactlow_Alike x.Ticks y.Ticks) (fun p q => p = q) (by omega) p4 (fun k p q hp hq => by
        rw [granule_ext]
        by_cases hi : p.Index = q.Index
        · rw [bne_f hi, cond_false]
          obtain ⟨r, q1, q2⟩ := alike_eq (b := q.Ticks) (hl.ticks p (List.mem_of_getElem? hp)).2.1
          exact ⟨r, q1, by rw [q2]; exact ⟨fun e => ⟨hi, e⟩, fun e => e.2⟩⟩
        · rw [bne_t hi, cond_true]
          exact ⟨false, rfl, ⟨(fun h => nomatch h), fun e => absurd e.1 hi⟩⟩) (fun s => by
        unfold epactlow_AlikeForms.s1
        rcases e1 : at? a.Odd s with _ | x
        · rfl
        rcases e2 : at? b.Odd s with _ | y
        · rfl
        simp only [Option.bind_some]
        cases x.Index != y.Index with
        | true => rfl
        | false =>
          simp only [cond_false]
          rcases epactlow_Alike x.Ticks y.Ticks with _ | r
          · rfl
          · rfl) with ⟨h3, h4⟩ | ⟨h3, h4⟩
      · rw [h3]; exact ⟨true, rfl, ⟨fun _ => ⟨p1, p2, ec, ext_of p4 h4⟩, fun _ => rfl⟩⟩
      · rw [h3]; exact ⟨false, rfl, ⟨(fun h => nomatch h), fun e => absurd (fun k p q hp hq => by rw [e.2.2.2, hq] at hp; exact (Option.some.inj hp).symm) h4⟩⟩
    · rw [h1]; exact ⟨false, rfl, ⟨(fun h => nomatch h), fun e => absurd (fun k p q hp hq => by rw [e.2.2.1, hq] at hp; exact (Option.some.inj hp).symm) h2⟩⟩
  · refine ⟨false, ?_, ⟨(fun h => nomatch h), fun e => absurd ⟨e.1, e.2.1, by rw [e.2.2.1], by rw [e.2.2.2]⟩ hp⟩⟩
    have : ((((a.Period != b.Period) || (a.Count != b.Count)) || ((a.Core.length : Int) != (b.Core.length : Int))) || ((a.Odd.length : Int) != (b.Odd.length : Int))) = true := by
      simp only [Bool.or_eq_true, bne_iff_ne, ne_eq]
      apply Classical.byContradiction
      intro hn
      apply hp
      refine ⟨?_, ?_, ?_, ?_⟩ <;> apply Classical.byContradiction <;> intro h <;> apply hn
      · exact .inl (.inl (.inl h))
      · exact .inl (.inl (.inr h))
      · exact .inl (.inr (by omega))
      · exact .inr (by omega)
    rw [this]; rfl

end Go.Dn
