/- CanonSame. -/
import Derived.Test.YtefaoeaohhdhkaaP16
set_option linter.unusedVariables false
set_option linter.unusedSimpArgs false
namespace Go.Dn
open Go

theorem near_eq {f : Form} (hl : Lim f) : ∃ b, epactlaw06_near f 200 = some b ∧ (b = true ↔ NearF f 200) := by
  have ho : (f.Odd.length : Int) < 4611686018427387904 := len_lt (b := 31) hl.odd
  unfold epactlaw06_near
  rcases all_loop (l := f.Odd) (step := epactlaw06_near.s0 f 200) (fun k g => -200 ≤ g.Index ∧ g.Index ≤ 200) (no := .ret false) (yes := .go ()) (fun k x hk hp => by
    have hlt := (List.getElem?_eq_some_iff.1 hk).1
    have hat : at? f.Odd (k : Int) = some x := by rw [at?_nat hlt]; rw [List.getElem?_eq_getElem hlt] at hk; exact hk
    unfold epactlaw06_near.s0
    rw [dec_t (show (k : Int) < f.Odd.length by omega), cond_true, hat, w64_id (show _ by omega), w64_id (show _ by omega)]
    simp only [Option.bind_some]
    by_cases h1 : x.Index < 0 - 200
    · rw [dec_t h1]; exact .inr ⟨rfl, by omega⟩
    · rw [dec_f h1]
      by_cases h2 : x.Index > 200
      · rw [dec_t h2]; exact .inr ⟨rfl, by omega⟩
      · rw [dec_f h2]; exact .inl ⟨rfl, by omega⟩) (by
    unfold epactlaw06_near.s0; rw [dec_f (by omega)]; rfl) with ⟨h1, h2⟩ | ⟨h1, h2⟩
  · rw [h1]
    refine ⟨true, rfl, ⟨fun _ g hg => ?_, fun _ => rfl⟩⟩
    obtain ⟨k, hk⟩ := List.getElem?_of_mem hg
    exact h2 k g hk
  · rw [h1]
    exact ⟨false, rfl, ⟨(fun h => nomatch h), fun h => absurd (fun k x hk => h x (List.mem_of_getElem? hk)) h2⟩⟩

theorem same_loop {f g : Form} (hlf : Lim f) (hlg : Lim g) (hf : Shape f) (hg : Shape g) : ∃ r, loopO (epactlaw06_CanonSame.s0 f g) (-2000) = some r ∧
    (r = .ret true ∨ (r = .go false ∧ ∃ i, -2000 ≤ i ∧ i ≤ 2000 ∧ setAt f i ≠ setAt g i) ∨ (r = .go true ∧ ∀ i, -2000 ≤ i → i ≤ 2000 → setAt f i = setAt g i)) := by
  refine loopO_inv (I := fun s => -2000 ≤ s ∧ s ≤ 2001 ∧ ∀ j, -2000 ≤ j → j < s → setAt f j = setAt g j) (fun s => (2001 - s).toNat) _ ?_ (-2000) ⟨by omega, by omega, fun j h1 h2 => by omega⟩
  rintro s ⟨s0, s1, hs⟩
  unfold epactlaw06_CanonSame.s0
  by_cases hlt : s ≤ 2000
  · rw [dec_t hlt, cond_true, gran_Get_eq hlf hf (by unfold In64; omega), gran_Get_eq hlg hg (by unfold In64; omega)]
    simp only [Option.bind_some]
    by_cases h1 : tickP s ∧ fits f s
    · by_cases h2 : tickP s ∧ fits g s
      · rw [if_pos h1, if_pos h2]
        obtain ⟨r, q1, q2⟩ := spans_Same_eq (b := setAt g s) (setAt_len hlf hf s)
        simp only [bne_self_eq_false, Bool.or_self, cond_false, q1, Option.bind_some]
        cases r with
        | true =>
          left
          refine ⟨s + 1, ?_, ⟨by omega, by omega, fun j j0 j1 => ?_⟩, by omega⟩
          · simp only [Bool.not_true, cond_false]; rw [w64_id (show _ by omega)]
          · by_cases hj : j = s
            · subst hj; exact q2.1 rfl
            · exact hs j j0 (by omega)
        | false =>
          right
          exact ⟨_, rfl, .inr (.inl ⟨rfl, s, s0, hlt, fun e => by have := q2.2 e; cases this⟩)⟩
      · rw [if_neg h2]
        right
        refine ⟨.ret true, ?_, .inl rfl⟩
        rw [show ((([], 20) : List Span × Int).2 != 0) = true from rfl, Bool.or_true, cond_true]; rfl
    · rw [if_neg h1]
      right
      refine ⟨.ret true, ?_, .inl rfl⟩
      rw [show ((([], 20) : List Span × Int).2 != 0) = true from rfl, Bool.true_or, cond_true]; rfl
  · right
    rw [dec_f hlt, cond_false]
    exact ⟨_, rfl, .inr (.inr ⟨rfl, fun i i0 i1 => hs i i0 (by omega)⟩)⟩

theorem canonSame_true (f g : Form) (hf : f.ok) (hg : g.ok) : epactlaw06_CanonSame f g = some true := by
  have hlf := Form.lim hf
  have hlg := Form.lim hg
  unfold epactlaw06_CanonSame
  obtain ⟨b1, e1, i1⟩ := epactlaw06_right_eq hlf
  obtain ⟨b2, e2, i2⟩ := epactlaw06_right_eq hlg
  obtain ⟨b3, e3, i3⟩ := near_eq hlf
  obtain ⟨b4, e4, i4⟩ := near_eq hlg
  rw [e1]
  cases b1 with
  | false => rfl
  | true =>
  simp only [Option.bind_some, Bool.not_true, cond_false, e2]
  cases b2 with
  | false => rfl
  | true =>
  simp only [Option.bind_some, Bool.not_true, cond_false, e3]
  cases b3 with
  | false => rfl
  | true =>
  simp only [Option.bind_some, Bool.not_true, cond_false, e4]
  cases b4 with
  | false => rfl
  | true =>
  simp only [Option.bind_some, Bool.not_true, Bool.false_or]
  cases decide (f.Period > 32768) || decide (g.Period > 32768) with
  | true => rfl
  | false =>
  obtain ⟨sf, rf⟩ := i1.1 rfl
  obtain ⟨sg, rg⟩ := i2.1 rfl
  obtain ⟨x, q1, q2, q3, q4, q5, _⟩ := canon_facts hlf rf
  obtain ⟨y, p1, p2, p3, p4, p5, _⟩ := canon_facts hlg rg
  obtain ⟨r1, s1, s2⟩ := canon_equal_eq (b := y) q2
  obtain ⟨r2, s3, s4⟩ := alikeForms_eq (b := y) q2
  have hr : r1 = r2 := by rw [Bool.eq_iff_iff, s2, s4]
  subst hr
  obtain ⟨r, l1, l2⟩ := same_loop hlf hlg rf.shape rg.shape
  rw [cond_false, l1]
  simp only [Option.bind_some]
  have hsame : canon_Same f g = some r1 := by unfold canon_Same; rw [q1, p1]; simp only [Option.bind_some, s1]
  rcases l2 with rfl | ⟨rfl, i, i0, i1', hne⟩ | ⟨rfl, hall⟩
  · rfl
  · have : r1 = false := by
      cases r1 with
      | false => rfl
      | true => have := s2.1 rfl; rw [← q4, ← p4, this] at hne; exact absurd rfl hne
    subst this
    simp only [Jx.elim, hsame, Option.bind_some, q1, p1, s3]
    rfl
  · have hcf := rf.shape.count
    have hcg := rg.shape.count
    have l1 := sf.1
    have l2 := sg.1
    have := same_form hlf hlg rf.shape rg.shape (i3.1 rfl) (i4.1 rfl) (by omega) (by omega) hall
    rw [q1, p1] at this
    have : r1 = true := s2.2 (Option.some.inj this)
    subst this
    simp only [Jx.elim, hsame, Option.bind_some, q1, p1, s3]
    rfl

end Go.Dn
