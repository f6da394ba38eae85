/- CanonKeeps. -/
import Derived.Test.YtefaoeaohhdhkaaP14
set_option linter.unusedVariables false
set_option linter.unusedSimpArgs false
namespace Go.Dn
open Go

theorem epactlaw06_right_eq {f : Form} (hl : Lim f) : ∃ b, epactlaw06_right f = some b ∧ (b = true ↔ SmallF f ∧ RightF f) := by
  unfold epactlaw06_right
  obtain ⟨b, hb, hbs⟩ := epactlaw05_Small_eq hl
  rw [hb]
  simp only [Option.bind_some]
  cases b with
  | false => exact ⟨false, rfl, fun h => (by cases h), fun h => by have := hbs.2 h.1; cases this⟩
  | true =>
    have hsm := hbs.1 rfl
    have hnl : ¬ LongF f := by unfold LongF; have := hsm.1; have := hsm.2.1; have := hsm.2.2; omega
    rw [cond_true]
    rcases gran_Right_eq hl with ⟨h, _⟩ | ⟨_, h1, h2⟩ | ⟨_, h1, h2⟩
    · exact absurd h hnl
    · rw [h2]; exact ⟨true, rfl, fun _ => ⟨hsm, h1⟩, fun _ => rfl⟩
    · rw [h2]; exact ⟨false, rfl, fun h => (by cases h), fun h => absurd h.2 h1⟩

theorem sum_filter_le {α : Type} (g : α → Nat) (p : α → Bool) : ∀ l : List α, ((l.filter p).map g).sum ≤ (l.map g).sum
  | [] => Nat.le_refl _
  | x :: l => by
    have := sum_filter_le g p l
    rw [List.filter_cons]
    split <;> simp only [List.map_cons, List.sum_cons] <;> omega

theorem sum_take_le {α : Type} (g : α → Nat) : ∀ (n : Nat) (l : List α), ((l.take n).map g).sum ≤ (l.map g).sum
  | 0, l => by simp
  | n + 1, [] => by simp
  | n + 1, x :: l => by
    have := sum_take_le g n l
    simp only [List.take_succ_cons, List.map_cons, List.sum_cons]; omega

theorem coreOf_le {f c : Form} (hs : Shape f) (h : CoreOf f c) : c.Count ≤ f.Count ∧ c.Period ≤ f.Period ∧ c.Core.length ≤ f.Core.length ∧ (c.Core.map List.length).sum ≤ (f.Core.map List.length).sum := by
  have hp := hs.per
  have hcnt := hs.count
  rcases h with ⟨hb, rfl⟩ | ⟨hb, h0, d, hg, hmin, rfl⟩
  · exact ⟨by simp only; omega, by simp only; omega, Nat.zero_le _, Nat.zero_le _⟩
  · exact ⟨Int.le_of_dvd h0 hg.dvd, Int.ediv_le_self _ hp.1, by simp only [List.length_take]; omega, sum_take_le _ _ _⟩

/-- All that is said of the canonical form. -/
theorem canon_facts {f : Form} (hl : Lim f) (hr : RightF f) : ∃ g, canon_Form f = some g ∧ Lim g ∧ RightF g ∧ setAt g = setAt f ∧ canon_Form g = some g ∧ g.Count ≤ f.Count ∧ g.Period ≤ f.Period ∧ g.Core.length ≤ f.Core.length ∧ g.Odd.length ≤ f.Odd.length ∧ sizeF g ≤ sizeF f := by
  have hs := hr.shape
  obtain ⟨c, hc, hf⟩ := canon_Form_eq hl hs
  have hl' := canonF_lim hl hs hc
  have hs' := canonF_shape hs hc
  obtain ⟨hfx, hfe⟩ := canonF_fix hs hc
  have hcl := coreOf_le hs hc
  refine ⟨_, hf, hl', canonF_right hr hc, canonF_setAt hs hc, ?_, hcl.1, hcl.2.1, hcl.2.2.1, List.length_filter_le _ _, ?_⟩
  · obtain ⟨c2, hc2, hf2⟩ := canon_Form_eq hl' hs'
    have : c2 = c := by
      rcases hfx with ⟨b1, e1⟩ | ⟨b1, z1, d1, g1, m1, e1⟩ <;> rcases hc2 with ⟨b2, e2⟩ | ⟨b2, z2, d2, g2, m2, e2⟩
      · rw [e1, e2]
      · exact absurd b1 b2
      · exact absurd b2 b1
      · have : d1 = d2 := by have := m1 d2 g2; have := m2 d1 g1; omega
        subst this
        rw [e2]; exact e1.symm
    rw [hf2, this, hfe]
  · have h1 := hcl.2.2.2
    have h2 := sum_filter_le (fun g : Granule => g.Ticks.length) (oddly f) f.Odd
    unfold sizeF
    show (c.Core.map List.length).sum + ((f.Odd.filter (oddly f)).map (fun g => g.Ticks.length)).sum ≤ _
    omega

theorem canonKeeps_true (f : Form) (i : Int) (hf : f.ok) (hi : okI .i64 i) : epactlaw06_CanonKeeps f i = some true := by
  have hl := Form.lim hf
  have hi' := okI_i64.1 hi
  unfold epactlaw06_CanonKeeps
  obtain ⟨b, hb, hbs⟩ := epactlaw06_right_eq hl
  rw [hb]
  cases b with
  | false => rfl
  | true =>
    obtain ⟨hsm, hr⟩ := hbs.1 rfl
    obtain ⟨g, h1, hlg, hrg, hset, hfix, c1, c2, c3, c4, c5⟩ := canon_facts hl hr
    simp only [Option.bind_some, Bool.not_true, cond_false, h1]
    have hs1 := hsm.1
    have hs2 := hsm.2.1
    have hs3 := hsm.2.2
    have hright : gran_Right g = some 0 := by
      rcases gran_Right_eq hlg with ⟨h, _⟩ | ⟨_, _, h2⟩ | ⟨_, h1, h2⟩
      · unfold LongF at h; omega
      · exact h2
      · exact absurd hrg h1
    obtain ⟨r1, e1, e2⟩ := canon_equal_eq (b := g) hlg
    have hr1 : r1 = true := e2.2 rfl
    subst hr1
    have his : canon_Is g = some true := by unfold canon_Is; rw [hfix]; simp only [Option.bind_some, e1]
    have hsame : canon_Same f g = some true := by unfold canon_Same; rw [h1, hfix]; simp only [Option.bind_some, e1]
    obtain ⟨r2, e3, e4⟩ := alikeForms_eq (b := g) hlg
    have hr2 : r2 = true := e4.2 rfl
    subst hr2
    have hsz1 := gran_Size_eq hlg (by omega) (by omega)
    have hsz2 := gran_Size_eq hl (by omega) (by omega)
    have hget : ∀ k, In64 k → gran_Get g k = gran_Get f k := fun k hk => by
      rw [gran_Get_eq hlg hrg.shape hk, gran_Get_eq hl hr.shape hk]
      unfold fits
      rw [hset]
    rw [hright]
    simp only [Option.bind_some]
    rw [show ((0 : Int) != 0) = false from rfl, cond_false, his]
    simp only [Option.bind_some, Bool.not_true, cond_false, hfix, e3]
    rw [dec_f (show ¬ g.Count > f.Count by omega), dec_f (show ¬ g.Period > f.Period by omega), dec_f (show ¬ ((g.Odd.length : Int) > f.Odd.length) by omega)]
    simp only [Bool.or_self, cond_false, hsz1, hsz2, Option.bind_some]
    rw [dec_f (show ¬ ((sizeF g : Int) > sizeF f) by omega), cond_false]
    have hw : In64 (w64 ((i.tmod 50) - 25)) := by
      have h3 : -50 < i.tmod 50 ∧ i.tmod 50 < 50 := ⟨by have := Int.lt_tmod_of_pos i (show (0 : Int) < 50 by omega); omega, Int.tmod_lt_of_pos i (by omega)⟩
      rw [w64_id (show _ by omega)]
      unfold In64; omega
    have hloop : loopO (epactlaw06_CanonKeeps.s0 f i g) 0 = some (.go ()) := by
      rcases all_loop (l := [i, 0, 1, (-1), (w64 ((i.tmod 50) - 25))]) (step := epactlaw06_CanonKeeps.s0 f i g) (fun k x => True) (no := .ret false) (yes := .go ()) (fun k x hk hp => by
        left
        refine ⟨?_, trivial⟩
        have hlt := (List.getElem?_eq_some_iff.1 hk).1
        have hat : at? [i, 0, 1, (-1), (w64 ((i.tmod 50) - 25))] (k : Int) = some x := by rw [at?_nat hlt]; rw [List.getElem?_eq_getElem hlt] at hk; exact hk
        have hx : In64 x := by
          have := List.mem_of_getElem? hk
          simp only [List.mem_cons, List.not_mem_nil, or_false] at this
          rcases this with rfl | rfl | rfl | rfl | rfl
          · exact hi'
          · unfold In64; omega
          · unfold In64; omega
          · unfold In64; omega
          · exact hw
        unfold epactlaw06_CanonKeeps.s0
        have hk5 : k < 5 := by simpa using hlt
        rw [dec_t (show (k : Int) < ([i, 0, 1, (-1), (w64 ((i.tmod 50) - 25))].length : Int) by simp only [List.length_cons, List.length_nil]; omega), cond_true, hat]
        simp only [Option.bind_some, hget x hx]
        obtain ⟨q, hq, hql⟩ : ∃ q, gran_Get f x = some q ∧ Len q.1 := by
          refine ⟨_, gran_Get_eq hl hr.shape hx, ?_⟩
          split
          · exact setAt_len hl hr.shape x
          · exact Nat.zero_le _
        rw [hq]
        simp only [Option.bind_some, bne_self_eq_false, cond_false]
        obtain ⟨r3, s1, s2⟩ := spans_Same_eq (b := q.1) hql
        have : r3 = true := s2.2 rfl
        subst this
        rw [s1]
        simp only [Option.bind_some, Bool.not_true, cond_false]
        rw [w64_id (show _ by omega)]) (by
        unfold epactlaw06_CanonKeeps.s0; rw [dec_f (by omega)]; rfl) with ⟨h, _⟩ | ⟨_, h⟩
      · exact h
      · exact absurd (fun k x hk => trivial) h
    rw [hloop]
    simp only [Option.bind_some, Jx.elim, hsame]
    rfl

end Go.Dn
