/- The law FormNext, in plain terms. -/
import Derived.Test.YtefaoeaohhdhkaaP7
set_option linter.unusedVariables false
set_option linter.unusedSimpArgs false
namespace Go.Dn
open Go

theorem get_empty {f : Form} (hl : Lim f) (hs : Shape f) {x : Int} (hx : In64 x) (h : tickP x → setAt f x = []) : ∃ r, gran_Get f x = some r ∧ ((r.2 == 0) && decide ((r.1.length : Int) > 0)) = false := by
  classical
  rw [gran_Get_eq hl hs hx]
  refine ⟨_, rfl, ?_⟩
  by_cases h1 : tickP x ∧ fits f x
  · rw [if_pos h1, h h1.1]; rfl
  · rw [if_neg h1]; rfl

theorem Above.tick {f : Form} {i : Int} {r : Int × Bool} (h : Above f i r) (hr : r.2 = true) : i < r.1 ∧ tickP r.1 ∧ setAt f r.1 ≠ [] ∧ ∀ k, i < k → k < r.1 → tickP k → setAt f k = [] := by
  rcases h with ⟨_, h1, h2, h3, h4⟩ | ⟨h, _⟩
  · exact ⟨h1, h2, h3, h4⟩
  · rw [hr] at h; cases h
theorem Under.tick {f : Form} {i : Int} {r : Int × Bool} (h : Under f i r) (hr : r.2 = true) : r.1 < i ∧ tickP r.1 ∧ setAt f r.1 ≠ [] ∧ ∀ k, k < i → r.1 < k → tickP k → setAt f k = [] := by
  rcases h with ⟨_, h1, h2, h3, h4⟩ | ⟨h, _⟩
  · exact ⟨h1, h2, h3, h4⟩
  · rw [hr] at h; cases h

theorem formNext_true (f : Form) (i : Int) (hf : f.ok) (hi : okI .i32 i) : epactlaw05_FormNext f i = some true := by
  have hl := Form.lim hf
  rw [okI_i32] at hi
  unfold epactlaw05_FormNext
  obtain ⟨b, hb, hbr⟩ := epactlaw05_right_eq hl
  rw [hb]
  simp only [Option.bind_some]
  cases b with
  | false => rfl
  | true =>
    obtain ⟨hsm, hr⟩ := hbr.1 rfl
    have hs := hr.shape
    have hk0 : (w64 i).fdiv (2 ^ 1) = i / 2 := by
      rw [w64_id (by omega), Int.fdiv_eq_ediv_of_nonneg _ (by decide)]; rfl
    simp only [Bool.not_true, cond_false, hk0]
    generalize hk : i / 2 = k
    have hkb : -1073741824 ≤ k ∧ k ≤ 1073741824 := by omega
    have hk64 : In64 k := by unfold In64; omega
    obtain ⟨r2, e2, p2⟩ := gran_Behind_eq hl hs hk64
    obtain ⟨r3, e3, p3⟩ := gran_Before_eq hl hs hk64
    rw [e2, e3]
    simp only [Option.bind_some]
    have c1 : ((r2.2 && decide (r2.1 ≤ k)) || (r3.2 && decide (r3.1 ≥ k))) = false := by
      cases h2 : r2.2 <;> cases h3 : r3.2 <;> simp only [Bool.false_and, Bool.true_and, Bool.or_false, Bool.false_or, Bool.or_eq_false_iff, decide_eq_false_iff_not]
      · have := (p3.tick h3).1; omega
      · have := (p2.tick h2).1; omega
      · have := (p2.tick h2).1; have := (p3.tick h3).1; omega
    rw [c1, cond_false, w64_id (x := k + 1) (by omega)]
    have l1 : loopO (epactlaw05_FormNext.s0 f i r2) (k + 1) = some (.go k) := by
      refine loopO_val (I := fun (s : Int) r => r = .go k ∧ k < s ∧ s ≤ k + 40) (fun s => (k + 40 - s).toNat) ?_ ⟨rfl, by omega, by omega⟩
      rintro s r ⟨rfl, h1, h2⟩
      unfold epactlaw05_FormNext.s0
      rw [hk0, hk, w64_id (x := k + 40) (by omega)]
      by_cases hc : r2.2 = true ∧ s < r2.1 ∧ s < k + 40
      · rw [hc.1, dec_t hc.2.1, dec_t hc.2.2]
        simp only [Bool.and_self, cond_true]
        obtain ⟨r, q1, q2⟩ := get_empty hl hs (x := s) (by unfold In64; omega) (fun ht => (p2.tick hc.1).2.2.2 s h1 hc.2.1 ht)
        rw [q1]
        simp only [Option.bind_some]
        rw [q2, cond_false, w64_id (by omega)]
        exact .inl ⟨_, rfl, ⟨trivial, by omega, by omega⟩, by omega⟩
      · have : (r2.2 && decide (s < r2.1) && decide (s < k + 40)) = false := by
          rw [Bool.eq_false_iff]
          intro h
          simp only [Bool.and_eq_true, decide_eq_true_eq] at h
          exact hc ⟨h.1.1, h.1.2, h.2⟩
        rw [this]; exact .inr rfl
    rw [l1]
    simp only [Option.bind_some, Jx.elim]
    rw [w64_id (x := k - 1) (by omega)]
    have l2 : loopO (epactlaw05_FormNext.s1 f r3 k) (k - 1) = some (.go ()) := by
      refine loopO_val (I := fun (s : Int) r => r = .go () ∧ s < k ∧ k - 40 ≤ s) (fun s => (s - (k - 40)).toNat) ?_ ⟨rfl, by omega, by omega⟩
      rintro s r ⟨rfl, h1, h2⟩
      unfold epactlaw05_FormNext.s1
      rw [w64_id (x := k - 40) (by omega)]
      by_cases hc : r3.2 = true ∧ s > r3.1 ∧ s > k - 40
      · rw [hc.1, dec_t hc.2.1, dec_t hc.2.2]
        simp only [Bool.and_self, cond_true]
        obtain ⟨r, q1, q2⟩ := get_empty hl hs (x := s) (by unfold In64; omega) (fun ht => (p3.tick hc.1).2.2.2 s h1 hc.2.1 ht)
        rw [q1]
        simp only [Option.bind_some]
        rw [q2, cond_false, w64_id (by omega)]
        exact .inl ⟨_, rfl, ⟨trivial, by omega, by omega⟩, by omega⟩
      · have : (r3.2 && decide (s > r3.1) && decide (s > k - 40)) = false := by
          rw [Bool.eq_false_iff]
          intro h
          simp only [Bool.and_eq_true, decide_eq_true_eq] at h
          exact hc ⟨h.1.1, h.1.2, h.2⟩
        rw [this]; exact .inr rfl
    rw [l2]
    simp only [Option.bind_some]
    cases h2 : r2.2 with
    | false => rfl
    | true =>
      obtain ⟨a1, a2, a3, a4⟩ := p2.tick h2
      obtain ⟨r6, e6, p6⟩ := gran_Before_eq hl hs (tick64 a2)
      rw [cond_true, e6]
      simp only [Option.bind_some]
      have : ((r6.2 && decide (r6.1 > k)) || (r3.2 && (!r6.2 || decide (r6.1 < r3.1)))) = false := by
        rw [Bool.eq_false_iff]
        intro h
        simp only [Bool.or_eq_true, Bool.and_eq_true, decide_eq_true_eq, Bool.not_eq_true'] at h
        rcases h with ⟨h, h'⟩ | ⟨h3, h⟩
        · obtain ⟨b1, b2, b3, _⟩ := p6.tick h
          exact b3 (a4 _ (by omega) b1 b2)
        · obtain ⟨b1, b2, b3, _⟩ := p3.tick h3
          rcases h with h | h
          · rcases p6 with ⟨h', _⟩ | ⟨_, _, h4⟩
            · rw [h] at h'; cases h'
            · exact b3 (h4 _ (by omega) b2)
          · cases h6 : r6.2 with
            | false =>
              rcases p6 with ⟨h', _⟩ | ⟨_, _, h4⟩
              · rw [h6] at h'; cases h'
              · exact b3 (h4 _ (by omega) b2)
            | true => exact b3 ((p6.tick h6).2.2.2 _ (by omega) h b2)
      rw [this]; rfl

end Go.Dn
