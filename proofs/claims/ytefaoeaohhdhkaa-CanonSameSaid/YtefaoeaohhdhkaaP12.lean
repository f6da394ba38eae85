/- canon: the canonical form. -/
import Derived.Test.YtefaoeaohhdhkaaP11
set_option linter.unusedVariables false
set_option linter.unusedSimpArgs false
namespace Go.Dn
open Go

/-- A row of sets turns at d, q ticks later. -/
def Turn (h : Int → List Span) (d q : Int) : Prop := ∀ i, h (i + d) = (h i).map (shiftS q)

theorem Turn.neg {h : Int → List Span} {d q : Int} (t : Turn h d q) : Turn h (-d) (-q) := fun i => by
  have := t (i + -d)
  rw [show i + -d + d = i by omega] at this
  rw [this, shift_shift, Int.add_right_neg, shift0]

theorem Turn.add {h : Int → List Span} {d q d' q' : Int} (t : Turn h d q) (t' : Turn h d' q') : Turn h (d + d') (q + q') := fun i => by
  rw [show i + (d + d') = (i + d) + d' by omega, t', t, shift_shift]

theorem Turn.zero (h : Int → List Span) : Turn h 0 0 := fun i => by rw [Int.add_zero, shift0]

theorem Turn.nat {h : Int → List Span} {d q : Int} (t : Turn h d q) : ∀ k : Nat, Turn h (k * d) (k * q)
  | 0 => by simpa using Turn.zero h
  | k + 1 => by
    have := (Turn.nat t k).add t
    push_cast
    rw [Int.add_mul, Int.one_mul, Int.add_mul, Int.one_mul]
    exact this

theorem Turn.mul {h : Int → List Span} {d q : Int} (t : Turn h d q) (k : Int) : Turn h (k * d) (k * q) := by
  rcases Int.natAbs_eq k with e | e
  · rw [e]; exact t.nat _
  · rw [e, Int.neg_mul, Int.neg_mul]; exact (t.nat _).neg

/-- Two rows that turn alike are the same if they are so in a round. -/
theorem Turn.agree {h h' : Int → List Span} {d q a : Int} (t : Turn h d q) (t' : Turn h' d q) (hd : 0 < d) (he : ∀ i, a ≤ i → i < a + d → h i = h' i) : h = h' := by
  funext i
  have e : i = ((i - a) % d + a) + (i - a) / d * d := by
    have := Int.emod_add_mul_ediv (i - a) d
    rw [Int.mul_comm] at this
    omega
  have h1 := Int.emod_nonneg (i - a) (show d ≠ 0 by omega)
  have h2 := Int.emod_lt_of_pos (i - a) hd
  rw [e, t.mul, t'.mul, he _ (by omega) (by omega)]

/-- The core's set of an index, or none. -/
noncomputable def csz (f : Form) (i : Int) : List Span := if f.Count = 0 then [] else cs f i

theorem csz_pos {f : Form} (h0 : 0 < f.Count) : csz f = cs f := by funext i; exact if_neg (by omega)
theorem setAt_csz {f : Form} {i : Int} (h : ¬ isOdd f i) : setAt f i = csz f i := by
  unfold csz
  by_cases h0 : f.Count = 0
  · rw [if_pos h0, setAt_none h h0]
  · rw [if_neg h0, setAt_core h h0]; rfl
theorem csz_bare {f : Form} (hs : Shape f) (hb : Bare f) (i : Int) : csz f i = [] := by
  unfold csz
  by_cases h0 : f.Count = 0
  · rw [if_pos h0]
  · rw [if_neg h0]; unfold cs; rw [hb _ (coreAt_get hs h0 i).2]; rfl

/-- What the canonical core is. -/
def CoreOf (f c : Form) : Prop := (Bare f ∧ c = Form.mk 0 0 [] []) ∨ (¬ Bare f ∧ 0 < f.Count ∧ ∃ d, Good f d ∧ (∀ d', Good f d' → d ≤ d') ∧ c = Form.mk (f.Period / (f.Count / d)) d (f.Core.take d.toNat) [])

theorem canon_core_ok {f : Form} (hl : Lim f) (hs : Shape f) : ∃ c, canon_core f = some c ∧ CoreOf f c := by
  rcases canon_core_eq hl hs with ⟨h1, h2⟩ | ⟨h1, h2, d, h3, h4, h5⟩
  · exact ⟨_, h2, .inl ⟨h1, rfl⟩⟩
  · exact ⟨_, h5, .inr ⟨h1, h2, d, h3, h4, rfl⟩⟩

theorem CoreOf.odd {f c : Form} (h : CoreOf f c) : c.Odd = [] := by
  rcases h with ⟨_, rfl⟩ | ⟨_, _, d, _, _, rfl⟩ <;> rfl

theorem CoreOf.csz {f c : Form} (hs : Shape f) (h : CoreOf f c) : csz c = csz f := by
  rcases h with ⟨hb, rfl⟩ | ⟨hb, h0, d, hg, _, rfl⟩
  · funext i; rw [csz_bare hs hb]; rfl
  · have hd := hg.pos
    have hdn : d ≤ f.Count := Int.le_of_dvd h0 hg.dvd
    have hcnt := hs.count
    rw [csz_pos h0, csz_pos (show 0 < (Form.mk (f.Period / (f.Count / d)) d (f.Core.take d.toNat) []).Count by show 0 < d; omega)]
    refine Turn.agree (a := 0) (d := d) (q := f.Period / (f.Count / d)) (cs_period (f := Form.mk (f.Period / (f.Count / d)) d (f.Core.take d.toNat) []) (show d ≠ 0 by omega)) hg.turn (by omega) (fun i i0 i1 => ?_)
    rw [cs_small i0 (show i < d by omega), cs_small i0 (by omega)]
    show (f.Core.take d.toNat).getD i.toNat [] = _
    rw [List.getD_eq_getElem?_getD, List.getD_eq_getElem?_getD, List.getElem?_take_of_lt (by omega)]

theorem CoreOf.shape {f c : Form} (hs : Shape f) (h : CoreOf f c) : Shape c := by
  rcases h with ⟨hb, rfl⟩ | ⟨hb, h0, d, hg, _, rfl⟩
  · exact ⟨rfl, by simp, by simp, by simp, by simp, fun j k a b _ h => by simp at h⟩
  · have hd := hg.pos
    have hdn : d ≤ f.Count := Int.le_of_dvd h0 hg.dvd
    have hcnt := hs.count
    have hm : 0 < f.Count / d := Int.ediv_pos_of_pos_of_dvd h0 (by omega) hg.dvd
    have hp : 0 < f.Period := by
      have := hs.per; have := hs.zero
      rcases Int.lt_or_le 0 f.Period with h | h
      · exact h
      · have : f.Period = 0 := by omega
        have := hs.zero.2 this
        omega
    have hq : 0 < f.Period / (f.Count / d) := Int.ediv_pos_of_pos_of_dvd hp (by omega) (Int.dvd_of_emod_eq_zero hg.rest)
    have hq2 : f.Period / (f.Count / d) ≤ f.Period := Int.ediv_le_self _ (by omega)
    refine ⟨?_, ?_, ?_, ?_, by simp, fun j k a b _ h => by simp at h⟩
    · simp only [List.length_take]; omega
    · simp only; omega
    · simp only; have := hs.per; omega
    · intro l hl'; exact hs.core l (List.mem_of_mem_take hl')

theorem CoreOf.lim {f c : Form} (hl : Lim f) (hs : Shape f) (h : CoreOf f c) : Lim c := by
  have hsc := h.shape hs
  have hn : c.Core.length ≤ f.Core.length ∧ ∀ l ∈ c.Core, l ∈ f.Core := by
    rcases h with ⟨hb, rfl⟩ | ⟨hb, h0, d, hg, _, rfl⟩
    · exact ⟨Nat.zero_le _, fun l hl' => by cases hl'⟩
    · exact ⟨by simp only [List.length_take]; omega, fun l hl' => List.mem_of_mem_take hl'⟩
  have hc := hl.core
  have h24 := Nat.mul_le_mul_right 24 hn.1
  have hp := hsc.per
  have hcnt := hsc.count
  have hcl : (f.Core.length : Int) < 4611686018427387904 := len_lt (b := 23) hl.core
  exact ⟨by omega, fun l hl' => hl.sets l (hn.2 l hl'), by rw [h.odd]; simp [reach_eq], by rw [h.odd]; simp, by unfold In64; omega, by unfold In64; omega⟩

theorem CoreOf.setAt {f c : Form} (hs : Shape f) (h : CoreOf f c) (i : Int) : setAt c i = Go.Dn.csz f i := by
  rw [setAt_csz (by rintro ⟨g, hg, _⟩; rw [h.odd] at hg; cases hg), h.csz hs]

theorem canon_plain_eq {f c : Form} (hl : Lim f) (hs : Shape f) (h : CoreOf f c) {g : Granule} (hg : g ∈ f.Odd) : ∃ r, canon_plain c g = some r ∧ (r = true ↔ csz f g.Index = g.Ticks) := by
  obtain ⟨hr, ht⟩ := hs.odd g hg
  have hlc := h.lim hl hs
  have hsc := h.shape hs
  unfold canon_plain
  rw [gran_Get_eq hlc hsc (tick64 ht)]
  by_cases hf : fits c g.Index
  · rw [if_pos ⟨ht, hf⟩]
    obtain ⟨r, h1, h2⟩ := spans_Same_eq (a := Go.Dn.setAt c g.Index) (b := g.Ticks) (setAt_len hlc hsc _)
    refine ⟨r, ?_, ?_⟩
    · simp only [Option.bind_some]
      rw [beq_t rfl, cond_true, h1]; rfl
    · rw [h2, h.setAt hs]
  · rw [if_neg (fun h' => hf h'.2)]
    refine ⟨false, rfl, ⟨(fun h' => nomatch h'), fun e => absurd (fun s hs' => ?_) hf⟩⟩
    rw [h.setAt hs, e] at hs'
    obtain ⟨k, hk⟩ := List.getElem?_of_mem hs'
    have := rightL_iff.1 hr k s hk
    exact ⟨this.1, this.2.1⟩

open Classical in
/-- The exceptions that are none. -/
noncomputable def oddly (f : Form) (g : Granule) : Bool := decide (¬ csz f g.Index = g.Ticks)

noncomputable def canonF (f c : Form) : Form := Form.mk c.Period c.Count c.Core (f.Odd.filter (oddly f))

theorem canon_Form_eq {f : Form} (hl : Lim f) (hs : Shape f) : ∃ c, CoreOf f c ∧ canon_Form f = some (canonF f c) := by
  obtain ⟨c, h1, hc⟩ := canon_core_ok hl hs
  refine ⟨c, hc, ?_⟩
  unfold canon_Form
  rw [h1]
  simp only [Option.bind_some]
  have hol : (f.Odd.length : Int) < 4611686018427387904 := len_lt (b := 31) hl.odd
  have hr := reach_eq
  have hro := room_eq
  have : loopO (canon_Form.s0 f c) (0, []) = some (f.Odd.filter (oddly f)) := by
    refine loopO_val (I := fun s r => r = f.Odd.filter (oddly f) ∧ ∃ k : Nat, k ≤ f.Odd.length ∧ s = ((k : Int), (f.Odd.take k).filter (oddly f))) (fun s => f.Odd.length - s.1.toNat) ?_ ⟨rfl, 0, Nat.zero_le _, rfl⟩
    rintro s r ⟨rfl, k, hk, rfl⟩
    unfold canon_Form.s0
    by_cases hlt : k < f.Odd.length
    · left
      have hmem := List.getElem_mem hlt
      obtain ⟨r, p1, p2⟩ := canon_plain_eq hl hs hc hmem
      have htk : f.Odd.take (k + 1) = f.Odd.take k ++ [f.Odd[k]] := (List.take_append_getElem hlt).symm
      have hlen := (hl.ticks _ hmem).2.1
      unfold Len at hlen
      refine ⟨((k : Int) + 1, (f.Odd.take (k + 1)).filter (oddly f)), ?_, ⟨rfl, k + 1, hlt, by push_cast; rfl⟩, by simp; omega⟩
      rw [dec_t (show (k : Int) < f.Odd.length by omega), cond_true, at?_nat hlt]
      simp only [Option.bind_some, p1]
      rw [w64_id (show _ by omega), htk, List.filter_append]
      cases r with
      | true =>
        have : oddly f f.Odd[k] = false := by unfold oddly; rw [decide_eq_false_iff_not]; exact fun h => h (p2.1 rfl)
        simp only [Bool.not_true, cond_false, Option.bind_some, List.filter_cons, this, Bool.false_eq_true, if_false, List.filter_nil, List.append_nil]
      | false =>
        have : oddly f f.Odd[k] = true := by unfold oddly; rw [decide_eq_true_iff]; exact fun h => by have := p2.2 h; cases this
        have hcp : clone? 16 f.Odd[k].Ticks = some f.Odd[k].Ticks := by unfold clone?; rw [if_pos (by omega)]
        have hfl : ((f.Odd.take k).filter (oddly f)).length ≤ k := by
          have := List.length_filter_le (oddly f) (f.Odd.take k)
          simp only [List.length_take] at this
          omega
        have hap : app? 32 ((f.Odd.take k).filter (oddly f)) [Granule.mk f.Odd[k].Index f.Odd[k].Ticks] = some ((f.Odd.take k).filter (oddly f) ++ [f.Odd[k]]) := by
          rw [app?_ok (by simp only [List.length_cons, List.length_nil]; have h3 := hl.odd; have := Nat.mul_le_mul_right 32 (show ((f.Odd.take k).filter (oddly f)).length + 1 ≤ f.Odd.length by omega); omega)]
        simp only [Bool.not_false, cond_true, Option.bind_some, hcp, hap, List.filter_cons, this, if_true, List.filter_nil]
    · right
      have : k = f.Odd.length := by omega
      subst this
      rw [dec_f (show ¬ ((f.Odd.length : Int) < f.Odd.length) by omega), cond_false, List.take_length]
  rw [this]
  rfl

end Go.Dn
