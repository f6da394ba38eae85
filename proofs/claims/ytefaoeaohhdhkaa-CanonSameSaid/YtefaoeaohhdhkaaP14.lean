/- canon: the canonical form has the same ticks, is right, and is its own canonical form. -/
import Derived.Test.YtefaoeaohhdhkaaP13
set_option linter.unusedVariables false
set_option linter.unusedSimpArgs false
namespace Go.Dn
open Go

theorem inc_pairwise {l : List Granule} : Inc l ↔ l.Pairwise (fun a b => a.Index < b.Index) := by
  rw [List.pairwise_iff_getElem]
  constructor
  · intro h i j hi hj hij
    exact h i j _ _ hij (List.getElem?_eq_getElem hi) (List.getElem?_eq_getElem hj)
  · intro h j k a b hjk ha hb
    obtain ⟨h1, rfl⟩ := List.getElem?_eq_some_iff.1 ha
    obtain ⟨h2, rfl⟩ := List.getElem?_eq_some_iff.1 hb
    exact h j k h1 h2 hjk

theorem Inc.filter {l : List Granule} (h : Inc l) (p : Granule → Bool) : Inc (l.filter p) := inc_pairwise.2 ((inc_pairwise.1 h).filter p)

theorem canonF_csz {f c : Form} (hs : Shape f) (h : CoreOf f c) : csz (canonF f c) = csz f := by
  rw [← h.csz hs]; rfl

theorem oddly_iff {f : Form} {g : Granule} : oddly f g = true ↔ ¬ csz f g.Index = g.Ticks := by unfold oddly; rw [decide_eq_true_iff]

theorem canonF_mem {f c : Form} {g : Granule} : g ∈ (canonF f c).Odd ↔ g ∈ f.Odd ∧ oddly f g = true := List.mem_filter

theorem canonF_setAt {f c : Form} (hs : Shape f) (h : CoreOf f c) : setAt (canonF f c) = setAt f := by
  funext i
  by_cases ho : isOdd f i
  · obtain ⟨g, hg, rfl⟩ := ho
    rw [setAt_odd hs.inc hg]
    by_cases hod : oddly f g = true
    · exact setAt_odd (hs.inc.filter _) (canonF_mem.2 ⟨hg, hod⟩)
    · have he : csz f g.Index = g.Ticks := Classical.byContradiction fun hn => hod (oddly_iff.2 hn)
      rw [setAt_csz (f := canonF f c), canonF_csz hs h, he]
      rintro ⟨g', hg', e⟩
      obtain ⟨m1, m2⟩ := canonF_mem.1 hg'
      have := hs.inc.uniq m1 hg e
      subst this
      exact hod m2
  · rw [setAt_csz ho, setAt_csz (f := canonF f c), canonF_csz hs h]
    rintro ⟨g', hg', e⟩
    exact ho ⟨g', (canonF_mem.1 hg').1, e⟩

theorem canonF_shape {f c : Form} (hs : Shape f) (h : CoreOf f c) : Shape (canonF f c) := by
  have := h.shape hs
  exact ⟨this.count, this.zero, this.per, this.core, fun g hg => hs.odd g (canonF_mem.1 hg).1, hs.inc.filter _⟩

theorem canonF_lim {f c : Form} (hl : Lim f) (hs : Shape f) (h : CoreOf f c) : Lim (canonF f c) := by
  have := h.lim hl hs
  refine ⟨this.core, this.sets, ?_, fun g hg => hl.ticks g (canonF_mem.1 hg).1, this.count, this.period⟩
  have h1 : (canonF f c).Odd.length ≤ f.Odd.length := List.length_filter_le _ _
  have := hl.odd
  have := Nat.mul_le_mul_right 32 h1
  omega

/-- The order of a core's sets. -/
theorem turns_of {f : Form} (hs : Shape f) (h : 0 < f.Count → ∀ i k, i < k → cs f i ≠ [] → cs f k ≠ [] → lstT (cs f i) < fstT (cs f k)) : Turns f := by
  have hcnt := hs.count
  have at_ : ∀ (j : Nat) (a : List Span), f.Core[j]? = some a → cs f j = a := fun j a ha => by
    have := (List.getElem?_eq_some_iff.1 ha).1
    rw [cs_small (by omega) (by omega), List.getD_eq_getElem?_getD, Int.toNat_natCast, ha]; rfl
  have hpw : f.Core.Pairwise (fun a b => a ≠ [] → b ≠ [] → lstT a < fstT b) := by
    rw [List.pairwise_iff_getElem]
    intro i j hi hj hij na nb
    have h1 := at_ i _ (List.getElem?_eq_getElem hi)
    have h2 := at_ j _ (List.getElem?_eq_getElem hj)
    have := h (by omega) i j (by omega) (by rw [h1]; exact na) (by rw [h2]; exact nb)
    rw [h1, h2] at this
    exact this
  constructor
  · intro k a b ha hb
    have hp := hpw.filter (fun l => decide (l.length > 0))
    rw [List.pairwise_iff_getElem] at hp
    obtain ⟨h1, rfl⟩ := List.getElem?_eq_some_iff.1 ha
    obtain ⟨h2, rfl⟩ := List.getElem?_eq_some_iff.1 hb
    exact hp k (k + 1) h1 h2 (by omega) (full_mem.1 (List.getElem_mem h1)).2 (full_mem.1 (List.getElem_mem h2)).2
  · intro a b ha hb
    obtain ⟨ma, na⟩ := full_mem.1 (List.mem_of_getLast? ha)
    obtain ⟨mb, nb⟩ := full_mem.1 (List.mem_of_head? hb)
    obtain ⟨j, hj⟩ := List.getElem?_of_mem ma
    obtain ⟨k, hk⟩ := List.getElem?_of_mem mb
    have hjl := (List.getElem?_eq_some_iff.1 hj).1
    have h1 := at_ j _ hj
    have h2 := at_ k _ hk
    have h3 : cs f ((k : Int) + f.Count) = b.map (shiftS f.Period) := by rw [cs_period (by omega), h2]
    have := h (by omega) j ((k : Int) + f.Count) (by omega) (by rw [h1]; exact na) (by rw [h3]; simpa using nb)
    rw [h1, h3, (lst_shift _ nb).2] at this
    exact this

theorem csz_order {f : Form} (hs : Shape f) (ht : Turns f) {i k : Int} (hik : i < k) (ni : csz f i ≠ []) (nk : csz f k ≠ []) : lstT (csz f i) < fstT (csz f k) := by
  have h0 : f.Count ≠ 0 := fun h => ni (by unfold csz; rw [if_pos h])
  unfold csz at ni nk ⊢
  rw [if_neg h0] at ni nk ⊢
  rw [if_neg h0]
  have n1 : coreAt f i ≠ [] := fun h => ni (by unfold cs; rw [h]; rfl)
  have n2 : coreAt f k ≠ [] := fun h => nk (by unfold cs; rw [h]; rfl)
  have := core_order hs ht h0 hik n1 n2
  unfold cs
  rw [(lst_shift _ n1).1, (lst_shift _ n2).2]
  exact this

theorem beside_congr {f g : Form} (h : setAt g = setAt f) {i : Int} (hb : Beside f i) : Beside g i := by
  intro lo hi hlo hhi
  have hu : Under f i lo := by unfold Under at hlo ⊢; rw [h] at hlo; exact hlo
  have ha : Above f i hi := by unfold Above at hhi ⊢; rw [h] at hhi; exact hhi
  have := hb lo hi hu ha
  unfold BesideR fits at this ⊢
  rw [h]
  exact this

theorem canonF_right {f c : Form} (hr : RightF f) (h : CoreOf f c) : RightF (canonF f c) := by
  have hs := hr.shape
  refine ⟨canonF_shape hs h, turns_of (canonF_shape hs h) (fun h0 i k hik ni nk => ?_), fun g hg => beside_congr (canonF_setAt hs h) (hr.beside g (canonF_mem.1 hg).1)⟩
  rw [← csz_pos h0, canonF_csz hs h] at ni nk ⊢
  exact csz_order hs hr.turns hik ni nk

/-- The canonical form of a canonical form. -/
theorem canonF_fix {f c : Form} (hs : Shape f) (h : CoreOf f c) : CoreOf (canonF f c) c ∧ canonF (canonF f c) c = canonF f c := by
  have hcz := canonF_csz hs h
  have hodd : (canonF f c).Odd.filter (oddly (canonF f c)) = (canonF f c).Odd := by
    rw [List.filter_eq_self]
    intro g hg
    have := (canonF_mem.1 hg).2
    rw [oddly_iff] at this ⊢
    rw [hcz]; exact this
  have hco := h.odd
  refine ⟨?_, by unfold canonF at hodd ⊢; rw [form_ext]; exact ⟨rfl, rfl, rfl, hodd⟩⟩
  rcases h with ⟨hb, rfl⟩ | ⟨hb, h0, d, hg, hmin, rfl⟩
  · exact .inl ⟨(fun l hl => by cases hl), rfl⟩
  · right
    have hd := hg.pos
    have hdn : d ≤ f.Count := Int.le_of_dvd h0 hg.dvd
    have hcnt := hs.count
    generalize hc' : canonF f (Form.mk (f.Period / (f.Count / d)) d (f.Core.take d.toNat) []) = c' at hcz
    have e1 : c'.Count = d := by rw [← hc']; rfl
    have e2 : c'.Period = f.Period / (f.Count / d) := by rw [← hc']; rfl
    have e3 : c'.Core = f.Core.take d.toNat := by rw [← hc']; rfl
    have hcs : cs c' = cs f := by rw [← csz_pos (show 0 < c'.Count by omega), ← csz_pos h0, hcz]
    have hlen : (f.Core.take d.toNat).length = d.toNat := by rw [List.length_take]; omega
    have good_up : ∀ d', Good c' d' → Good f d' := fun d' g => by
      have q1 := g.pos
      have q2 := g.dvd
      have q3 := g.rest
      have q4 := g.turn
      rw [e1] at q2 q3 q4
      rw [e2] at q3 q4
      have hdd : d' ∣ f.Count := Int.dvd_trans q2 hg.dvd
      obtain ⟨a, ha⟩ := q2
      obtain ⟨b, hb'⟩ := hg.dvd
      have hbp : 0 < b := by
        rcases Int.lt_or_le 0 b with h | h
        · exact h
        · have : d * b ≤ 0 := Int.mul_nonpos_of_nonneg_of_nonpos (by omega) h
          omega
      have hap : 0 < a := by
        rcases Int.lt_or_le 0 a with h | h
        · exact h
        · have : d' * a ≤ 0 := Int.mul_nonpos_of_nonneg_of_nonpos (by omega) h
          omega
      have f1 : f.Count / d = b := by rw [hb', Int.mul_ediv_cancel_left _ (by omega)]
      have f2 : d / d' = a := by rw [ha, Int.mul_ediv_cancel_left _ (by omega)]
      have f3 : f.Count / d' = a * b := by rw [hb', ha, Int.mul_assoc, Int.mul_ediv_cancel_left _ (by omega)]
      have hrest := hg.rest
      rw [f1] at hrest q3 q4
      rw [f2] at q3 q4
      have f4 : f.Period = a * (f.Period / b / a) * b := by
        have z1 := Int.ediv_mul_cancel (Int.dvd_of_emod_eq_zero hrest)
        have z2 := Int.ediv_mul_cancel (Int.dvd_of_emod_eq_zero q3)
        rw [Int.mul_comm a, z2, z1]
      have f5 : f.Period = (f.Period / b / a) * (a * b) := by
        conv => lhs; rw [f4]
        rw [Int.mul_comm a, Int.mul_assoc]
      have hab : a * b ≠ 0 := by
        have := Int.mul_pos hap hbp
        omega
      have f6 : f.Period / (a * b) = f.Period / b / a := by
        conv => lhs; rw [f5]
        exact Int.mul_ediv_cancel _ hab
      refine ⟨q1, hdd, ?_, ?_⟩
      · rw [f3]; exact Int.emod_eq_zero_of_dvd ⟨f.Period / b / a, by rw [Int.mul_comm]; exact f5⟩
      · rw [f3, f6]; intro i; have := q4 i; rw [hcs] at this; exact this
    have hself : Good c' c'.Count := good_self (by omega)
    refine ⟨fun hbare => hb ?_, by omega, d, by rw [← e1]; exact hself, fun d' g => hmin d' (good_up d' g), ?_⟩
    · intro l hl
      obtain ⟨k, hk⟩ := List.getElem?_of_mem hl
      have hkl := (List.getElem?_eq_some_iff.1 hk).1
      have hbz : ∀ i, cs f i = [] := fun i => by
        rw [← hcs]
        have hcore : ∀ i, coreAt c' i ∈ c'.Core := fun i => by
          unfold coreAt
          have h1 := Int.emod_nonneg i (show c'.Count ≠ 0 by omega)
          have h2 := Int.emod_lt_of_pos i (show 0 < c'.Count by omega)
          have : (i % c'.Count).toNat < c'.Core.length := by rw [e3, hlen]; omega
          rw [List.getD_eq_getElem?_getD, List.getElem?_eq_getElem this]
          exact List.getElem_mem _
        unfold cs
        rw [hbare _ (hcore i)]; rfl
      have := hbz k
      rw [cs_small (by omega) (by omega), List.getD_eq_getElem?_getD, Int.toNat_natCast, hk] at this
      exact this
    · rw [form_ext]
      have hdd : d / d = 1 := Int.ediv_self (by omega)
      refine ⟨?_, rfl, ?_, rfl⟩
      · show _ = c'.Period / (c'.Count / d)
        rw [e1, e2, hdd, Int.ediv_one]
      · show _ = c'.Core.take d.toNat
        rw [e3, List.take_take, Nat.min_self]

end Go.Dn
