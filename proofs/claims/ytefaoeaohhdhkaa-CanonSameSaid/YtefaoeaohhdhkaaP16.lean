/- CanonSame: two forms with the same sets from -2000 to 2000 have the same canonical form. NOT BUILT YET. -/
import Derived.Test.YtefaoeaohhdhkaaP15
set_option linter.unusedVariables false
set_option linter.unusedSimpArgs false
namespace Go.Dn
open Go

theorem shift_ne {l : List Span} (hn : l ≠ []) {a b : Int} (h : l.map (shiftS a) = l.map (shiftS b)) : a = b := by
  cases l with
  | nil => exact absurd rfl hn
  | cons s l =>
    simp only [List.map_cons, List.cons.injEq, shiftS, Span.mk.injEq] at h
    omega

/-- A turn tells how many ticks later. -/
theorem Turn.uniq {h : Int → List Span} {d q q' : Int} (t : Turn h d q) (t' : Turn h d q') {i : Int} (hn : h i ≠ []) : q = q' := shift_ne hn ((t i).symm.trans (t' i))

theorem core_turn_self {f : Form} (h0 : 0 < f.Count) : Turn (cs f) f.Count f.Period := cs_period (by omega)

/-- What is not bare has a set in each round. -/
theorem cs_some {f : Form} (hs : Shape f) (hb : ¬ Bare f) (h0 : 0 < f.Count) (a : Int) : ∃ i, a ≤ i ∧ i < a + f.Count ∧ cs f i ≠ [] := by
  apply Classical.byContradiction
  intro hn
  apply hb
  have hz : cs f = fun _ => [] := Turn.agree (a := a) (core_turn_self h0) (fun i => rfl) h0 (fun i i0 i1 => Classical.byContradiction fun h => hn ⟨i, i0, i1, h⟩)
  intro l hl
  obtain ⟨k, hk⟩ := List.getElem?_of_mem hl
  have hkl := (List.getElem?_eq_some_iff.1 hk).1
  have hcnt := hs.count
  have := congrFun hz (k : Int)
  rw [cs_small (by omega) (by omega), List.getD_eq_getElem?_getD, Int.toNat_natCast, hk] at this
  exact this

/-- A divisor that turns will do. -/
theorem good_of_turn {f : Form} (hs : Shape f) (hb : ¬ Bare f) (h0 : 0 < f.Count) {d q : Int} (hd : 1 ≤ d) (hdn : d ∣ f.Count) (t : Turn (cs f) d q) : Good f d ∧ f.Period / (f.Count / d) = q := by
  obtain ⟨i, _, _, hi⟩ := cs_some hs hb h0 0
  obtain ⟨m, hm⟩ := hdn
  have hmp : 0 < m := by
    rcases Int.lt_or_le 0 m with h | h
    · exact h
    · have : d * m ≤ 0 := Int.mul_nonpos_of_nonneg_of_nonpos (by omega) h
      omega
  have e1 : f.Count / d = m := by rw [hm, Int.mul_ediv_cancel_left _ (by omega)]
  have e2 : f.Period = m * q := by
    have t1 := t.mul m
    have t2 := core_turn_self h0
    rw [hm, Int.mul_comm d m] at t2
    exact t2.uniq t1 hi
  have e3 : f.Period / m = q := by rw [e2, Int.mul_ediv_cancel_left _ (by omega)]
  exact ⟨⟨hd, ⟨m, hm⟩, by rw [e1, e2]; exact Int.mul_emod_right _ _, by rw [e1, e3]; exact t⟩, by rw [e1, e3]⟩

/-- A least turn of a row of sets; all turns are its multiples. -/
theorem least_turn {h : Int → List Span} {n p : Int} (hn : 0 < n) (t : Turn h n p) : ∃ d q, 1 ≤ d ∧ Turn h d q ∧ ∀ d' q', Turn h d' q' → d ∣ d' := by
  have : ∃ m : Nat, 1 ≤ m ∧ ∃ q, Turn h m q := ⟨n.toNat, by omega, p, by rw [Int.toNat_of_nonneg (by omega)]; exact t⟩
  obtain ⟨m, hm⟩ := this
  induction m using Nat.strongRecOn with
  | _ m ih =>
    by_cases hex : ∃ m' : Nat, m' < m ∧ 1 ≤ m' ∧ ∃ q, Turn h m' q
    · obtain ⟨m', h1, h2⟩ := hex
      exact ih m' h1 h2
    · obtain ⟨h1, q, hq⟩ := hm
      refine ⟨m, q, by omega, hq, fun d' q' t' => ?_⟩
      apply Classical.byContradiction
      intro hnd
      have r0 := Int.emod_nonneg d' (show (m : Int) ≠ 0 by omega)
      have r1 := Int.emod_lt_of_pos d' (show (0 : Int) < m by omega)
      have hr : d' % m ≠ 0 := fun e => hnd (Int.dvd_of_emod_eq_zero e)
      have tt := t'.add ((hq.mul (d' / m)).neg)
      have e : d' + -(d' / m * m) = d' % m := by
        have := Int.emod_add_mul_ediv d' m
        rw [Int.mul_comm] at this
        omega
      rw [e] at tt
      exact hex ⟨(d' % m).toNat, by omega, by omega, _, by rw [Int.toNat_of_nonneg r0]; exact tt⟩

/-- The least divisor that will do is the least turn. -/
theorem least_is {f : Form} (hs : Shape f) (hb : ¬ Bare f) (h0 : 0 < f.Count) {d : Int} (hg : Good f d) (hmin : ∀ d', Good f d' → d ≤ d') {t q : Int} (ht : 1 ≤ t) (tt : Turn (cs f) t q) (hall : ∀ d' q', Turn (cs f) d' q' → t ∣ d') : d = t ∧ f.Period / (f.Count / d) = q := by
  have h1 := hall _ _ (core_turn_self h0)
  obtain ⟨g1, g2⟩ := good_of_turn hs hb h0 ht h1 tt
  have h2 := hmin t g1
  have h3 := Int.le_of_dvd hg.pos (hall _ _ hg.turn)
  have : d = t := by omega
  subst this
  exact ⟨rfl, g2⟩

theorem coreOf_eq {f g c c' : Form} (hf : Shape f) (hg : Shape g) (h : csz f = csz g) (hbb : Bare f ↔ Bare g) (hc : CoreOf f c) (hc' : CoreOf g c') : c = c' := by
  rcases hc with ⟨b1, rfl⟩ | ⟨b1, z1, d1, g1, m1, rfl⟩ <;> rcases hc' with ⟨b2, rfl⟩ | ⟨b2, z2, d2, g2, m2, rfl⟩
  · rfl
  · exact absurd (hbb.1 b1) b2
  · exact absurd (hbb.2 b2) b1
  · rw [csz_pos z1, csz_pos z2] at h
    obtain ⟨t, q, t1, t2, t3⟩ := least_turn z1 (core_turn_self z1)
    obtain ⟨e1, e2⟩ := least_is hf b1 z1 g1 m1 t1 t2 t3
    rw [h] at t2 t3
    obtain ⟨e3, e4⟩ := least_is hg b2 z2 g2 m2 t1 t2 t3
    have : d1 = d2 := by omega
    subst this
    have l1 : d1 ≤ f.Count := Int.le_of_dvd z1 g1.dvd
    have l2 : d1 ≤ g.Count := Int.le_of_dvd z2 g2.dvd
    have c1 := hf.count
    have c2 := hg.count
    have p1 := g1.pos
    rw [form_ext]
    refine ⟨by rw [e2, e4], rfl, ?_, rfl⟩
    apply List.ext_getElem?
    intro k
    show (f.Core.take d1.toNat)[k]? = (g.Core.take d1.toNat)[k]?
    by_cases hk : k < d1.toNat
    · rw [List.getElem?_take_of_lt hk, List.getElem?_take_of_lt hk]
      have := congrFun h (k : Int)
      rw [cs_small (by omega) (by omega), cs_small (by omega) (by omega), List.getD_eq_getElem?_getD, List.getD_eq_getElem?_getD, Int.toNat_natCast] at this
      rw [List.getElem?_eq_getElem (show k < f.Core.length by omega), List.getElem?_eq_getElem (show k < g.Core.length by omega)] at this ⊢
      exact congrArg some this
    · rw [List.getElem?_eq_none (by rw [List.length_take]; omega), List.getElem?_eq_none (by rw [List.length_take]; omega)]

theorem inc_ext : ∀ {a b : List Granule}, a.Pairwise (fun x y => x.Index < y.Index) → b.Pairwise (fun x y => x.Index < y.Index) → (∀ x, x ∈ a ↔ x ∈ b) → a = b
  | [], [], _, _, _ => rfl
  | [], y :: b, _, _, h => absurd ((h y).2 (List.mem_cons_self)) (List.not_mem_nil)
  | x :: a, [], _, _, h => absurd ((h x).1 (List.mem_cons_self)) (List.not_mem_nil)
  | x :: a, y :: b, ha, hb, h => by
    obtain ⟨a1, a2⟩ := List.pairwise_cons.1 ha
    obtain ⟨b1, b2⟩ := List.pairwise_cons.1 hb
    have hxy : x = y := by
      rcases List.mem_cons.1 ((h x).1 List.mem_cons_self) with e | e
      · exact e
      · rcases List.mem_cons.1 ((h y).2 List.mem_cons_self) with e' | e'
        · exact e'.symm
        · have := b1 x e; have := a1 y e'; omega
    subst hxy
    rw [inc_ext a2 b2 fun z => ⟨fun hz => ?_, fun hz => ?_⟩]
    · rcases List.mem_cons.1 ((h z).1 (List.mem_cons_of_mem _ hz)) with e | e
      · subst e; have := a1 z hz; omega
      · exact e
    · rcases List.mem_cons.1 ((h z).2 (List.mem_cons_of_mem _ hz)) with e | e
      · subst e; have := b1 z hz; omega
      · exact e

def NearF (f : Form) (m : Int) : Prop := ∀ g ∈ f.Odd, -m ≤ g.Index ∧ g.Index ≤ m

theorem same_csz {f g : Form} (hf : Shape f) (hg : Shape g) (nf : NearF f 200) (ng : NearF g 200) (cf : f.Count ≤ 12) (cg : g.Count ≤ 12) (h : ∀ i, -2000 ≤ i → i ≤ 2000 → setAt f i = setAt g i) : csz f = csz g ∧ (Bare f ↔ Bare g) := by
  have far : ∀ i, 200 < i → i ≤ 2000 → csz f i = csz g i := fun i i0 i1 => by
    have := h i (by omega) i1
    rw [setAt_csz (by rintro ⟨x, hx, e⟩; have := nf x hx; omega), setAt_csz (by rintro ⟨x, hx, e⟩; have := ng x hx; omega)] at this
    exact this
  have pos : ∀ {f : Form}, Shape f → ¬ Bare f → 0 < f.Count := fun {f} hs hb => by
    rcases Nat.eq_zero_or_pos f.Core.length with h | h
    · exact absurd (fun l hl' => by rw [List.length_eq_zero_iff.1 h] at hl'; cases hl') hb
    · have := hs.count; omega
  by_cases bf : Bare f <;> by_cases bg : Bare g
  · refine ⟨?_, iff_of_true bf bg⟩
    funext i; rw [csz_bare hf bf, csz_bare hg bg]
  · have z := pos hg bg
    obtain ⟨i, i0, i1, hi⟩ := cs_some hg bg z 201
    have := far i (by omega) (by omega)
    rw [csz_bare hf bf, csz_pos z] at this
    exact absurd this.symm hi
  · have z := pos hf bf
    obtain ⟨i, i0, i1, hi⟩ := cs_some hf bf z 201
    have := far i (by omega) (by omega)
    rw [csz_bare hg bg, csz_pos z] at this
    exact absurd this hi
  · refine ⟨?_, iff_of_false bf bg⟩
    have z1 := pos hf bf
    have z2 := pos hg bg
    rw [csz_pos z1, csz_pos z2] at far ⊢
    have t1 := (core_turn_self z1).mul g.Count
    have t2 := (core_turn_self z2).mul f.Count
    rw [Int.mul_comm f.Count g.Count] at t2
    have hb1 : 0 < g.Count * f.Count := Int.mul_pos z2 z1
    have hb2 : g.Count * f.Count ≤ 12 * 12 := Int.mul_le_mul cg cf (by omega) (by omega)
    obtain ⟨i, i0, i1, hi⟩ := cs_some hf bf z1 201
    have e : g.Count * f.Period = f.Count * g.Period := by
      have e1 := t1 i
      rw [far (i + g.Count * f.Count) (by omega) (by omega), t2, ← far i (by omega) (by omega)] at e1
      exact (shift_ne hi e1).symm
    rw [← e] at t2
    exact t1.agree t2 hb1 (a := 201) (fun i i0 i1 => far i (by omega) (by omega))

theorem same_form {f g : Form} (hlf : Lim f) (hlg : Lim g) (hf : Shape f) (hg : Shape g) (nf : NearF f 200) (ng : NearF g 200) (cf : f.Count ≤ 12) (cg : g.Count ≤ 12) (h : ∀ i, -2000 ≤ i → i ≤ 2000 → setAt f i = setAt g i) : canon_Form f = canon_Form g := by
  obtain ⟨hcz, hbb⟩ := same_csz hf hg nf ng cf cg h
  obtain ⟨c, h1, h2⟩ := canon_Form_eq hlf hf
  obtain ⟨c', h3, h4⟩ := canon_Form_eq hlg hg
  have := coreOf_eq hf hg hcz hbb h1 h3
  subst this
  rw [h2, h4]
  have half : ∀ {f g : Form}, Shape f → Shape g → NearF f 200 → csz f = csz g → (∀ i, -2000 ≤ i → i ≤ 2000 → setAt f i = setAt g i) → ∀ x, x ∈ f.Odd.filter (oddly f) → x ∈ g.Odd.filter (oddly g) := by
    intro f g hf hg nf hcz h x hx
    obtain ⟨m1, m2⟩ := List.mem_filter.1 hx
    rw [oddly_iff] at m2
    have hn := nf x m1
    have hset := h x.Index (by omega) (by omega)
    rw [setAt_odd hf.inc m1] at hset
    by_cases ho : isOdd g x.Index
    · obtain ⟨y, hy, e⟩ := ho
      rw [← e, setAt_odd hg.inc hy] at hset
      have : x = y := granule_ext.2 ⟨e.symm, hset⟩
      subst this
      exact List.mem_filter.2 ⟨hy, oddly_iff.2 (by rw [← hcz]; exact m2)⟩
    · rw [setAt_csz ho, ← hcz] at hset
      exact absurd hset.symm m2
  have : f.Odd.filter (oddly f) = g.Odd.filter (oddly g) := inc_ext ((inc_pairwise.1 hf.inc).filter _) ((inc_pairwise.1 hg.inc).filter _) fun x =>
    ⟨half hf hg nf hcz h x, half hg hf ng hcz.symm (fun i i0 i1 => (h i i0 i1).symm) x⟩
  unfold canonF
  rw [this]

end Go.Dn
