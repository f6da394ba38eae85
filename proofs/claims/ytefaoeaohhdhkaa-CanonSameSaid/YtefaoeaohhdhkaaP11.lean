/- canon: the least core. -/
import Derived.Test.YtefaoeaohhdhkaaP10
set_option linter.unusedVariables false
set_option linter.unusedSimpArgs false
namespace Go.Dn
open Go

/-- A divisor that will do. -/
structure Good (f : Form) (d : Int) : Prop where
  pos : 1 ≤ d
  dvd : d ∣ f.Count
  rest : f.Period % (f.Count / d) = 0
  turn : TurnZ f d (f.Period / (f.Count / d))

theorem good_self {f : Form} (h0 : 0 < f.Count) : Good f f.Count := by
  have e : f.Count / f.Count = 1 := Int.ediv_self (by omega)
  exact ⟨by omega, Int.dvd_refl _, by rw [e]; omega, by rw [e, Int.ediv_one]; exact cs_period (by omega)⟩

theorem copy_loop {x4 : List (List Span)} (hc : x4.length * 24 ≤ reachBytes) (hs : ∀ l ∈ x4, Len l) : loopO (canon_core.s1 x4) (0, []) = some x4 := by
  have hcl : (x4.length : Int) < 4611686018427387904 := len_lt (b := 23) hc
  have hr := reach_eq
  have hro := room_eq
  refine loopO_val (I := fun s r => r = x4 ∧ ∃ k : Nat, k ≤ x4.length ∧ s = ((k : Int), x4.take k)) (fun s => x4.length - s.1.toNat) ?_ ⟨rfl, 0, Nat.zero_le _, rfl⟩
  rintro s r ⟨rfl, k, hk, rfl⟩
  unfold canon_core.s1
  by_cases hlt : k < r.length
  · left
    have hl := hs _ (List.getElem_mem hlt)
    unfold Len at hl
    have hcp : clone? 16 r[k] = some r[k] := by unfold clone?; rw [if_pos (by omega)]
    have hap : app? 24 (r.take k) [r[k]] = some (r.take (k + 1)) := by
      rw [app?_ok (by simp only [List.length_take, List.length_cons, List.length_nil]; have : min k r.length + 1 ≤ r.length := by omega
                      have := Nat.mul_le_mul_right 24 this; omega)]
      rw [List.take_append_getElem hlt]
    refine ⟨((k : Int) + 1, r.take (k + 1)), ?_, ⟨rfl, k + 1, hlt, by push_cast; rfl⟩, by simp; omega⟩
    rw [dec_t (show (k : Int) < r.length by omega), cond_true, at?_nat hlt]
    simp only [Option.bind_some, hcp, hap]
    rw [w64_id (show _ by omega)]
  · right
    have : k = r.length := by omega
    subst this
    rw [dec_f (show ¬ ((r.length : Int) < r.length) by omega), cond_false, List.take_length]

theorem core_b0_eq {f : Form} (hl : Lim f) (hs : Shape f) {d : Int} (hd : 1 ≤ d) (hdn : d ∣ f.Count) (h0 : 0 < f.Count) :
    (Good f d ∧ canon_core.b0 f ([], 0, 0) d = some ((f.Core.take d.toNat, f.Period / (f.Count / d), d), 1)) ∨ (¬ Good f d ∧ canon_core.b0 f ([], 0, 0) d = some (([], 0, 0), 0)) := by
  have hle : d ≤ f.Count := Int.le_of_dvd h0 hdn
  have hcl : (f.Core.length : Int) < 4611686018427387904 := len_lt (b := 23) hl.core
  have hcnt := hs.count
  have hm : 0 < f.Count / d := Int.ediv_pos_of_pos_of_dvd h0 (by omega) hdn
  have hmle : f.Count / d ≤ f.Count := Int.ediv_le_self _ (by omega)
  have htd : f.Count.tdiv d = f.Count / d := Int.tdiv_eq_ediv_of_nonneg (by omega)
  have hq : 0 ≤ f.Period / (f.Count / d) ∧ f.Period / (f.Count / d) ≤ 1099511627776 := by
    have h1 := hs.per
    have h2 : f.Period / (f.Count / d) ≤ f.Period := Int.ediv_le_self _ h1.1
    have h3 : 0 ≤ f.Period / (f.Count / d) := Int.ediv_nonneg h1.1 (by omega)
    omega
  have hfl : safe_Floor f.Period (w64 (f.Count.tdiv d)) = some (f.Period / (f.Count / d), f.Period % (f.Count / d), 0) := by
    rw [htd, w64_id (show _ by omega), safe_Floor_eq hl.period (by unfold In64; omega), floorS_pos hm]
  unfold canon_core.b0
  rw [nz?_ok (by omega), hfl]
  simp only [Option.bind_some]
  by_cases hr : f.Period % (f.Count / d) = 0
  · rw [bne_f hr, cond_false]
    obtain ⟨r, h1, h2⟩ := canon_turn_eq hl hs hd hle hq
    rw [h1]
    cases r with
    | true =>
      left
      refine ⟨⟨hd, hdn, hr, h2.1 rfl⟩, ?_⟩
      have hcut : cut? f.Core 0 d = some (f.Core.take d.toNat) := by
        unfold cut?
        rw [if_pos ⟨by omega, by omega, by omega⟩]
        rfl
      simp only [Option.bind_some, Bool.not_true, cond_false, hcut]
      have := copy_loop (x4 := f.Core.take d.toNat) (by have := hl.core; simp only [List.length_take]; have h := Nat.mul_le_mul_right 24 (Nat.min_le_right d.toNat f.Core.length); omega) (fun l hl' => (hl.sets l (List.mem_of_mem_take hl')).1)
      rw [this]
      rfl
    | false =>
      right
      exact ⟨fun g => (by have := h2.2 g.turn; cases this), rfl⟩
  · right
    refine ⟨fun g => hr g.rest, ?_⟩
    rw [bne_t hr]
    rfl

/-- The least divisor that will do. -/
theorem least_good {f : Form} (h0 : 0 < f.Count) : ∃ d, Good f d ∧ ∀ d', Good f d' → d ≤ d' := by
  have : ∃ n : Nat, Good f n := ⟨f.Count.toNat, by rw [Int.toNat_of_nonneg (by omega)]; exact good_self h0⟩
  obtain ⟨n, hn⟩ := this
  induction n using Nat.strongRecOn with
  | _ n ih =>
    by_cases h : ∃ m : Nat, m < n ∧ Good f m
    · obtain ⟨m, h1, h2⟩ := h
      exact ih m h1 h2
    · refine ⟨n, hn, fun d' hd' => ?_⟩
      apply Classical.byContradiction
      intro hlt
      have := hd'.pos
      exact h ⟨d'.toNat, by omega, by rw [Int.toNat_of_nonneg (by omega)]; exact hd'⟩

theorem canon_bare_eq {f : Form} (hl : Lim f) : canon_bare f = gran_bare f := by
  unfold canon_bare gran_bare
  rfl

/-- The least core. -/
theorem canon_core_eq {f : Form} (hl : Lim f) (hs : Shape f) : (Bare f ∧ canon_core f = some (Form.mk 0 0 [] [])) ∨
    (¬ Bare f ∧ 0 < f.Count ∧ ∃ d, Good f d ∧ (∀ d', Good f d' → d ≤ d') ∧ canon_core f = some (Form.mk (f.Period / (f.Count / d)) d (f.Core.take d.toNat) [])) := by
  have hcl : (f.Core.length : Int) < 4611686018427387904 := len_lt (b := 23) hl.core
  have hcnt := hs.count
  obtain ⟨b, h1, h2⟩ := gran_bare_eq hl
  unfold canon_core
  rw [canon_bare_eq hl, h1]
  cases b with
  | true => exact .inl ⟨h2.1 rfl, rfl⟩
  | false =>
    right
    have hnb : ¬ Bare f := fun h => by have := h2.2 h; cases this
    have h0 : 0 < f.Count := by
      rcases Nat.eq_zero_or_pos f.Core.length with h | h
      · exact absurd (fun l hl' => by rw [List.length_eq_zero_iff.1 h] at hl'; cases hl') hnb
      · omega
    obtain ⟨d, hg, hmin⟩ := least_good h0
    refine ⟨hnb, h0, d, hg, hmin, ?_⟩
    have hdn : d ≤ f.Count := Int.le_of_dvd h0 hg.dvd
    have hd1 := hg.pos
    have hloop : loopO (canon_divisors_1.s0 f.Count (rangeY (canon_core.b0 f))) (1, (([], 0, 0), 0)) = some (.ret ((f.Core.take d.toNat, f.Period / (f.Count / d), d), 1)) := by
      refine loopO_val (I := fun s r => r = .ret ((f.Core.take d.toNat, f.Period / (f.Count / d), d), 1) ∧ ∃ k : Int, 1 ≤ k ∧ k ≤ d ∧ s = (k, (([], 0, 0), 0))) (fun s => (d - s.1).toNat) ?_ ⟨rfl, 1, by omega, hd1, rfl⟩
      rintro s r ⟨rfl, k, k1, k2, rfl⟩
      unfold canon_divisors_1.s0
      rw [dec_t (show k ≤ f.Count by omega), cond_true, nz?_ok (by omega)]
      simp only [Option.bind_some]
      by_cases hkd : k ∣ f.Count
      · rw [beq_t (show f.Count.tmod k = 0 from Int.tmod_eq_zero_of_dvd hkd), cond_true]
        rcases core_b0_eq hl hs k1 hkd h0 with ⟨g, e⟩ | ⟨g, e⟩
        · have : k = d := by have := hmin k g; omega
          subst this
          right
          simp only [rangeY, if_true, e, Option.map_some, Option.bind_some]
          rfl
        · left
          have hne : k ≠ d := fun h => g (h ▸ hg)
          refine ⟨(k + 1, (([], 0, 0), 0)), ?_, ⟨trivial, k + 1, by omega, by omega, rfl⟩, by simp; omega⟩
          simp only [rangeY, if_true, e, Option.map_some, Option.bind_some]
          rw [w64_id (show _ by omega)]
          rfl
      · left
        have hne : k ≠ d := fun h => hkd (h ▸ hg.dvd)
        refine ⟨(k + 1, (([], 0, 0), 0)), ?_, ⟨trivial, k + 1, by omega, by omega, rfl⟩, by simp; omega⟩
        rw [beq_f (fun h => hkd (Int.dvd_of_tmod_eq_zero h)), cond_false]
        simp only [Option.bind_some, cond_false]
        rw [w64_id (show _ by omega)]
    unfold canon_divisors_1
    rw [hloop]
    rfl

end Go.Dn
