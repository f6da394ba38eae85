/- canon: when a core turns. -/
import Derived.Test.YtefaoeaohhdhkaaP9
set_option linter.unusedVariables false
set_option linter.unusedSimpArgs false
namespace Go.Dn
open Go

/-- The core's set of an index, wherever its ticks are. -/
noncomputable def cs (f : Form) (i : Int) : List Span := (coreAt f i).map (shiftS (perAt f i))

theorem shift_shift (l : List Span) (a b : Int) : (l.map (shiftS a)).map (shiftS b) = l.map (shiftS (a + b)) := by
  rw [List.map_map]
  congr 1
  funext s
  simp only [Function.comp, shiftS, Span.mk.injEq]
  omega

theorem shift_inj {a b : List Span} {d : Int} (h : a.map (shiftS d) = b.map (shiftS d)) : a = b := by
  have := congrArg (List.map (shiftS (-d))) h
  rw [shift_shift, shift_shift, Int.add_right_neg, shift0, shift0] at this
  exact this

theorem cs_period {f : Form} (h0 : f.Count ≠ 0) (i : Int) : cs f (i + f.Count) = (cs f i).map (shiftS f.Period) := by
  unfold cs coreAt perAt
  rw [shift_shift, Int.add_emod_right, Int.add_ediv_of_dvd_right (Int.dvd_refl _), Int.ediv_self h0, Int.add_mul, Int.one_mul]

theorem cs_periods {f : Form} (h0 : f.Count ≠ 0) (i k : Int) : cs f (i + f.Count * k) = (cs f i).map (shiftS (k * f.Period)) := by
  unfold cs coreAt perAt
  rw [shift_shift, Int.add_mul_emod_self_left, Int.add_mul_ediv_left _ _ h0, Int.add_mul]

theorem cs_small {f : Form} {i : Int} (h0 : 0 ≤ i) (h1 : i < f.Count) : cs f i = f.Core.getD i.toNat [] := by
  unfold cs coreAt perAt
  rw [Int.emod_eq_of_lt h0 h1, Int.ediv_eq_zero_of_lt h0 h1, Int.zero_mul, shift0]

/-- The core turns at d of its granules, q ticks later. -/
def TurnZ (f : Form) (d q : Int) : Prop := ∀ i, cs f (i + d) = (cs f i).map (shiftS q)

theorem turn_of {f : Form} (h0 : 0 < f.Count) {d q : Int} (h : ∀ i, 0 ≤ i → i < f.Count → cs f (i + d) = (cs f i).map (shiftS q)) : TurnZ f d q := by
  intro i
  have e : i = i % f.Count + f.Count * (i / f.Count) := (Int.emod_add_mul_ediv i f.Count).symm
  have h1 := h (i % f.Count) (Int.emod_nonneg i (by omega)) (Int.emod_lt_of_pos i h0)
  have e2 : i + d = (i % f.Count + d) + f.Count * (i / f.Count) := by omega
  rw [e2, cs_periods (by omega), h1]
  conv => rhs; rw [e, cs_periods (by omega)]
  rw [shift_shift, shift_shift, Int.add_comm]

def wrapI (f : Form) (d k : Int) : Int := if k + d ≥ f.Count then k + d - f.Count else k + d
def wrapP (f : Form) (d k : Int) : Int := if k + d ≥ f.Count then f.Period else 0

theorem wrap_cs {f : Form} {d k : Int} (hd : 1 ≤ d) (hdn : d ≤ f.Count) (h0 : 0 ≤ k) (h1 : k < f.Count) : 0 ≤ wrapI f d k ∧ wrapI f d k < f.Count ∧ cs f (k + d) = (cs f (wrapI f d k)).map (shiftS (wrapP f d k)) := by
  unfold wrapI wrapP
  by_cases h : k + d ≥ f.Count
  · rw [if_pos h, if_pos h]
    refine ⟨by omega, by omega, ?_⟩
    rw [← cs_period (by omega)]
    congr 1; omega
  · rw [if_neg h, if_neg h, shift0]
    exact ⟨by omega, by omega, rfl⟩

theorem canon_turn_eq {f : Form} (hl : Lim f) (hs : Shape f) {d q : Int} (hd : 1 ≤ d) (hdn : d ≤ f.Count) (hq : 0 ≤ q ∧ q ≤ 1099511627776) : ∃ r, canon_turn f d q = some r ∧ (r = true ↔ TurnZ f d q) := by
  have hcl : (f.Core.length : Int) < 4611686018427387904 := len_lt (b := 23) hl.core
  have hcnt := hs.count
  have key : ∀ k : Int, 0 ≤ k → k < f.Count → (cs f (wrapI f d k) = (cs f k).map (shiftS (q - wrapP f d k)) ↔ cs f (k + d) = (cs f k).map (shiftS q)) := fun k k0 k1 => by
    obtain ⟨_, _, h⟩ := wrap_cs hd hdn k0 k1
    rw [h]
    constructor
    · intro e
      rw [e, shift_shift]
      congr 2; omega
    · intro e
      apply shift_inj (d := wrapP f d k)
      rw [e, shift_shift]
      congr 2; omega
  unfold canon_turn
  rcases all_loop (l := f.Core) (step := canon_turn.s0 f d q) (fun k x => cs f (wrapI f d k) = x.map (shiftS (q - wrapP f d k))) (no := .ret false) (yes := .go ()) (fun k x hk hp => by
    have hlt := (List.getElem?_eq_some_iff.1 hk).1
    have hat : at? f.Core (k : Int) = some x := by rw [at?_nat hlt]; rw [List.getElem?_eq_getElem hlt] at hk; exact hk
    obtain ⟨w0, w1, _⟩ := wrap_cs (f := f) (k := (k : Int)) hd hdn (by omega) (by omega)
    have hx := hs.core x (List.mem_of_getElem? hk)
    have hlx := (hl.sets x (List.mem_of_getElem? hk)).1
    have hwl : (wrapI f d k).toNat < f.Core.length := by omega
    have hgw : cs f (wrapI f d k) = f.Core[(wrapI f d k).toNat] := by rw [cs_small w0 w1, List.getD_eq_getElem?_getD, List.getElem?_eq_getElem hwl]; rfl
    have hy := hs.core _ (List.getElem_mem hwl)
    have hat2 : at? f.Core (wrapI f d k) = some f.Core[(wrapI f d k).toNat] := at?_lt w0 (by omega)
    have hpk : (bif decide (w64 ((k : Int) + d) ≥ f.Count) then some (w64 (w64 ((k : Int) + d) - f.Count), f.Period) else some (w64 ((k : Int) + d), 0)) = some (wrapI f d k, wrapP f d k) := by
      rw [w64_id (show _ by omega)]
      unfold wrapI wrapP
      by_cases h : (k : Int) + d ≥ f.Count
      · rw [dec_t h, cond_true, if_pos h, if_pos h, w64_id (show _ by omega)]
      · rw [dec_f h, cond_false, if_neg h, if_neg h]
    obtain ⟨r, h1, h2⟩ := canon_shifted_eq (d := q - wrapP f d k) hx hy hlx
    have hwp : 0 ≤ wrapP f d k ∧ wrapP f d k ≤ 1099511627776 := by have := hs.per; unfold wrapP; split <;> omega
    unfold canon_turn.s0
    rw [dec_t (show (k : Int) < f.Core.length by omega), cond_true, hat]
    simp only [Option.bind_some, hpk, hat2]
    rw [w64_id (show _ by omega), h1]
    simp only [Option.bind_some]
    rw [hgw]
    cases r with
    | true => exact .inl ⟨by simp only [Bool.not_true, cond_false, Option.bind_some, Jx.elim]; rw [w64_id (show _ by omega)], h2.1 rfl⟩
    | false => exact .inr ⟨rfl, fun h => by have := h2.2 h; cases this⟩) (by
    unfold canon_turn.s0; rw [dec_f (by omega)]; rfl) with ⟨h1, h2⟩ | ⟨h1, h2⟩
  · rw [h1]
    refine ⟨true, rfl, ⟨fun _ => turn_of (by omega) fun i i0 i1 => ?_, fun _ => rfl⟩⟩
    have hlt : i.toNat < f.Core.length := by omega
    have := h2 i.toNat _ (List.getElem?_eq_getElem hlt)
    rw [Int.toNat_of_nonneg i0] at this
    refine (key i i0 i1).1 ?_
    rw [this, cs_small i0 i1, List.getD_eq_getElem?_getD, List.getElem?_eq_getElem hlt]; rfl
  · rw [h1]
    refine ⟨false, rfl, ⟨(fun h => nomatch h), fun ht => absurd (fun k x hk => ?_) h2⟩⟩
    have hlt := (List.getElem?_eq_some_iff.1 hk).1
    have := (key k (by omega) (by omega)).2 (ht k)
    rw [this, cs_small (by omega) (by omega), List.getD_eq_getElem?_getD, Int.toNat_natCast, hk]; rfl

end Go.Dn
