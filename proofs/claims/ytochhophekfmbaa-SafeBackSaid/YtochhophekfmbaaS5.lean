/- The laws SafeCommon and SafeBack: they answer true. -/
import Derived.Test.YtochhophekfmbaaS3
set_option linter.unusedSimpArgs false
set_option linter.unusedVariables false
namespace Go.Dn
open Go Go.Proofs

theorem beq_t {a b : Int} (h : a = b) : (a == b) = true := by simp [h]
theorem beq_f {a b : Int} (h : a ≠ b) : (a == b) = false := by simp [h]
theorem bne_t {a b : Int} (h : a ≠ b) : (a != b) = true := by simp [h]
theorem bne_f {a b : Int} (h : a = b) : (a != b) = false := by simp [h]
theorem dec_t {p : Prop} [Decidable p] (h : p) : decide p = true := by simp [h]
theorem dec_f {p : Prop} [Decidable p] (h : ¬ p) : decide p = false := by simp [h]

theorem gcd_big {a b : Int} (ha : In64 a) (hb : In64 b) (h : ¬ In64 (Int.gcd a b)) : (a = -9223372036854775808 ∨ a = 0) ∧ (b = -9223372036854775808 ∨ b = 0) := by
  have h1 : a ≠ 0 → Int.gcd a b ≤ a.natAbs := fun h => Int.gcd_le_natAbs_left b h
  have h2 : b ≠ 0 → Int.gcd a b ≤ b.natAbs := fun h => Int.gcd_le_natAbs_right a h
  unfold In64 at *
  constructor
  · by_cases h0 : a = 0
    · exact .inr h0
    · have := h1 h0; omega
  · by_cases h0 : b = 0
    · exact .inr h0
    · have := h2 h0; omega

theorem tmod_gcd_l (a b : Int) : a.tmod (Int.gcd a b) = 0 := Int.tmod_eq_zero_of_dvd (Int.gcd_dvd_left a b)
theorem tmod_gcd_r (a b : Int) : b.tmod (Int.gcd a b) = 0 := Int.tmod_eq_zero_of_dvd (Int.gcd_dvd_right a b)
theorem tmod_gcd_c {a b c : Int} (ha : a.tmod c = 0) (hb : b.tmod c = 0) : (Int.gcd a b : Int).tmod c = 0 :=
  Int.tmod_eq_zero_of_dvd (Int.dvd_coe_gcd (Int.dvd_of_tmod_eq_zero ha) (Int.dvd_of_tmod_eq_zero hb))

theorem gcd_lcm (a b : Int) : (Int.gcd a b : Int) * Int.lcm a b = (a * b).natAbs := by
  have : Int.gcd a b * Int.lcm a b = a.natAbs * b.natAbs := Nat.gcd_mul_lcm a.natAbs b.natAbs
  rw [← Int.natCast_mul, this, Int.natAbs_mul]

theorem lcm_zero_iff (a b : Int) : (Int.lcm a b : Int) = 0 ↔ a = 0 ∨ b = 0 := by
  constructor
  · intro h
    have h : Nat.lcm a.natAbs b.natAbs = 0 := by
      have : (Int.lcm a b : Int) = (Nat.lcm a.natAbs b.natAbs : Nat) := rfl
      omega
    rcases Nat.lcm_eq_zero_iff.1 h with h | h
    · exact .inl (by omega)
    · exact .inr (by omega)
  · rintro (rfl | rfl)
    · simp
    · simp

/-- SafeCommon, once the divisor fits. -/
theorem gcd_zero (a b : Int) : ((Int.gcd a b : Int) = 0) ↔ (a = 0 ∧ b = 0) := by
  rw [Int.ofNat_eq_zero.symm.symm]
  constructor
  · intro h
    have h : Int.gcd a b = 0 := by omega
    exact Int.gcd_eq_zero_iff.1 h
  · rintro ⟨rfl, rfl⟩
    rfl

theorem dec_cases (p : Prop) [Decidable p] : decide p = true ∨ decide p = false := by cases decide p <;> simp
theorem beq_cases (a b : Int) : (a == b) = true ∨ (a == b) = false := by cases a == b <;> simp

set_option maxRecDepth 100000 in
set_option maxHeartbeats 8000000 in
/-- Once the divisor fits, and is no 0. -/
theorem common_pos {a b c g : Int} {f h i : Int} {p' q' l' : Int} (hG : Fn CX 18 [int64 a, int64 b] (two64 (g, 0))) (hL : Fn CX 19 [int64 a, int64 b] (two64 (l', f)))
    (hM : Fn CX 16 [int64 a, int64 b] (two64 (p', h))) (hQ : Fn CX 16 [int64 g, int64 l'] (two64 (q', i)))
    (hh : h = 0 ∨ h = 10) (hg : 0 < g) (hz : ¬(a = 0 ∧ b = 0)) (t1 : a.tmod g = 0) (t2 : b.tmod g = 0) (t3 : a.tmod c = 0 → b.tmod c = 0 → g.tmod c = 0)
    (hend : (f = 10 ∧ l' = 0) ∨ (f = 0 ∧ (h = 10 ∨ i = 10)) ∨ (f = 0 ∧ h = 0 ∧ i = 0 ∧ (q' = p' ∨ q' = IntKind.i64.wrap (0 - p')) ∧ 0 ≤ l' ∧ (l' = 0 ↔ a = 0 ∨ b = 0))) :
    Fn CX 4 [int64 a, int64 b, int64 c] (.v (.bool true)) := by
  refine Fn.ends Try.func4 rfl rfl rfl rfl rfl rfl ?_
  have hg0 : g ≠ 0 := by omega
  have k1 : decide (g < 0) = false := dec_f (by omega)
  have k2 : (g == 0) = false := beq_f hg0
  have k3 : decide (g > 0) = true := dec_t hg
  have k4 : (a.tmod g != 0) = false := bne_f t1
  have k5 : (b.tmod g != 0) = false := bne_f t2
  have kz : ((a == 0) = true ∧ (b == 0) = false ∧ ((g == 0) != (b == 0)) = false) ∨ ((a == 0) = false ∧ ((g == 0) != false) = false) := by
    by_cases h0 : a = 0
    · have : b ≠ 0 := fun e => hz ⟨h0, e⟩
      exact .inl ⟨beq_t h0, beq_f this, by rw [k2, beq_f this]; rfl⟩
    · exact .inr ⟨beq_f h0, by rw [k2]; rfl⟩
  have kc : (c != 0) = false ∨ (c ≠ 0 ∧ (c != 0) = true ∧ ((a.tmod c == 0) = false ∨ ((a.tmod c == 0) = true ∧ ((b.tmod c == 0) = false ∨ ((b.tmod c == 0) = true ∧ (g.tmod c != 0) = false))))) := by
    by_cases h0 : c = 0
    · exact .inl (bne_f h0)
    · refine .inr ⟨h0, bne_t h0, ?_⟩
      by_cases h1 : a.tmod c = 0
      · refine .inr ⟨beq_t h1, ?_⟩
        by_cases h2 : b.tmod c = 0
        · exact .inr ⟨beq_t h2, bne_f (t3 h1 h2)⟩
        · exact .inl (beq_f h2)
      · exact .inl (beq_f h1)
  have kend : (f = 10 ∧ l' = 0) ∨ (f = 0 ∧ h = 10) ∨ (f = 0 ∧ h = 0 ∧ i = 10) ∨ (f = 0 ∧ h = 0 ∧ i = 0 ∧ ((q' == p') = true ∨ ((q' == p') = false ∧ (q' == IntKind.i64.wrap (0 - p')) = true)) ∧ decide (l' ≥ 0) = true ∧
      (((a == 0) = true ∧ ((l' == 0) == true) = true) ∨ ((a == 0) = false ∧ ((l' == 0) == (b == 0)) = true))) := by
    rcases hend with h | ⟨h1, h2 | h2⟩ | ⟨h1, h2, h3, h4, h5, h6⟩
    · exact .inl h
    · exact .inr (.inl ⟨h1, h2⟩)
    · by_cases h3 : h = 10
      · exact .inr (.inl ⟨h1, h3⟩)
      · exact .inr (.inr (.inl ⟨h1, (hh.resolve_right h3), h2⟩))
    · refine .inr (.inr (.inr ⟨h1, h2, h3, ?_, dec_t h5, ?_⟩))
      · by_cases h7 : q' = p'
        · exact .inl (beq_t h7)
        · exact .inr ⟨beq_f h7, beq_t (h4.resolve_left h7)⟩
      · by_cases h7 : a = 0
        · exact .inl ⟨beq_t h7, by rw [beq_t (h6.2 (.inl h7))]; rfl⟩
        · refine .inr ⟨beq_f h7, ?_⟩
          by_cases h8 : b = 0
          · rw [beq_t h8, beq_t (h6.2 (.inr h8))]; rfl
          · rw [beq_f h8, beq_f (fun e => (h6.1 e).elim h7 h8)]; rfl
  rcases kz with ⟨z1, z2, z3⟩ | ⟨z1, z2⟩ <;> rcases kc with c1 | ⟨c0, c1, c2 | ⟨c2, c3 | ⟨c3, c4⟩⟩⟩ <;> rcases kend with ⟨rfl, rfl⟩ | ⟨rfl, rfl⟩ | ⟨rfl, rfl, rfl⟩ | ⟨rfl, rfl, rfl, e1 | ⟨e1, e2⟩, e3, ⟨e4, e5⟩ | ⟨e4, e5⟩⟩
  all_goals first | (rw [z1] at e4; cases e4; done) | skip
  all_goals
    repeat' first
      | (apply Ops.moveV; exact rfl; exact rfl)
      | (apply Ops.int; exact rfl; exact rfl; exact rfl; exact rfl; exact rfl)
      | (apply Ops.assignV; exact rfl; exact rfl)
      | apply Runs.then
      | (apply Runs.region; exact rfl)
      | apply Ops.nil
      | (apply Ops.extract; exact rfl; exact rfl; exact rfl)
      | (apply Ops.moveT; exact rfl; exact rfl)
      | (apply Ops.moveA; exact rfl; exact rfl)
      | (apply Ops.assignA; exact rfl; exact rfl)
      | (apply Ops.not; exact rfl; exact rfl)
      | (apply Ops.neg; exact rfl; exact rfl)
      | (apply Ops.conv; exact rfl; exact rfl; exact rfl; exact rfl)
      | (apply Ops.shr; exact rfl; exact rfl; decide; exact rfl)
      | (apply Ops.shl; exact rfl; exact rfl; decide; exact rfl)
      | (apply Ops.neB; exact rfl; exact rfl; exact rfl; exact rfl)
      | (apply Ops.eqB; exact rfl; exact rfl; exact rfl; exact rfl)
      | (apply Ops.pickTV; exact rfl; exact rfl; exact rfl)
      | (apply Ops.pickFV; exact rfl; exact rfl; exact rfl)
      | (apply Ops.want; exact rfl; exact rfl)
      | (apply Ops.pass; exact rfl; exact rfl; exact rfl)
      | (apply Ops.passU; exact rfl; exact rfl; exact rfl)
      | (apply Runs.drawn; kernel_rfl; exact rfl)
      | apply Runs.inBlock
      | refine Ops.call rfl (hG) rfl ?_
      | refine Ops.call rfl (hL) rfl ?_
      | refine Ops.call rfl (hM) rfl ?_
      | refine Ops.call rfl (hQ) rfl ?_
      | refine Ops.call rfl (awake_fn) rfl ?_
      | refine Ops.rem rfl rfl hg0 rfl ?_
      | refine Ops.rem rfl rfl c0 rfl ?_
      | (apply Ops.knownT; exact rfl; exact rfl; assumption)
      | (apply Ops.knownF; exact rfl; exact rfl; assumption)
      | (refine Ops.split rfl rfl ?_ ?_ <;> intro _)
      | (apply Runs.yes; exact rfl)
      | (apply Runs.no; exact rfl)
      | (apply Runs.yesB; exact rfl; assumption)
      | (apply Runs.noB; exact rfl; assumption)
      | (refine Runs.whether rfl ?_ ?_ <;> intro _)
      | apply Runs.skip
      | apply Runs.ret
      | apply Runs.exit
      | (apply Ends.ret; exact rfl; exact rfl)
      | (apply Ends.normal; exact rfl; exact rfl)
  all_goals first | rfl | trace_state

set_option maxRecDepth 100000 in
set_option maxHeartbeats 8000000 in
theorem common_fn (a b c : Int) (ha : In64 a) (hb : In64 b) (hc : In64 c) : Fn CX 4 [int64 a, int64 b, int64 c] (.v (.bool true)) := by
  by_cases hg : In64 (Int.gcd a b)
  · have hG : Fn CX 18 [int64 a, int64 b] (two64 (Int.gcd a b, 0)) := by
      have := Gcd_fn a b ha hb
      rwa [gcdS, fitS_of hg] at this
    have hz := gcd_zero a b
    by_cases h0 : a = 0 ∧ b = 0
    · obtain ⟨rfl, rfl⟩ := h0
      have hG : Fn CX 18 [int64 0, int64 0] (two64 (0, 0)) := hG
      have hL : Fn CX 19 [int64 0, int64 0] (two64 (0, 0)) := Lcm_fn 0 0 ha hb
      have hM : Fn CX 16 [int64 0, int64 0] (two64 (0, 0)) := mul_fn 0 0 ha hb
      have k1 : ((0 : Int).tmod c == 0) = true := by simp
      have k2 : ((0 : Int).tmod c != 0) = false := by simp
      refine Fn.ends Try.func4 rfl rfl rfl rfl rfl rfl ?_
      by_cases h0 : c = 0
      · subst h0
        repeat' first
          | (apply Ops.moveV; exact rfl; exact rfl)
          | (apply Ops.int; exact rfl; exact rfl; exact rfl; exact rfl; exact rfl)
          | (apply Ops.assignV; exact rfl; exact rfl)
          | apply Runs.then
          | (apply Runs.region; exact rfl)
          | apply Ops.nil
          | (apply Ops.extract; exact rfl; exact rfl; exact rfl)
          | (apply Ops.moveT; exact rfl; exact rfl)
          | (apply Ops.moveA; exact rfl; exact rfl)
          | (apply Ops.assignA; exact rfl; exact rfl)
          | (apply Ops.not; exact rfl; exact rfl)
          | (apply Ops.neg; exact rfl; exact rfl)
          | (apply Ops.conv; exact rfl; exact rfl; exact rfl; exact rfl)
          | (apply Ops.shr; exact rfl; exact rfl; decide; exact rfl)
          | (apply Ops.shl; exact rfl; exact rfl; decide; exact rfl)
          | (apply Ops.neB; exact rfl; exact rfl; exact rfl; exact rfl)
          | (apply Ops.eqB; exact rfl; exact rfl; exact rfl; exact rfl)
          | (apply Ops.pickTV; exact rfl; exact rfl; exact rfl)
          | (apply Ops.pickFV; exact rfl; exact rfl; exact rfl)
          | (apply Ops.want; exact rfl; exact rfl)
          | (apply Ops.pass; exact rfl; exact rfl; exact rfl)
          | (apply Ops.passU; exact rfl; exact rfl; exact rfl)
          | (apply Runs.drawn; kernel_rfl; exact rfl)
          | apply Runs.inBlock
          | refine Ops.call rfl (hG) rfl ?_
          | refine Ops.call rfl (hL) rfl ?_
          | refine Ops.call rfl (hM) rfl ?_
          | refine Ops.call rfl (awake_fn) rfl ?_
          | (apply Ops.knownT; exact rfl; exact rfl; assumption)
          | (apply Ops.knownF; exact rfl; exact rfl; assumption)
          | (refine Ops.split rfl rfl ?_ ?_ <;> intro _)
          | (apply Runs.yes; exact rfl)
          | (apply Runs.no; exact rfl)
          | (apply Runs.yesB; exact rfl; assumption)
          | (apply Runs.noB; exact rfl; assumption)
          | (refine Runs.whether rfl ?_ ?_ <;> intro _)
          | apply Runs.skip
          | apply Runs.ret
          | apply Runs.exit
          | (apply Ends.ret; exact rfl; exact rfl)
          | (apply Ends.normal; exact rfl; exact rfl)
        all_goals rfl
      · have k3 : (c != 0) = true := bne_t h0
        repeat' first
          | (apply Ops.moveV; exact rfl; exact rfl)
          | (apply Ops.int; exact rfl; exact rfl; exact rfl; exact rfl; exact rfl)
          | (apply Ops.assignV; exact rfl; exact rfl)
          | apply Runs.then
          | (apply Runs.region; exact rfl)
          | apply Ops.nil
          | (apply Ops.extract; exact rfl; exact rfl; exact rfl)
          | (apply Ops.moveT; exact rfl; exact rfl)
          | (apply Ops.moveA; exact rfl; exact rfl)
          | (apply Ops.assignA; exact rfl; exact rfl)
          | (apply Ops.not; exact rfl; exact rfl)
          | (apply Ops.neg; exact rfl; exact rfl)
          | (apply Ops.conv; exact rfl; exact rfl; exact rfl; exact rfl)
          | (apply Ops.shr; exact rfl; exact rfl; decide; exact rfl)
          | (apply Ops.shl; exact rfl; exact rfl; decide; exact rfl)
          | (apply Ops.neB; exact rfl; exact rfl; exact rfl; exact rfl)
          | (apply Ops.eqB; exact rfl; exact rfl; exact rfl; exact rfl)
          | (apply Ops.pickTV; exact rfl; exact rfl; exact rfl)
          | (apply Ops.pickFV; exact rfl; exact rfl; exact rfl)
          | (apply Ops.want; exact rfl; exact rfl)
          | (apply Ops.pass; exact rfl; exact rfl; exact rfl)
          | (apply Ops.passU; exact rfl; exact rfl; exact rfl)
          | (apply Runs.drawn; kernel_rfl; exact rfl)
          | apply Runs.inBlock
          | refine Ops.call rfl (hG) rfl ?_
          | refine Ops.call rfl (hL) rfl ?_
          | refine Ops.call rfl (hM) rfl ?_
          | refine Ops.call rfl (awake_fn) rfl ?_
          | refine Ops.rem rfl rfl h0 rfl ?_
          | (apply Ops.knownT; exact rfl; exact rfl; assumption)
          | (apply Ops.knownF; exact rfl; exact rfl; assumption)
          | (refine Ops.split rfl rfl ?_ ?_ <;> intro _)
          | (apply Runs.yes; exact rfl)
          | (apply Runs.no; exact rfl)
          | (apply Runs.yesB; exact rfl; assumption)
          | (apply Runs.noB; exact rfl; assumption)
          | (refine Runs.whether rfl ?_ ?_ <;> intro _)
          | apply Runs.skip
          | apply Runs.ret
          | apply Runs.exit
          | (apply Ends.ret; exact rfl; exact rfl)
          | (apply Ends.normal; exact rfl; exact rfl)
        all_goals rfl
    · have g0 : (0 : Int) < Int.gcd a b := by
        have : (Int.gcd a b : Int) ≠ 0 := fun e => h0 (hz.1 e)
        omega
      have hgl := gcd_lcm a b
      have hlz := lcm_zero_iff a b
      have hL := Lcm_fn a b ha hb
      have hM := mul_fn a b ha hb
      have l0 : 0 ≤ (Int.lcm a b : Int) := by omega
      have t3 := @tmod_gcd_c a b c
      have t1 := tmod_gcd_l a b
      have t2 := tmod_gcd_r a b
      rw [lcmS] at hL
      generalize (Int.gcd a b : Int) = g at *
      generalize (Int.lcm a b : Int) = l at *
      have hh : (fitS (a * b)).2 = 0 ∨ (fitS (a * b)).2 = 10 := by unfold fitS; split <;> simp
      have hQ := mul_fn g (fitS l).1 hg (fitS_in l)
      refine common_pos (l' := (fitS l).1) (f := (fitS l).2) (p' := (fitS (a * b)).1) (h := (fitS (a * b)).2) (q' := (fitS (g * (fitS l).1)).1) (i := (fitS (g * (fitS l).1)).2) hG hL hM hQ hh g0 h0 t1 t2 t3 ?_
      by_cases hl : In64 l
      · rw [fitS_of hl]
        by_cases hab : In64 (a * b)
        · rw [fitS_of hab]
          by_cases hgl2 : In64 (g * l)
          · rw [fitS_of hgl2]
            refine .inr (.inr ⟨rfl, rfl, rfl, ?_, l0, hlz⟩)
            simp only [wrap_i64]
            unfold In64 at hab hgl2
            omega
          · rw [fitS_not hgl2]
            exact .inr (.inl ⟨rfl, .inr rfl⟩)
        · rw [fitS_not hab]
          exact .inr (.inl ⟨rfl, .inl rfl⟩)
      · rw [fitS_not hl]
        exact .inl ⟨rfl, rfl⟩
  · obtain ⟨hA, hB⟩ := gcd_big ha hb hg
    have hG : Fn CX 18 [int64 a, int64 b] (two64 (0, 10)) := by
      have := Gcd_fn a b ha hb
      rwa [gcdS, fitS_not hg] at this
    have hL := Lcm_fn a b ha hb
    refine Fn.ends Try.func4 rfl rfl rfl rfl rfl rfl ?_
    rcases hA with rfl | rfl <;> rcases hB with rfl | rfl
    · refine id ?_
      repeat' first
        | (apply Ops.moveV; exact rfl; exact rfl)
        | (apply Ops.int; exact rfl; exact rfl; exact rfl; exact rfl; exact rfl)
        | (apply Ops.assignV; exact rfl; exact rfl)
        | apply Runs.then
        | (apply Runs.region; exact rfl)
        | apply Ops.nil
        | (apply Ops.extract; exact rfl; exact rfl; exact rfl)
        | (apply Ops.moveT; exact rfl; exact rfl)
        | (apply Ops.moveA; exact rfl; exact rfl)
        | (apply Ops.assignA; exact rfl; exact rfl)
        | (apply Ops.not; exact rfl; exact rfl)
        | (apply Ops.neg; exact rfl; exact rfl)
        | (apply Ops.conv; exact rfl; exact rfl; exact rfl; exact rfl)
        | (apply Ops.shr; exact rfl; exact rfl; decide; exact rfl)
        | (apply Ops.shl; exact rfl; exact rfl; decide; exact rfl)
        | (apply Ops.neB; exact rfl; exact rfl; exact rfl; exact rfl)
        | (apply Ops.eqB; exact rfl; exact rfl; exact rfl; exact rfl)
        | (apply Ops.pickTV; exact rfl; exact rfl; exact rfl)
        | (apply Ops.pickFV; exact rfl; exact rfl; exact rfl)
        | (apply Ops.want; exact rfl; exact rfl)
        | (apply Ops.pass; exact rfl; exact rfl; exact rfl)
        | (apply Ops.passU; exact rfl; exact rfl; exact rfl)
        | (apply Runs.drawn; kernel_rfl; exact rfl)
        | apply Runs.inBlock
        | refine Ops.call rfl (hG) rfl ?_
        | refine Ops.call rfl (hL) rfl ?_
        | refine Ops.call rfl (awake_fn) rfl ?_
        | (apply Ops.knownT; exact rfl; exact rfl; assumption)
        | (apply Ops.knownF; exact rfl; exact rfl; assumption)
        | (refine Ops.split rfl rfl ?_ ?_ <;> intro _)
        | (apply Runs.yes; exact rfl)
        | (apply Runs.no; exact rfl)
        | (apply Runs.yesB; exact rfl; assumption)
        | (apply Runs.noB; exact rfl; assumption)
        | (refine Runs.whether rfl ?_ ?_ <;> intro _)
        | apply Runs.skip
        | apply Runs.ret
        | apply Runs.exit
        | (apply Ends.ret; exact rfl; exact rfl)
        | (apply Ends.normal; exact rfl; exact rfl)
      all_goals rfl
    · refine id ?_
      repeat' first
        | (apply Ops.moveV; exact rfl; exact rfl)
        | (apply Ops.int; exact rfl; exact rfl; exact rfl; exact rfl; exact rfl)
        | (apply Ops.assignV; exact rfl; exact rfl)
        | apply Runs.then
        | (apply Runs.region; exact rfl)
        | apply Ops.nil
        | (apply Ops.extract; exact rfl; exact rfl; exact rfl)
        | (apply Ops.moveT; exact rfl; exact rfl)
        | (apply Ops.moveA; exact rfl; exact rfl)
        | (apply Ops.assignA; exact rfl; exact rfl)
        | (apply Ops.not; exact rfl; exact rfl)
        | (apply Ops.neg; exact rfl; exact rfl)
        | (apply Ops.conv; exact rfl; exact rfl; exact rfl; exact rfl)
        | (apply Ops.shr; exact rfl; exact rfl; decide; exact rfl)
        | (apply Ops.shl; exact rfl; exact rfl; decide; exact rfl)
        | (apply Ops.neB; exact rfl; exact rfl; exact rfl; exact rfl)
        | (apply Ops.eqB; exact rfl; exact rfl; exact rfl; exact rfl)
        | (apply Ops.pickTV; exact rfl; exact rfl; exact rfl)
        | (apply Ops.pickFV; exact rfl; exact rfl; exact rfl)
        | (apply Ops.want; exact rfl; exact rfl)
        | (apply Ops.pass; exact rfl; exact rfl; exact rfl)
        | (apply Ops.passU; exact rfl; exact rfl; exact rfl)
        | (apply Runs.drawn; kernel_rfl; exact rfl)
        | apply Runs.inBlock
        | refine Ops.call rfl (hG) rfl ?_
        | refine Ops.call rfl (hL) rfl ?_
        | refine Ops.call rfl (awake_fn) rfl ?_
        | (apply Ops.knownT; exact rfl; exact rfl; assumption)
        | (apply Ops.knownF; exact rfl; exact rfl; assumption)
        | (refine Ops.split rfl rfl ?_ ?_ <;> intro _)
        | (apply Runs.yes; exact rfl)
        | (apply Runs.no; exact rfl)
        | (apply Runs.yesB; exact rfl; assumption)
        | (apply Runs.noB; exact rfl; assumption)
        | (refine Runs.whether rfl ?_ ?_ <;> intro _)
        | apply Runs.skip
        | apply Runs.ret
        | apply Runs.exit
        | (apply Ends.ret; exact rfl; exact rfl)
        | (apply Ends.normal; exact rfl; exact rfl)
      all_goals rfl
    · refine id ?_
      repeat' first
        | (apply Ops.moveV; exact rfl; exact rfl)
        | (apply Ops.int; exact rfl; exact rfl; exact rfl; exact rfl; exact rfl)
        | (apply Ops.assignV; exact rfl; exact rfl)
        | apply Runs.then
        | (apply Runs.region; exact rfl)
        | apply Ops.nil
        | (apply Ops.extract; exact rfl; exact rfl; exact rfl)
        | (apply Ops.moveT; exact rfl; exact rfl)
        | (apply Ops.moveA; exact rfl; exact rfl)
        | (apply Ops.assignA; exact rfl; exact rfl)
        | (apply Ops.not; exact rfl; exact rfl)
        | (apply Ops.neg; exact rfl; exact rfl)
        | (apply Ops.conv; exact rfl; exact rfl; exact rfl; exact rfl)
        | (apply Ops.shr; exact rfl; exact rfl; decide; exact rfl)
        | (apply Ops.shl; exact rfl; exact rfl; decide; exact rfl)
        | (apply Ops.neB; exact rfl; exact rfl; exact rfl; exact rfl)
        | (apply Ops.eqB; exact rfl; exact rfl; exact rfl; exact rfl)
        | (apply Ops.pickTV; exact rfl; exact rfl; exact rfl)
        | (apply Ops.pickFV; exact rfl; exact rfl; exact rfl)
        | (apply Ops.want; exact rfl; exact rfl)
        | (apply Ops.pass; exact rfl; exact rfl; exact rfl)
        | (apply Ops.passU; exact rfl; exact rfl; exact rfl)
        | (apply Runs.drawn; kernel_rfl; exact rfl)
        | apply Runs.inBlock
        | refine Ops.call rfl (hG) rfl ?_
        | refine Ops.call rfl (hL) rfl ?_
        | refine Ops.call rfl (awake_fn) rfl ?_
        | (apply Ops.knownT; exact rfl; exact rfl; assumption)
        | (apply Ops.knownF; exact rfl; exact rfl; assumption)
        | (refine Ops.split rfl rfl ?_ ?_ <;> intro _)
        | (apply Runs.yes; exact rfl)
        | (apply Runs.no; exact rfl)
        | (apply Runs.yesB; exact rfl; assumption)
        | (apply Runs.noB; exact rfl; assumption)
        | (refine Runs.whether rfl ?_ ?_ <;> intro _)
        | apply Runs.skip
        | apply Runs.ret
        | apply Runs.exit
        | (apply Ends.ret; exact rfl; exact rfl)
        | (apply Ends.normal; exact rfl; exact rfl)
      all_goals rfl
    · exact absurd ⟨by decide, by decide⟩ hg

end Go.Dn
