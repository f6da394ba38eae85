/- The law SafeRests: it answers true. -/
import Derived.Test.YtochhophekfmbaaS2
set_option linter.unusedSimpArgs false
set_option linter.unusedVariables false
namespace Go.Dn
open Go Go.Proofs

theorem fdiv_in {a b : Int} (ha : In64 a) (hb : b ≠ 0) (hn : ¬(b = -1 ∧ a = -9223372036854775808)) : In64 (a.fdiv b) := by
  by_cases h : a.tmod b = 0 ∨ (a.tmod b < 0 ↔ b < 0)
  · rw [(floor_same hb h).1]; exact tdiv_in ha hb hn
  · rw [not_or] at h
    rw [(floor_up hb h.1 h.2).1]; exact tdiv_in1 ha hb h.1

theorem floorS_in1 {a b : Int} (ha : In64 a) (hb : In64 b) : In64 (floorS a b).1 := by
  unfold floorS
  split
  · exact in64_0
  · rename_i h
    split
    · exact in64_0
    · rename_i h2
      exact fdiv_in ha h h2

theorem floorS_in2 {a b : Int} (ha : In64 a) (hb : In64 b) : In64 (floorS a b).2.1 := by
  unfold floorS
  split
  · exact in64_0
  · rename_i h
    split
    · exact in64_0
    · exact fmod_in hb h

theorem floor_facts {a b : Int} (hb : b ≠ 0) : a.fdiv b * b + a.fmod b = a ∧ (a.fmod b = 0 ∨ (0 < b ∧ 0 < a.fmod b ∧ a.fmod b < b) ∨ (b < 0 ∧ a.fmod b < 0 ∧ b < a.fmod b)) := by
  refine ⟨by rw [Int.mul_comm]; exact Int.mul_fdiv_add_fmod a b, ?_⟩
  have q1 := Int.emod_nonneg a hb
  have q2 := Int.emod_lt a hb
  rw [Int.fmod_eq_emod]
  have hd : b ∣ a ↔ a % b = 0 := Int.dvd_iff_emod_eq_zero
  simp only [hd]
  split <;> omega

theorem fitS_of {a : Int} (h : In64 a) : fitS a = (a, 0) := by unfold In64 at h; unfold fitS; rw [if_pos h]
theorem fitS_not {a : Int} (h : ¬ In64 a) : fitS a = (0, 10) := by unfold In64 at h; unfold fitS; rw [if_neg h]

set_option maxRecDepth 100000 in
set_option maxHeartbeats 4000000 in
theorem rests_fn (a b : Int) (ha : In64 a) (hb : In64 b) : Fn CX 3 [int64 a, int64 b] (.v (.bool true)) := by
  refine Fn.ends Try.func3 rfl rfl rfl rfl rfl rfl ?_
  by_cases h0 : b = 0
  · subst h0
    have hf : Fn CX 14 [int64 a, int64 0] (three64 (0, 0, 11)) := floor_fn a 0 ha hb
    repeat' first
      | (apply Ops.moveV; exact rfl; exact rfl)
      | (apply Ops.int; exact rfl; exact rfl; exact rfl; exact rfl; exact rfl)
      | (apply Ops.assignV; exact rfl; exact rfl)
      | apply Runs.then
      | (apply Runs.region; exact rfl)
      | apply Ops.nil
      | (apply Ops.extract; exact rfl; exact rfl; exact rfl)
      | (apply Ops.moveT; exact rfl; exact rfl)
      | (apply Ops.moveA; exact rfl; exact rfl)
      | (apply Ops.assignA; exact rfl; exact rfl)
      | (apply Ops.not; exact rfl; exact rfl)
      | (apply Ops.neg; exact rfl; exact rfl)
      | (apply Ops.conv; exact rfl; exact rfl; exact rfl; exact rfl)
      | (apply Ops.shr; exact rfl; exact rfl; decide; exact rfl)
      | (apply Ops.shl; exact rfl; exact rfl; decide; exact rfl)
      | (apply Ops.neB; exact rfl; exact rfl; exact rfl; exact rfl)
      | (apply Ops.eqB; exact rfl; exact rfl; exact rfl; exact rfl)
      | (apply Ops.pickTV; exact rfl; exact rfl; exact rfl)
      | (apply Ops.pickFV; exact rfl; exact rfl; exact rfl)
      | (apply Ops.want; exact rfl; exact rfl)
      | (apply Ops.pass; exact rfl; exact rfl; exact rfl)
      | (apply Ops.passU; exact rfl; exact rfl; exact rfl)
      | (apply Runs.drawn; kernel_rfl; exact rfl)
      | apply Runs.inBlock
      | refine Ops.call rfl (hf) rfl ?_
      | refine Ops.call rfl (awake_fn) rfl ?_
      | (apply Ops.knownT; exact rfl; exact rfl; assumption)
      | (apply Ops.knownF; exact rfl; exact rfl; assumption)
      | (refine Ops.split rfl rfl ?_ ?_ <;> intro _)
      | (apply Runs.yes; exact rfl)
      | (apply Runs.no; exact rfl)
      | (apply Runs.yesB; exact rfl; assumption)
      | (apply Runs.noB; exact rfl; assumption)
      | (refine Runs.whether rfl ?_ ?_ <;> intro _)
      | apply Runs.skip
      | apply Runs.ret
      | apply Runs.exit
      | (apply Ends.ret; exact rfl; exact rfl)
      | (apply Ends.normal; exact rfl; exact rfl)
    all_goals rfl
  · by_cases h1 : b = -1 ∧ a = -9223372036854775808
    · obtain ⟨rfl, rfl⟩ := h1
      have hf : Fn CX 14 [int64 (-9223372036854775808), int64 (-1)] (three64 (0, 0, 10)) := floor_fn _ _ ha hb
      repeat' first
        | (apply Ops.moveV; exact rfl; exact rfl)
        | (apply Ops.int; exact rfl; exact rfl; exact rfl; exact rfl; exact rfl)
        | (apply Ops.assignV; exact rfl; exact rfl)
        | apply Runs.then
        | (apply Runs.region; exact rfl)
        | apply Ops.nil
        | (apply Ops.extract; exact rfl; exact rfl; exact rfl)
        | (apply Ops.moveT; exact rfl; exact rfl)
        | (apply Ops.moveA; exact rfl; exact rfl)
        | (apply Ops.assignA; exact rfl; exact rfl)
        | (apply Ops.not; exact rfl; exact rfl)
        | (apply Ops.neg; exact rfl; exact rfl)
        | (apply Ops.conv; exact rfl; exact rfl; exact rfl; exact rfl)
        | (apply Ops.shr; exact rfl; exact rfl; decide; exact rfl)
        | (apply Ops.shl; exact rfl; exact rfl; decide; exact rfl)
        | (apply Ops.neB; exact rfl; exact rfl; exact rfl; exact rfl)
        | (apply Ops.eqB; exact rfl; exact rfl; exact rfl; exact rfl)
        | (apply Ops.pickTV; exact rfl; exact rfl; exact rfl)
        | (apply Ops.pickFV; exact rfl; exact rfl; exact rfl)
        | (apply Ops.want; exact rfl; exact rfl)
        | (apply Ops.pass; exact rfl; exact rfl; exact rfl)
        | (apply Ops.passU; exact rfl; exact rfl; exact rfl)
        | (apply Runs.drawn; kernel_rfl; exact rfl)
        | apply Runs.inBlock
        | refine Ops.call rfl (hf) rfl ?_
        | refine Ops.call rfl (awake_fn) rfl ?_
        | (apply Ops.knownT; exact rfl; exact rfl; assumption)
        | (apply Ops.knownF; exact rfl; exact rfl; assumption)
        | (refine Ops.split rfl rfl ?_ ?_ <;> intro _)
        | (apply Runs.yes; exact rfl)
        | (apply Runs.no; exact rfl)
        | (apply Runs.yesB; exact rfl; assumption)
        | (apply Runs.noB; exact rfl; assumption)
        | (refine Runs.whether rfl ?_ ?_ <;> intro _)
        | apply Runs.skip
        | apply Runs.ret
        | apply Runs.exit
        | (apply Ends.ret; exact rfl; exact rfl)
        | (apply Ends.normal; exact rfl; exact rfl)
      all_goals rfl
    · have hf : Fn CX 14 [int64 a, int64 b] (three64 (a.fdiv b, a.fmod b, 0)) := by
        have := floor_fn a b ha hb
        rwa [floorS, if_neg h0, if_neg h1] at this
      have hq := fdiv_in ha h0 h1
      have hr := fmod_in (a := a) hb h0
      obtain ⟨hs, hc⟩ := floor_facts (a := a) h0
      generalize a.fdiv b = q at *
      generalize a.fmod b = r at *
      by_cases hfit : In64 (q * b)
      · have hm : Fn CX 16 [int64 q, int64 b] (two64 (q * b, 0)) := by
          have := mul_fn q b hq hb
          rwa [fitS_of hfit] at this
        have hadd : Fn CX 17 [int64 (q * b), int64 r] (two64 (a, 0)) := by
          have := add_fn (q * b) r hfit hr
          rwa [hs, fitS_of ha] at this
        have k1 : (a == a) = true := by simp
        rcases hc with rfl | ⟨c1, c2, c3⟩ | ⟨c1, c2, c3⟩
        · refine id ?_
          repeat' first
            | (apply Ops.moveV; exact rfl; exact rfl)
            | (apply Ops.int; exact rfl; exact rfl; exact rfl; exact rfl; exact rfl)
            | (apply Ops.assignV; exact rfl; exact rfl)
            | apply Runs.then
            | (apply Runs.region; exact rfl)
            | apply Ops.nil
            | (apply Ops.extract; exact rfl; exact rfl; exact rfl)
            | (apply Ops.moveT; exact rfl; exact rfl)
            | (apply Ops.moveA; exact rfl; exact rfl)
            | (apply Ops.assignA; exact rfl; exact rfl)
            | (apply Ops.not; exact rfl; exact rfl)
            | (apply Ops.neg; exact rfl; exact rfl)
            | (apply Ops.conv; exact rfl; exact rfl; exact rfl; exact rfl)
            | (apply Ops.shr; exact rfl; exact rfl; decide; exact rfl)
            | (apply Ops.shl; exact rfl; exact rfl; decide; exact rfl)
            | (apply Ops.neB; exact rfl; exact rfl; exact rfl; exact rfl)
            | (apply Ops.eqB; exact rfl; exact rfl; exact rfl; exact rfl)
            | (apply Ops.pickTV; exact rfl; exact rfl; exact rfl)
            | (apply Ops.pickFV; exact rfl; exact rfl; exact rfl)
            | (apply Ops.want; exact rfl; exact rfl)
            | (apply Ops.pass; exact rfl; exact rfl; exact rfl)
            | (apply Ops.passU; exact rfl; exact rfl; exact rfl)
            | (apply Runs.drawn; kernel_rfl; exact rfl)
            | apply Runs.inBlock
            | refine Ops.call rfl (hf) rfl ?_
            | refine Ops.call rfl (hm) rfl ?_
            | refine Ops.call rfl (hadd) rfl ?_
            | refine Ops.call rfl (awake_fn) rfl ?_
            | (apply Ops.knownT; exact rfl; exact rfl; assumption)
            | (apply Ops.knownF; exact rfl; exact rfl; assumption)
            | (refine Ops.split rfl rfl ?_ ?_ <;> intro _)
            | (apply Runs.yes; exact rfl)
            | (apply Runs.no; exact rfl)
            | (apply Runs.yesB; exact rfl; assumption)
            | (apply Runs.noB; exact rfl; assumption)
            | (refine Runs.whether rfl ?_ ?_ <;> intro _)
            | apply Runs.skip
            | apply Runs.ret
            | apply Runs.exit
            | (apply Ends.ret; exact rfl; exact rfl)
            | (apply Ends.normal; exact rfl; exact rfl)
          all_goals rfl
        · have k2 : (r == 0) = false := by simp; omega
          have k3 : decide (b > 0) = true := by simp; omega
          have k4 : decide (r > 0) = true := by simp; omega
          have k5 : decide (r < b) = true := by simp; omega
          repeat' first
            | (apply Ops.moveV; exact rfl; exact rfl)
            | (apply Ops.int; exact rfl; exact rfl; exact rfl; exact rfl; exact rfl)
            | (apply Ops.assignV; exact rfl; exact rfl)
            | apply Runs.then
            | (apply Runs.region; exact rfl)
            | apply Ops.nil
            | (apply Ops.extract; exact rfl; exact rfl; exact rfl)
            | (apply Ops.moveT; exact rfl; exact rfl)
            | (apply Ops.moveA; exact rfl; exact rfl)
            | (apply Ops.assignA; exact rfl; exact rfl)
            | (apply Ops.not; exact rfl; exact rfl)
            | (apply Ops.neg; exact rfl; exact rfl)
            | (apply Ops.conv; exact rfl; exact rfl; exact rfl; exact rfl)
            | (apply Ops.shr; exact rfl; exact rfl; decide; exact rfl)
            | (apply Ops.shl; exact rfl; exact rfl; decide; exact rfl)
            | (apply Ops.neB; exact rfl; exact rfl; exact rfl; exact rfl)
            | (apply Ops.eqB; exact rfl; exact rfl; exact rfl; exact rfl)
            | (apply Ops.pickTV; exact rfl; exact rfl; exact rfl)
            | (apply Ops.pickFV; exact rfl; exact rfl; exact rfl)
            | (apply Ops.want; exact rfl; exact rfl)
            | (apply Ops.pass; exact rfl; exact rfl; exact rfl)
            | (apply Ops.passU; exact rfl; exact rfl; exact rfl)
            | (apply Runs.drawn; kernel_rfl; exact rfl)
            | apply Runs.inBlock
            | refine Ops.call rfl (hf) rfl ?_
            | refine Ops.call rfl (hm) rfl ?_
            | refine Ops.call rfl (hadd) rfl ?_
            | refine Ops.call rfl (awake_fn) rfl ?_
            | (apply Ops.knownT; exact rfl; exact rfl; assumption)
            | (apply Ops.knownF; exact rfl; exact rfl; assumption)
            | (refine Ops.split rfl rfl ?_ ?_ <;> intro _)
            | (apply Runs.yes; exact rfl)
            | (apply Runs.no; exact rfl)
            | (apply Runs.yesB; exact rfl; assumption)
            | (apply Runs.noB; exact rfl; assumption)
            | (refine Runs.whether rfl ?_ ?_ <;> intro _)
            | apply Runs.skip
            | apply Runs.ret
            | apply Runs.exit
            | (apply Ends.ret; exact rfl; exact rfl)
            | (apply Ends.normal; exact rfl; exact rfl)
          all_goals rfl
        · have k2 : (r == 0) = false := by simp; omega
          have k3 : decide (b > 0) = false := by simp; omega
          have k4 : decide (b < 0) = true := by simp; omega
          have k5 : decide (r < 0) = true := by simp; omega
          have k6 : decide (r > b) = true := by simp; omega
          repeat' first
            | (apply Ops.moveV; exact rfl; exact rfl)
            | (apply Ops.int; exact rfl; exact rfl; exact rfl; exact rfl; exact rfl)
            | (apply Ops.assignV; exact rfl; exact rfl)
            | apply Runs.then
            | (apply Runs.region; exact rfl)
            | apply Ops.nil
            | (apply Ops.extract; exact rfl; exact rfl; exact rfl)
            | (apply Ops.moveT; exact rfl; exact rfl)
            | (apply Ops.moveA; exact rfl; exact rfl)
            | (apply Ops.assignA; exact rfl; exact rfl)
            | (apply Ops.not; exact rfl; exact rfl)
            | (apply Ops.neg; exact rfl; exact rfl)
            | (apply Ops.conv; exact rfl; exact rfl; exact rfl; exact rfl)
            | (apply Ops.shr; exact rfl; exact rfl; decide; exact rfl)
            | (apply Ops.shl; exact rfl; exact rfl; decide; exact rfl)
            | (apply Ops.neB; exact rfl; exact rfl; exact rfl; exact rfl)
            | (apply Ops.eqB; exact rfl; exact rfl; exact rfl; exact rfl)
            | (apply Ops.pickTV; exact rfl; exact rfl; exact rfl)
            | (apply Ops.pickFV; exact rfl; exact rfl; exact rfl)
            | (apply Ops.want; exact rfl; exact rfl)
            | (apply Ops.pass; exact rfl; exact rfl; exact rfl)
            | (apply Ops.passU; exact rfl; exact rfl; exact rfl)
            | (apply Runs.drawn; kernel_rfl; exact rfl)
            | apply Runs.inBlock
            | refine Ops.call rfl (hf) rfl ?_
            | refine Ops.call rfl (hm) rfl ?_
            | refine Ops.call rfl (hadd) rfl ?_
            | refine Ops.call rfl (awake_fn) rfl ?_
            | (apply Ops.knownT; exact rfl; exact rfl; assumption)
            | (apply Ops.knownF; exact rfl; exact rfl; assumption)
            | (refine Ops.split rfl rfl ?_ ?_ <;> intro _)
            | (apply Runs.yes; exact rfl)
            | (apply Runs.no; exact rfl)
            | (apply Runs.yesB; exact rfl; assumption)
            | (apply Runs.noB; exact rfl; assumption)
            | (refine Runs.whether rfl ?_ ?_ <;> intro _)
            | apply Runs.skip
            | apply Runs.ret
            | apply Runs.exit
            | (apply Ends.ret; exact rfl; exact rfl)
            | (apply Ends.normal; exact rfl; exact rfl)
          all_goals rfl
      · have hm : Fn CX 16 [int64 q, int64 b] (two64 (0, 10)) := by
          have := mul_fn q b hq hb
          rwa [fitS_not hfit] at this
        have hadd := add_fn 0 r in64_0 hr
        have k1 : (b != 0) = true := by simp; omega
        have k2 : (r != 0) = true := by
          simp only [bne_iff_ne, ne_eq]
          intro e
          subst e
          rw [Int.add_zero] at hs
          rw [hs] at hfit
          exact hfit ha
        have k3 : (IntKind.i64.wrap (IntKind.i64.wrap (q * b) + r) == a) = true := by
          simp only [wrap_i64, beq_iff_eq]
          unfold In64 at ha
          omega
        repeat' first
          | (apply Ops.moveV; exact rfl; exact rfl)
          | (apply Ops.int; exact rfl; exact rfl; exact rfl; exact rfl; exact rfl)
          | (apply Ops.assignV; exact rfl; exact rfl)
          | apply Runs.then
          | (apply Runs.region; exact rfl)
          | apply Ops.nil
          | (apply Ops.extract; exact rfl; exact rfl; exact rfl)
          | (apply Ops.moveT; exact rfl; exact rfl)
          | (apply Ops.moveA; exact rfl; exact rfl)
          | (apply Ops.assignA; exact rfl; exact rfl)
          | (apply Ops.not; exact rfl; exact rfl)
          | (apply Ops.neg; exact rfl; exact rfl)
          | (apply Ops.conv; exact rfl; exact rfl; exact rfl; exact rfl)
          | (apply Ops.shr; exact rfl; exact rfl; decide; exact rfl)
          | (apply Ops.shl; exact rfl; exact rfl; decide; exact rfl)
          | (apply Ops.neB; exact rfl; exact rfl; exact rfl; exact rfl)
          | (apply Ops.eqB; exact rfl; exact rfl; exact rfl; exact rfl)
          | (apply Ops.pickTV; exact rfl; exact rfl; exact rfl)
          | (apply Ops.pickFV; exact rfl; exact rfl; exact rfl)
          | (apply Ops.want; exact rfl; exact rfl)
          | (apply Ops.pass; exact rfl; exact rfl; exact rfl)
          | (apply Ops.passU; exact rfl; exact rfl; exact rfl)
          | (apply Runs.drawn; kernel_rfl; exact rfl)
          | apply Runs.inBlock
          | refine Ops.call rfl (hf) rfl ?_
          | refine Ops.call rfl (hm) rfl ?_
          | refine Ops.call rfl (hadd) rfl ?_
          | refine Ops.call rfl (awake_fn) rfl ?_
          | (apply Ops.knownT; exact rfl; exact rfl; assumption)
          | (apply Ops.knownF; exact rfl; exact rfl; assumption)
          | (refine Ops.split rfl rfl ?_ ?_ <;> intro _)
          | (apply Runs.yes; exact rfl)
          | (apply Runs.no; exact rfl)
          | (apply Runs.yesB; exact rfl; assumption)
          | (apply Runs.noB; exact rfl; assumption)
          | (refine Runs.whether rfl ?_ ?_ <;> intro _)
          | apply Runs.skip
          | apply Runs.ret
          | apply Runs.exit
          | (apply Ends.ret; exact rfl; exact rfl)
          | (apply Ends.normal; exact rfl; exact rfl)
        all_goals rfl

end Go.Dn
