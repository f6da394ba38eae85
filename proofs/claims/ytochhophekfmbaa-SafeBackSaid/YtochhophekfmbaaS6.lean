/- The law SafeBack: it answers true. -/
import Derived.Test.YtochhophekfmbaaS5
set_option linter.unusedSimpArgs false
set_option linter.unusedVariables false
namespace Go.Dn
open Go Go.Proofs

set_option maxRecDepth 100000 in
set_option maxHeartbeats 8000000 in
theorem back_fn (a b : Int) (ha : In64 a) (hb : In64 b) : Fn CX 6 [int64 a, int64 b] (.v (.bool true)) := by
  refine Fn.ends Try.func6 rfl rfl rfl rfl rfl rfl ?_
  have hadd : (∃ x, Fn CX 17 [int64 a, int64 b] (two64 (x, 0)) ∧ Fn CX 17 [int64 b, int64 a] (two64 (x, 0)) ∧ Fn CX 21 [int64 x, int64 b] (two64 (a, 0)) ∧ (x != x) = false) ∨
      (Fn CX 17 [int64 a, int64 b] (two64 (0, 10)) ∧ Fn CX 17 [int64 b, int64 a] (two64 (0, 10)) ∧ (decide (a > 0) != decide (b > 0)) = false ∧ (a == 0) = false ∧ (b == 0) = false) := by
    have h1 := add_fn a b ha hb
    have h2 := add_fn b a hb ha
    by_cases h : In64 (a + b)
    · refine .inl ⟨a + b, ?_, ?_, ?_, bne_f rfl⟩
      · rwa [fitS_of h] at h1
      · rwa [Int.add_comm b a, fitS_of h] at h2
      · have h3 := sub_fn (a + b) b h hb
        rwa [Int.add_sub_cancel, fitS_of ha] at h3
    · refine .inr ⟨by rwa [fitS_not h] at h1, by rwa [Int.add_comm b a, fitS_not h] at h2, ?_, ?_, ?_⟩
      · unfold In64 at *
        by_cases h3 : a > 0
        · rw [dec_t h3, dec_t (by omega)]; rfl
        · rw [dec_f h3, dec_f (by omega)]; rfl
      · unfold In64 at *; exact beq_f (by omega)
      · unfold In64 at *; exact beq_f (by omega)
  have hmul : (∃ z, Fn CX 16 [int64 a, int64 b] (two64 (z, 0)) ∧ Fn CX 16 [int64 b, int64 a] (two64 (z, 0)) ∧ (z != z) = false ∧
        ((b != 0) = false ∨ ((b != 0) = true ∧ (((b != -1) = false ∧ (z != -9223372036854775808) = false) ∨ (((b != -1) = true ∨ ((b != -1) = false ∧ (z != -9223372036854775808) = true)) ∧ Fn CX 14 [int64 z, int64 b] (three64 (a, 0, 0))))))) ∨
      (Fn CX 16 [int64 a, int64 b] (two64 (0, 10)) ∧ Fn CX 16 [int64 b, int64 a] (two64 (0, 10))) := by
    have h1 := mul_fn a b ha hb
    have h2 := mul_fn b a hb ha
    by_cases h : In64 (a * b)
    · refine .inl ⟨a * b, by rwa [fitS_of h] at h1, by rwa [Int.mul_comm b a, fitS_of h] at h2, bne_f rfl, ?_⟩
      by_cases h0 : b = 0
      · exact .inl (bne_f h0)
      · refine .inr ⟨bne_t h0, ?_⟩
        by_cases h3 : b = -1 ∧ a * b = -9223372036854775808
        · exact .inl ⟨bne_f h3.1, bne_f h3.2⟩
        · refine .inr ⟨?_, ?_⟩
          · by_cases h4 : b = -1
            · exact .inr ⟨bne_f h4, bne_t fun e => h3 ⟨h4, e⟩⟩
            · exact .inl (bne_t h4)
          · have h5 := floor_fn (a * b) b h hb
            rwa [floorS, if_neg h0, if_neg h3, Int.mul_fdiv_cancel a h0, Int.mul_fmod_left] at h5
    · exact .inr ⟨by rwa [fitS_not h] at h1, by rwa [Int.mul_comm b a, fitS_not h] at h2⟩
  have ka : (a != a) = false := bne_f rfl
  rcases hadd with ⟨x, A1, A2, A3, k1⟩ | ⟨A1, A2, k1, k2, k3⟩ <;> rcases hmul with ⟨z, M1, M2, k4, k5 | ⟨k5, ⟨k6, k7⟩ | ⟨k6 | ⟨k6, k7⟩, M3⟩⟩⟩ | ⟨M1, M2⟩
  all_goals
    repeat' first
      | (apply Ops.moveV; exact rfl; exact rfl)
      | (apply Ops.int; exact rfl; exact rfl; exact rfl; exact rfl; exact rfl)
      | (apply Ops.assignV; exact rfl; exact rfl)
      | apply Runs.then
      | (apply Runs.region; exact rfl)
      | apply Ops.nil
      | (apply Ops.extract; exact rfl; exact rfl; exact rfl)
      | (apply Ops.moveT; exact rfl; exact rfl)
      | (apply Ops.moveA; exact rfl; exact rfl)
      | (apply Ops.assignA; exact rfl; exact rfl)
      | (apply Ops.not; exact rfl; exact rfl)
      | (apply Ops.neg; exact rfl; exact rfl)
      | (apply Ops.conv; exact rfl; exact rfl; exact rfl; exact rfl)
      | (apply Ops.shr; exact rfl; exact rfl; decide; exact rfl)
      | (apply Ops.shl; exact rfl; exact rfl; decide; exact rfl)
      | (apply Ops.neB; exact rfl; exact rfl; exact rfl; exact rfl)
      | (apply Ops.eqB; exact rfl; exact rfl; exact rfl; exact rfl)
      | (apply Ops.pickTV; exact rfl; exact rfl; exact rfl)
      | (apply Ops.pickFV; exact rfl; exact rfl; exact rfl)
      | (apply Ops.want; exact rfl; exact rfl)
      | (apply Ops.pass; exact rfl; exact rfl; exact rfl)
      | (apply Ops.passU; exact rfl; exact rfl; exact rfl)
      | (apply Runs.drawn; kernel_rfl; exact rfl)
      | apply Runs.inBlock
      | refine Ops.call rfl (A1) rfl ?_
      | refine Ops.call rfl (A2) rfl ?_
      | refine Ops.call rfl (‹Fn CX 21 _ _›) rfl ?_
      | refine Ops.call rfl (M1) rfl ?_
      | refine Ops.call rfl (M2) rfl ?_
      | refine Ops.call rfl (‹Fn CX 14 _ _›) rfl ?_
      | refine Ops.call rfl (awake_fn) rfl ?_
      | (apply Ops.knownT; exact rfl; exact rfl; assumption)
      | (apply Ops.knownF; exact rfl; exact rfl; assumption)
      | (refine Ops.split rfl rfl ?_ ?_ <;> intro _)
      | (apply Runs.yes; exact rfl)
      | (apply Runs.no; exact rfl)
      | (apply Runs.yesB; exact rfl; assumption)
      | (apply Runs.noB; exact rfl; assumption)
      | (refine Runs.whether rfl ?_ ?_ <;> intro _)
      | apply Runs.skip
      | apply Runs.ret
      | apply Runs.exit
      | (apply Ends.ret; exact rfl; exact rfl)
      | (apply Ends.normal; exact rfl; exact rfl)
  all_goals first | rfl | trace_state

end Go.Dn
