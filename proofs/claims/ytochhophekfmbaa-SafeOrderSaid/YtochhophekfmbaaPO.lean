/- SafeOrder, in plain terms: it is true. -/
import Derived.Test.YtochhophekfmbaaGO
set_option linter.unusedVariables false
set_option linter.unusedSimpArgs false
namespace Go.Dn
open Go Go.Proofs

theorem okI_i64 {x : Int} : okI .i64 x ↔ -9223372036854775808 ≤ x ∧ x ≤ 9223372036854775807 := Iff.rfl
theorem okI_i8 {x : Int} : okI .i8 x ↔ -128 ≤ x ∧ x ≤ 127 := Iff.rfl
theorem wrap_i8 (a : Int) : IntKind.i8.wrap a = (a + 128) % 256 - 128 := by
  simp [IntKind.wrap, IntKind.bits, IntKind.signed]
  split <;> omega

theorem safe_Add_eq {a b : Int} (ha : okI .i64 a) (hb : okI .i64 b) : safe_Add a b = fitS (a + b) := by
  rw [okI_i64] at ha hb
  unfold safe_Add fitS w64
  rw [wrap_i64]
  cases h : ((decide ((a + b + 9223372036854775808) % 18446744073709551616 - 9223372036854775808 > a) != decide (b > 0)) && b != 0)
  · rw [cond_false]
    simp only [Bool.and_eq_false_iff, bne_eq_false_iff_eq, decide_eq_decide] at h
    split <;> simp only [Prod.mk.injEq, and_true] <;> omega
  · rw [cond_true]
    simp only [Bool.and_eq_true, bne_iff_ne, ne_eq, decide_eq_decide] at h
    split <;> simp only [Prod.mk.injEq] <;> omega

theorem safe_Sub_eq {a b : Int} (ha : okI .i64 a) (hb : okI .i64 b) : safe_Sub a b = fitS (a - b) := by
  rw [okI_i64] at ha hb
  unfold safe_Sub fitS w64
  rw [wrap_i64]
  cases h : ((decide ((a - b + 9223372036854775808) % 18446744073709551616 - 9223372036854775808 < a) != decide (b > 0)) && b != 0)
  · rw [cond_false]
    simp only [Bool.and_eq_false_iff, bne_eq_false_iff_eq, decide_eq_decide] at h
    split <;> simp only [Prod.mk.injEq, and_true] <;> omega
  · rw [cond_true]
    simp only [Bool.and_eq_true, bne_iff_ne, ne_eq, decide_eq_decide] at h
    split <;> simp only [Prod.mk.injEq] <;> omega

theorem safe_Right_iff {a : Bound} : safe_Right a = true ↔ a.Inf = 0 ∨ a.Inf = 1 ∧ a.N = 0 ∨ a.Inf = -1 ∧ a.N = 0 := by
  unfold safe_Right
  simp
  omega

/-- The three kinds of bounds. -/
theorem right_cases {a : Bound} (h : safe_Right a = true) : (∃ n, a = ⟨0, n⟩) ∨ a = ⟨1, 0⟩ ∨ a = ⟨-1, 0⟩ := by
  obtain ⟨i, n⟩ := a
  rw [safe_Right_iff] at h
  simp only at h
  rcases h with rfl | ⟨rfl, rfl⟩ | ⟨rfl, rfl⟩
  · exact .inl ⟨n, rfl⟩
  · exact .inr (.inl rfl)
  · exact .inr (.inr rfl)

theorem right_n (n : Int) : safe_Right ⟨0, n⟩ = true := rfl
theorem right_p : safe_Right ⟨1, 0⟩ = true := rfl
theorem right_m : safe_Right ⟨-1, 0⟩ = true := rfl
theorem less_nn (n m : Int) : safe_Less ⟨0, n⟩ ⟨0, m⟩ = decide (n < m) := rfl
theorem less_np (n : Int) : safe_Less ⟨0, n⟩ ⟨1, 0⟩ = true := rfl
theorem less_nm (n : Int) : safe_Less ⟨0, n⟩ ⟨-1, 0⟩ = false := rfl
theorem less_pn (n : Int) : safe_Less ⟨1, 0⟩ ⟨0, n⟩ = false := rfl
theorem less_mn (n : Int) : safe_Less ⟨-1, 0⟩ ⟨0, n⟩ = true := rfl
theorem less_pp : safe_Less ⟨1, 0⟩ ⟨1, 0⟩ = false := rfl
theorem less_pm : safe_Less ⟨1, 0⟩ ⟨-1, 0⟩ = false := rfl
theorem less_mp : safe_Less ⟨-1, 0⟩ ⟨1, 0⟩ = true := rfl
theorem less_mm : safe_Less ⟨-1, 0⟩ ⟨-1, 0⟩ = false := rfl
theorem sum_nn {n m : Int} (hn : okI .i64 n) (hm : okI .i64 m) : safe_Sum ⟨0, n⟩ ⟨0, m⟩ = (⟨0, (fitS (n + m)).1⟩, (fitS (n + m)).2) := by
  rw [← safe_Add_eq hn hm]; rfl
theorem sum_np (n : Int) : safe_Sum ⟨0, n⟩ ⟨1, 0⟩ = (⟨1, 0⟩, 0) := rfl
theorem sum_nm (n : Int) : safe_Sum ⟨0, n⟩ ⟨-1, 0⟩ = (⟨-1, 0⟩, 0) := rfl
theorem sum_pn (n : Int) : safe_Sum ⟨1, 0⟩ ⟨0, n⟩ = (⟨1, 0⟩, 0) := rfl
theorem sum_mn (n : Int) : safe_Sum ⟨-1, 0⟩ ⟨0, n⟩ = (⟨-1, 0⟩, 0) := rfl
theorem sum_pp : safe_Sum ⟨1, 0⟩ ⟨1, 0⟩ = (⟨1, 0⟩, 0) := rfl
theorem sum_mm : safe_Sum ⟨-1, 0⟩ ⟨-1, 0⟩ = (⟨-1, 0⟩, 0) := rfl
theorem sum_pm : safe_Sum ⟨1, 0⟩ ⟨-1, 0⟩ = (⟨0, 0⟩, 10) := rfl
theorem sum_mp : safe_Sum ⟨-1, 0⟩ ⟨1, 0⟩ = (⟨0, 0⟩, 10) := rfl
theorem fit_or (x : Int) : (okI .i64 x ∧ fitS x = (x, 0)) ∨ (¬ okI .i64 x ∧ fitS x = (0, 10)) := by
  rw [okI_i64]; unfold fitS
  split
  · exact .inl ⟨by assumption, rfl⟩
  · exact .inr ⟨by assumption, rfl⟩
theorem minus_n {n : Int} (hn : okI .i64 n) : safe_Minus ⟨0, n⟩ = (⟨0, (fitS (-n)).1⟩, (fitS (-n)).2) := by
  have h0 : okI .i64 0 := okI_i64.2 (by decide)
  unfold safe_Minus
  rw [right_n, safe_Sub_eq h0 hn, Int.zero_sub]
  rcases fit_or (-n) with ⟨_, h⟩ | ⟨_, h⟩ <;> rw [h] <;> rfl
theorem minus_p : safe_Minus ⟨1, 0⟩ = (⟨-1, 0⟩, 0) := by decide
theorem minus_m : safe_Minus ⟨-1, 0⟩ = (⟨1, 0⟩, 0) := by decide

theorem not_right_less {a b : Bound} (h : safe_Right a = false) : safe_Less a b = false ∧ safe_Less b a = false := by
  unfold safe_Less; rw [h]; simp
theorem not_right_sum {a : Bound} (h : safe_Right a = false) : (safe_Sum a a).2 = 2 := by
  unfold safe_Sum; rw [h]; simp

theorem ibeq (a b : Int) : (a == b) = decide (a = b) := by by_cases h : a = b <;> simp [h]

set_option maxHeartbeats 4000000 in
theorem safeOrder_true (a b c : Bound) (ha : a.ok) (hb : b.ok) (hc : c.ok) : epactlaw01_SafeOrder a b c = true := by
  unfold epactlaw01_SafeOrder
  by_cases hr : safe_Right a = true ∧ safe_Right b = true ∧ safe_Right c = true
  · obtain ⟨r1, r2, r3⟩ := hr
    rw [r1, r2, r3]
    simp only [Bool.not_true, Bool.or_self, cond_false, epactlaw01_awake, Bool.and_true]
    rcases right_cases r1 with ⟨n, rfl⟩ | rfl | rfl <;> rcases right_cases r2 with ⟨m, rfl⟩ | rfl | rfl <;> rcases right_cases r3 with ⟨k, rfl⟩ | rfl | rfl
    all_goals
      simp only [less_nn, less_np, less_nm, less_pn, less_mn, less_pp, less_pm, less_mp, less_mm, sum_nn, sum_np, sum_nm, sum_pn, sum_mn, sum_pp, sum_mm, sum_pm, sum_mp, minus_n, minus_p, minus_m, ha.2, hb.2, hc.2]
    all_goals (try (rcases fit_or (-n) with ⟨q1, q2⟩ | ⟨q1, q2⟩ <;> simp only [q2]))
    all_goals (try (rcases fit_or (-m) with ⟨q3, q4⟩ | ⟨q3, q4⟩ <;> simp only [q4]))
    all_goals (try (rcases fit_or (n + k) with ⟨q5, q6⟩ | ⟨q5, q6⟩ <;> simp only [q6]))
    all_goals (try (rcases fit_or (m + k) with ⟨q7, q8⟩ | ⟨q7, q8⟩ <;> simp only [q8]))
    all_goals (simp [less_nn, less_np, less_nm, less_pn, less_mn, less_pp, less_pm, less_mp, less_mm] <;> (simp only [ibeq, decide_eq_decide] at *; omega))
  · cases h1 : safe_Right a
    · have e1 := not_right_less (b := b) h1
      have e2 := not_right_sum h1
      rw [e1.1, e1.2, e2]
      rfl
    · have : (safe_Right b && safe_Right c) = false := by
        cases h2 : safe_Right b <;> cases h3 : safe_Right c <;> simp_all
      cases h2 : safe_Right b <;> cases h3 : safe_Right c <;> simp_all [epactlaw01_awake]

end Go.Dn
