/- The package safe, in plain terms. -/
import Derived.Test.YtefaoeaohhdhkaaP0
set_option linter.unusedVariables false
set_option linter.unusedSimpArgs false
namespace Go.Dn
open Go

def In64 (a : Int) : Prop := -9223372036854775808 ≤ a ∧ a ≤ 9223372036854775807
def InU64 (a : Int) : Prop := 0 ≤ a ∧ a ≤ 18446744073709551615
def fitS (a : Int) : Int × Int := if -9223372036854775808 ≤ a ∧ a ≤ 9223372036854775807 then (a, 0) else (0, 10)
theorem fitS_of {a : Int} (h : In64 a) : fitS a = (a, 0) := if_pos h
theorem fitS_not {a : Int} (h : ¬ In64 a) : fitS a = (0, 10) := if_neg h
theorem fitS_in (a : Int) : In64 (fitS a).1 := by unfold fitS In64; split <;> simp <;> omega
theorem fit_or (x : Int) : (In64 x ∧ fitS x = (x, 0)) ∨ (¬ In64 x ∧ fitS x = (0, 10)) := by
  by_cases h : In64 x
  · exact .inl ⟨h, fitS_of h⟩
  · exact .inr ⟨h, fitS_not h⟩
theorem fit_zero {x : Int} (h : (fitS x).2 = 0) : In64 x ∧ (fitS x).1 = x := by
  rcases fit_or x with ⟨h1, h2⟩ | ⟨h1, h2⟩
  · exact ⟨h1, by rw [h2]⟩
  · rw [h2] at h; cases h

theorem and32 (x : Int) (h : InU64 x) : (((BitVec.ofInt 64 x &&& BitVec.ofInt 64 4294967295).toNat : Nat) : Int) = x % 4294967296 := by
  obtain ⟨n, rfl⟩ := Int.eq_ofNat_of_zero_le h.1
  have hn : n < 2 ^ 64 := by have := h.2; omega
  have h1 : (BitVec.ofInt 64 (n : Int)).toNat = n := by simp [BitVec.toNat_ofInt]; omega
  have h2 : (BitVec.ofInt 64 4294967295).toNat = 2 ^ 32 - 1 := by decide
  rw [BitVec.toNat_and, h1, h2, Nat.and_two_pow_sub_one_eq_mod]
  omega

theorem mul64_fact {x y : Int} (hx : InU64 x) (hy : InU64 y) :
    (x / 4294967296 * (y / 4294967296) + (x / 4294967296 * (y % 4294967296) + x % 4294967296 * (y % 4294967296) / 4294967296) / 4294967296 +
      ((x / 4294967296 * (y % 4294967296) + x % 4294967296 * (y % 4294967296) / 4294967296) % 4294967296 + x % 4294967296 * (y / 4294967296)) / 4294967296) = x * y / 18446744073709551616 ∧
    0 ≤ x % 4294967296 * (y % 4294967296) ∧ x % 4294967296 * (y % 4294967296) ≤ 18446744065119617025 ∧
    0 ≤ x / 4294967296 * (y % 4294967296) ∧ x / 4294967296 * (y % 4294967296) ≤ 18446744065119617025 ∧
    0 ≤ x % 4294967296 * (y / 4294967296) ∧ x % 4294967296 * (y / 4294967296) ≤ 18446744065119617025 ∧
    0 ≤ x / 4294967296 * (y / 4294967296) ∧ x / 4294967296 * (y / 4294967296) ≤ 18446744065119617025 := by
  have b : ∀ {u v : Int}, 0 ≤ u → u ≤ 4294967295 → 0 ≤ v → v ≤ 4294967295 → 0 ≤ u * v ∧ u * v ≤ 18446744065119617025 := by
    intro u v h1 h2 h3 h4
    exact ⟨Int.mul_nonneg h1 h3, Int.le_trans (Int.mul_le_mul h2 h4 h3 (by omega)) (by decide)⟩
  obtain ⟨hx1, hx2⟩ := hx
  obtain ⟨hy1, hy2⟩ := hy
  obtain ⟨a1, a2⟩ := b (u := x % 4294967296) (v := y % 4294967296) (by omega) (by omega) (by omega) (by omega)
  obtain ⟨b1, b2⟩ := b (u := x / 4294967296) (v := y % 4294967296) (by omega) (by omega) (by omega) (by omega)
  obtain ⟨c1, c2⟩ := b (u := x % 4294967296) (v := y / 4294967296) (by omega) (by omega) (by omega) (by omega)
  obtain ⟨d1, d2⟩ := b (u := x / 4294967296) (v := y / 4294967296) (by omega) (by omega) (by omega) (by omega)
  refine ⟨?_, a1, a2, b1, b2, c1, c2, d1, d2⟩
  have e : x * y = x / 4294967296 * (y / 4294967296) * 18446744073709551616 + (x / 4294967296 * (y % 4294967296) + x % 4294967296 * (y / 4294967296)) * 4294967296 + x % 4294967296 * (y % 4294967296) := by
    have ex : x = x / 4294967296 * 4294967296 + x % 4294967296 := by omega
    have ey : y = y / 4294967296 * 4294967296 + y % 4294967296 := by omega
    clear a1 a2 b1 b2 c1 c2 d1 d2 b hx1 hx2 hy1 hy2
    generalize x / 4294967296 = x1 at *
    generalize x % 4294967296 = x0 at *
    generalize y / 4294967296 = y1 at *
    generalize y % 4294967296 = y0 at *
    subst ex ey
    simp only [Int.add_mul, Int.mul_add]
    have h1 : x1 * 4294967296 * (y1 * 4294967296) = x1 * y1 * 18446744073709551616 := by
      rw [Int.mul_assoc, Int.mul_comm 4294967296, Int.mul_assoc y1, ← Int.mul_assoc]
      rfl
    have h2 : x1 * 4294967296 * y0 = x1 * y0 * 4294967296 := by rw [Int.mul_assoc, Int.mul_comm 4294967296, ← Int.mul_assoc]
    have h3 : x0 * (y1 * 4294967296) = x0 * y1 * 4294967296 := by rw [← Int.mul_assoc]
    rw [h1, h2, h3]
    omega
  rw [e]
  generalize x / 4294967296 * (y / 4294967296) = d at *
  generalize x / 4294967296 * (y % 4294967296) = b' at *
  generalize x % 4294967296 * (y / 4294967296) = c at *
  generalize x % 4294967296 * (y % 4294967296) = a at *
  omega

theorem safe_Add_eq {a b : Int} (ha : In64 a) (hb : In64 b) : safe_Add a b = fitS (a + b) := by
  unfold In64 at ha hb
  unfold safe_Add fitS w64
  rw [wrap_i64]
  cases h : ((decide ((a + b + 9223372036854775808) % 18446744073709551616 - 9223372036854775808 > a) != decide (b > 0)) && b != 0)
  · rw [cond_false]
    simp only [Bool.and_eq_false_iff, bne_eq_false_iff_eq, decide_eq_decide] at h
    split <;> simp only [Prod.mk.injEq, and_true] <;> omega
  · rw [cond_true]
    simp only [Bool.and_eq_true, bne_iff_ne, ne_eq, decide_eq_decide] at h
    split <;> simp only [Prod.mk.injEq] <;> omega

theorem safe_size_eq {a : Int} (h : In64 a) : safe_size a = a.natAbs := by
  unfold In64 at h
  unfold safe_size
  rw [pickB]
  simp only [decide_eq_true_eq, wrap_u64]
  split <;> omega

theorem inU_abs {a : Int} (h : In64 a) : InU64 a.natAbs := by unfold In64 at h; unfold InU64; omega
theorem natAbs_prod (a b : Int) : (a.natAbs : Int) * b.natAbs = (a * b).natAbs := by rw [Int.natAbs_mul]; simp

theorem mul64_eq {x y : Int} (hx : InU64 x) (hy : InU64 y) : math_bits_Mul64 x y = (x * y / 18446744073709551616, x * y % 18446744073709551616) := by
  unfold math_bits_Mul64
  have hb : ∀ z : Int, z.fdiv (2 ^ 32) = z / 4294967296 := fun z => Int.fdiv_eq_ediv_of_nonneg z (by decide)
  have hm : (IntKind.u64.bits) = 64 := rfl
  obtain ⟨h1, h2, h3, h4, h5, h6, h7, h8, h9⟩ := mul64_fact hx hy
  have hw : ∀ z : Int, 0 ≤ z → z ≤ 18446744073709551615 → IntKind.u64.wrap z = z := fun z q1 q2 => by rw [wrap_u64]; omega
  simp only [hb, iAnd]
  rw [hm, and32 x hx, and32 y hy]
  have x0 : 0 ≤ x % 4294967296 ∧ x % 4294967296 < 4294967296 := by omega
  have y0 : 0 ≤ y % 4294967296 ∧ y % 4294967296 < 4294967296 := by omega
  rw [hw (x % 4294967296) (by omega) (by omega), hw (y % 4294967296) (by omega) (by omega), hw _ h2 (by omega), hw _ h4 (by omega), hw _ h6 (by omega), hw _ h8 (by omega)]
  rw [hw (x / 4294967296 * (y % 4294967296) + x % 4294967296 * (y % 4294967296) / 4294967296) (by omega) (by omega)]
  rw [and32 _ ⟨by omega, by omega⟩]
  have t0 : 0 ≤ (x / 4294967296 * (y % 4294967296) + x % 4294967296 * (y % 4294967296) / 4294967296) % 4294967296 ∧ (x / 4294967296 * (y % 4294967296) + x % 4294967296 * (y % 4294967296) / 4294967296) % 4294967296 < 4294967296 := by omega
  rw [hw ((x / 4294967296 * (y % 4294967296) + x % 4294967296 * (y % 4294967296) / 4294967296) % 4294967296) (by omega) (by omega)]
  rw [hw ((x / 4294967296 * (y % 4294967296) + x % 4294967296 * (y % 4294967296) / 4294967296) % 4294967296 + x % 4294967296 * (y / 4294967296)) (by omega) (by omega)]
  rw [hw (x / 4294967296 * (y / 4294967296) + (x / 4294967296 * (y % 4294967296) + x % 4294967296 * (y % 4294967296) / 4294967296) / 4294967296) (by omega) (by omega)]
  rw [hw _ (by omega) (by omega), h1, wrap_u64]

theorem safe_signed_eq {n : Int} (m : Bool) (h : InU64 n) : safe_signed n m = fitS (if m then -n else n) := by
  unfold InU64 at h
  unfold safe_signed fitS w64
  rw [pickB, pickB, wrap_u64, wrap_i64, wrap_i64]
  cases m <;> simp only [Bool.true_and, Bool.false_and, Bool.not_true, Bool.not_false, decide_eq_true_eq, Bool.false_eq_true, if_false, if_true]
  · split
    · rw [if_pos (by omega)]; simp only [Prod.mk.injEq, and_true]; omega
    · rw [if_neg (by omega)]
  · split
    · rw [if_pos (by omega)]; simp only [Prod.mk.injEq, and_true]; omega
    · rw [if_neg (by omega)]

theorem safe_Mul_eq {a b : Int} (ha : In64 a) (hb : In64 b) : safe_Mul a b = fitS (a * b) := by
  unfold safe_Mul
  rw [safe_size_eq ha, safe_size_eq hb, mul64_eq (inU_abs ha) (inU_abs hb), pickB]
  simp only [natAbs_prod]
  rw [safe_signed_eq _ (by unfold InU64; omega)]
  by_cases h : ((a * b).natAbs : Int) / 18446744073709551616 = 0
  · rw [if_neg (by simp [h])]
    have e : ((a * b).natAbs : Int) % 18446744073709551616 = (a * b).natAbs := by omega
    rw [e]
    show fitS _ = _
    refine congrArg fitS ?_
    by_cases h1 : a < 0 <;> by_cases h2 : b < 0 <;> simp only [h1, h2, decide_true, decide_false]
    · have := Int.mul_nonneg_of_nonpos_of_nonpos (Int.le_of_lt h1) (Int.le_of_lt h2)
      simp; omega
    · have := Int.mul_nonpos_of_nonpos_of_nonneg (Int.le_of_lt h1) (Int.not_lt.1 h2)
      simp; omega
    · have := Int.mul_nonpos_of_nonneg_of_nonpos (Int.not_lt.1 h1) (Int.le_of_lt h2)
      simp; omega
    · have := Int.mul_nonneg (Int.not_lt.1 h1) (Int.not_lt.1 h2)
      simp; omega
  · rw [if_pos (by simp [h])]
    unfold fitS
    rw [if_neg]
    omega

def floorS (a b : Int) : Int × Int × Int := if b = 0 then (0, 0, 11) else if b = -1 ∧ a = -9223372036854775808 then (0, 0, 10) else (a.fdiv b, a.fmod b, 0)
theorem floor_up {a b : Int} (hb : b ≠ 0) (h1 : a.tmod b ≠ 0) (h2 : ¬(a.tmod b < 0 ↔ b < 0)) : a.fdiv b = a.tdiv b - 1 ∧ a.fmod b = a.tmod b + b := by
  have q1 := Int.emod_nonneg a hb
  have q2 := Int.emod_lt a hb
  have hd : b ∣ a ↔ a % b = 0 := Int.dvd_iff_emod_eq_zero
  rw [Int.fdiv_eq_ediv, Int.fmod_eq_emod, Int.tdiv_eq_ediv]
  rw [Int.tmod_eq_emod] at h1 h2 ⊢
  simp only [hd] at h1 h2 ⊢
  rcases Int.lt_or_gt_of_ne hb with h | h
  · rw [Int.sign_eq_neg_one_of_neg h]
    split at h1 <;> split <;> simp_all <;> omega
  · rw [Int.sign_eq_one_of_pos h]
    split at h1 <;> split <;> simp_all <;> omega

theorem floor_same {a b : Int} (hb : b ≠ 0) (h : a.tmod b = 0 ∨ (a.tmod b < 0 ↔ b < 0)) : a.fdiv b = a.tdiv b ∧ a.fmod b = a.tmod b := by
  have q1 := Int.emod_nonneg a hb
  have q2 := Int.emod_lt a hb
  have hd : b ∣ a ↔ a % b = 0 := Int.dvd_iff_emod_eq_zero
  rw [Int.fdiv_eq_ediv, Int.fmod_eq_emod, Int.tdiv_eq_ediv]
  rw [Int.tmod_eq_emod] at h ⊢
  simp only [hd] at h ⊢
  rcases Int.lt_or_gt_of_ne hb with hh | hh
  · rw [Int.sign_eq_neg_one_of_neg hh]
    split at h <;> split <;> simp_all <;> omega
  · rw [Int.sign_eq_one_of_pos hh]
    split at h <;> split <;> simp_all <;> omega

theorem tdiv_in {a b : Int} (ha : In64 a) (hb : b ≠ 0) (hn : ¬(b = -1 ∧ a = -9223372036854775808)) : In64 (a.tdiv b) := by
  have h : (a.tdiv b).natAbs = a.natAbs / b.natAbs := Int.natAbs_tdiv a b
  obtain ⟨h1, h2⟩ := ha
  by_cases hb1 : b = 1
  · subst hb1; rw [Int.tdiv_one]; exact ⟨h1, h2⟩
  · by_cases hb2 : b = -1
    · have ha' : a ≠ -9223372036854775808 := fun e => hn ⟨hb2, e⟩
      have : a.natAbs / b.natAbs ≤ a.natAbs := Nat.div_le_self _ _
      unfold In64; omega
    · have h3 : a.natAbs / b.natAbs ≤ a.natAbs / 2 := Nat.div_le_div_left (by omega) (by omega)
      unfold In64; omega

theorem tdiv_in1 {a b : Int} (ha : In64 a) (hb : b ≠ 0) (h1 : a.tmod b ≠ 0) : In64 (a.tdiv b - 1) := by
  have h : (a.tdiv b).natAbs = a.natAbs / b.natAbs := Int.natAbs_tdiv a b
  obtain ⟨h2, h3⟩ := ha
  by_cases hb1 : b = 1
  · subst hb1; simp at h1
  · by_cases hb2 : b = -1
    · subst hb2; simp at h1
    · have h3 : a.natAbs / b.natAbs ≤ a.natAbs / 2 := Nat.div_le_div_left (by omega) (by omega)
      unfold In64; omega

theorem tmod_in {a b : Int} (hb : In64 b) (hb0 : b ≠ 0) : In64 (a.tmod b) := by
  have h : (a.tmod b).natAbs = a.natAbs % b.natAbs := Int.natAbs_tmod a b
  have : a.natAbs % b.natAbs < b.natAbs := Nat.mod_lt _ (by omega)
  unfold In64 at *; omega

theorem wrap_in {a : Int} (h : In64 a) : IntKind.i64.wrap a = a := by rw [wrap_i64]; unfold In64 at h; omega

theorem fmod_in {a b : Int} (hb : In64 b) (hb0 : b ≠ 0) : In64 (a.fmod b) := by
  have q1 := Int.emod_nonneg a hb0
  have q2 := Int.emod_lt a hb0
  rw [Int.fmod_eq_emod]
  unfold In64 at *
  split <;> omega

theorem floor_leaf1 {a b : Int} (ha : In64 a) (hb : In64 b) (h0 : b ≠ 0) (hn : ¬(b = -1 ∧ a = -9223372036854775808)) (h1 : a.tmod b ≠ 0) (h2 : ¬(a.tmod b < 0 ↔ b < 0)) :
    (IntKind.i64.wrap (IntKind.i64.wrap (a.tdiv b) - 1), IntKind.i64.wrap (a.tmod b + b), (0 : Int)) = floorS a b := by
  obtain ⟨e1, e2⟩ := floor_up h0 h1 h2
  rw [floorS, if_neg h0, if_neg hn, e1, e2, wrap_in (tdiv_in ha h0 hn), wrap_in (tdiv_in1 ha h0 h1), wrap_in (by rw [← e2]; exact fmod_in hb h0)]

theorem floor_leaf2 {a b : Int} (ha : In64 a) (hb : In64 b) (h0 : b ≠ 0) (hn : ¬(b = -1 ∧ a = -9223372036854775808)) (h : a.tmod b = 0 ∨ (a.tmod b < 0 ↔ b < 0)) :
    (IntKind.i64.wrap (a.tdiv b), a.tmod b, (0 : Int)) = floorS a b := by
  obtain ⟨e1, e2⟩ := floor_same h0 h
  rw [floorS, if_neg h0, if_neg hn, e1, e2, wrap_in (tdiv_in ha h0 hn)]


theorem safe_Floor_eq {a b : Int} (ha : In64 a) (hb : In64 b) : safe_Floor a b = some (floorS a b) := by
  unfold safe_Floor
  by_cases h0 : b = 0
  · subst h0; rfl
  rw [beq_f h0, cond_false]
  by_cases hn : b = -1 ∧ a = -9223372036854775808
  · obtain ⟨rfl, rfl⟩ := hn
    rfl
  have : (b == -1 && a == -9223372036854775808) = false := by
    simp only [Bool.and_eq_false_iff, beq_eq_false_iff_ne]
    by_cases h : b = -1
    · exact .inr fun e => hn ⟨h, e⟩
    · exact .inl h
  rw [this, cond_false, nz?_ok h0]
  simp only [Option.bind_some, pickB, Bool.and_eq_true, bne_iff_ne, ne_eq, decide_eq_decide]
  split
  · rename_i h
    simp only [Option.bind_some]
    exact congrArg some (floor_leaf1 ha hb h0 hn h.1 h.2)
  · rename_i h
    simp only [Option.bind_some]
    refine congrArg some (floor_leaf2 ha hb h0 hn ?_)
    by_cases h1 : a.tmod b = 0
    · exact .inl h1
    · exact .inr (Classical.byContradiction fun h2 => h ⟨h1, h2⟩)

theorem fdiv_nonneg_eq {a b : Int} (hb : 0 < b) : a.fdiv b = a / b ∧ a.fmod b = a % b := ⟨Int.fdiv_eq_ediv_of_nonneg a (Int.le_of_lt hb), Int.fmod_eq_emod_of_nonneg a (Int.le_of_lt hb)⟩
theorem floorS_pos {a b : Int} (hb : 0 < b) : floorS a b = (a / b, a % b, 0) := by
  unfold floorS
  rw [if_neg (by omega), if_neg (by omega), (fdiv_nonneg_eq hb).1, (fdiv_nonneg_eq hb).2]

end Go.Dn
