/- Part 5 of what the row stands on. -/
import Derived.Test.YtliohipholncpaaM4
set_option linter.unusedVariables false
set_option linter.unusedSimpArgs false
namespace Go.Dn
open Go

def In64 (a : Int) : Prop := -9223372036854775808 ≤ a ∧ a ≤ 9223372036854775807
def Z6m (a : Int) : Prop := 0 ≤ a ∧ a ≤ 18446744073709551615
def fitS (a : Int) : Int × Int := if -9223372036854775808 ≤ a ∧ a ≤ 9223372036854775807 then (a, 0) else (0, 10)
theorem fitS_of {a : Int} (h : In64 a) : fitS a = (a, 0) := if_pos h
theorem fitS_not {a : Int} (h : ¬ In64 a) : fitS a = (0, 10) := if_neg h
theorem fit_or (x : Int) : (In64 x ∧ fitS x = (x, 0)) ∨ (¬ In64 x ∧ fitS x = (0, 10)) := by
 by_cases h : In64 x
 ·exact .inl ⟨h, fitS_of h⟩
 ·exact .inr ⟨h, fitS_not h⟩
theorem and32 (x : Int) (h : Z6m x) : (((BitVec.ofInt 64 x &&& BitVec.ofInt 64 4294967295).toNat : Nat) : Int) = x % 4294967296 := by
 obtain ⟨n, rfl⟩ := Int.eq_ofNat_of_zero_le h.1
 have hn : n < 2 ^ 64 := by have := h.2; omega
 have h1 : (BitVec.ofInt 64 (n : Int)).toNat = n := by simp [BitVec.toNat_ofInt]; omega
 have h2 : (BitVec.ofInt 64 4294967295).toNat = 2 ^ 32 - 1 := by decide
 rw [BitVec.toNat_and, h1, h2, Nat.and_two_pow_sub_one_eq_mod]
 omega

theorem mul64_fact {x y : Int} (hx : Z6m x) (hy : Z6m y) :
  (x / 4294967296 * (y / 4294967296) + (x / 4294967296 * (y % 4294967296) + x % 4294967296 * (y % 4294967296) / 4294967296) / 4294967296 +
   ((x / 4294967296 * (y % 4294967296) + x % 4294967296 * (y % 4294967296) / 4294967296) % 4294967296 + x % 4294967296 * (y / 4294967296)) / 4294967296) = x * y / 18446744073709551616 ∧
  0 ≤ x % 4294967296 * (y % 4294967296) ∧ x % 4294967296 * (y % 4294967296) ≤ 18446744065119617025 ∧
  0 ≤ x / 4294967296 * (y % 4294967296) ∧ x / 4294967296 * (y % 4294967296) ≤ 18446744065119617025 ∧
  0 ≤ x % 4294967296 * (y / 4294967296) ∧ x % 4294967296 * (y / 4294967296) ≤ 18446744065119617025 ∧
  0 ≤ x / 4294967296 * (y / 4294967296) ∧ x / 4294967296 * (y / 4294967296) ≤ 18446744065119617025 := by
 have b : ∀ {u v : Int}, 0 ≤ u → u ≤ 4294967295 → 0 ≤ v → v ≤ 4294967295 → 0 ≤ u * v ∧ u * v ≤ 18446744065119617025 := by
  intro u v h1 h2 h3 h4
  exact ⟨Int.mul_nonneg h1 h3, Int.le_trans (Int.mul_le_mul h2 h4 h3 (by omega)) (by decide)⟩
 obtain ⟨hx1, hx2⟩ := hx
 obtain ⟨hy1, hy2⟩ := hy
 obtain ⟨a1, a2⟩ := b (u := x % 4294967296) (v := y % 4294967296) (by omega) (by omega) (by omega) (by omega)
 obtain ⟨b1, b2⟩ := b (u := x / 4294967296) (v := y % 4294967296) (by omega) (by omega) (by omega) (by omega)
 obtain ⟨c1, c2⟩ := b (u := x % 4294967296) (v := y / 4294967296) (by omega) (by omega) (by omega) (by omega)
 obtain ⟨d1, d2⟩ := b (u := x / 4294967296) (v := y / 4294967296) (by omega) (by omega) (by omega) (by omega)
 refine ⟨?_, a1, a2, b1, b2, c1, c2, d1, d2⟩
 have e : x * y = x / 4294967296 * (y / 4294967296) * 18446744073709551616 + (x / 4294967296 * (y % 4294967296) + x % 4294967296 * (y / 4294967296)) * 4294967296 + x % 4294967296 * (y % 4294967296) := by
  have ex : x = x / 4294967296 * 4294967296 + x % 4294967296 := by omega
  have ey : y = y / 4294967296 * 4294967296 + y % 4294967296 := by omega
  clear a1 a2 b1 b2 c1 c2 d1 d2 b hx1 hx2 hy1 hy2
  generalize x / 4294967296 = x1 at *
  generalize x % 4294967296 = x0 at *
  generalize y / 4294967296 = y1 at *
  generalize y % 4294967296 = y0 at *
  subst ex ey
  simp only [Int.add_mul, Int.mul_add]
  have h1 : x1 * 4294967296 * (y1 * 4294967296) = x1 * y1 * 18446744073709551616 := by
   rw [Int.mul_assoc, Int.mul_comm 4294967296, Int.mul_assoc y1, ← Int.mul_assoc]
   rfl
  have h2 : x1 * 4294967296 * y0 = x1 * y0 * 4294967296 := by rw [Int.mul_assoc, Int.mul_comm 4294967296, ← Int.mul_assoc]
  have h3 : x0 * (y1 * 4294967296) = x0 * y1 * 4294967296 := by rw [← Int.mul_assoc]
  rw [h1, h2, h3]
  omega
 rw [e]
 generalize x / 4294967296 * (y / 4294967296) = d at *
 generalize x / 4294967296 * (y % 4294967296) = b' at *
 generalize x % 4294967296 * (y / 4294967296) = c at *
 generalize x % 4294967296 * (y % 4294967296) = a at *
 omega

theorem Z8l {a b : Int} (ha : In64 a) (hb : In64 b) : ZC a b = fitS (a + b) := by
 unfold In64 at ha hb
 unfold ZC fitS w64
 rw [Z57]
 cases h : ((decide ((a + b + 9223372036854775808) % 18446744073709551616 - 9223372036854775808 > a) != decide (b > 0)) && b != 0)
 ·rw [cond_false]
  simp only [Bool.and_eq_false_iff, bne_eq_false_iff_eq, decide_eq_decide] at h
  split <;> simp only [Prod.mk.injEq, and_true] <;> omega
 ·rw [cond_true]
  simp only [Bool.and_eq_true, bne_iff_ne, ne_eq, decide_eq_decide] at h
  split <;> simp only [Prod.mk.injEq] <;> omega

theorem Z7I {a : Int} (h : In64 a) : ZG a = a.natAbs := by
 unfold In64 at h
 unfold ZG
 rw [pickB]
 simp only [decide_eq_true_eq, Z4w]
 split <;> omega

theorem inU_abs {a : Int} (h : In64 a) : Z6m a.natAbs := by unfold In64 at h; unfold Z6m; omega
theorem natAbs_prod (a b : Int) : (a.natAbs : Int) * b.natAbs = (a * b).natAbs := by rw [Int.natAbs_mul]; simp

theorem mul64_eq {x y : Int} (hx : Z6m x) (hy : Z6m y) : ZJ x y = (x * y / 18446744073709551616, x * y % 18446744073709551616) := by
 unfold ZJ
 have hb : ∀ z : Int, z.fdiv (2 ^ 32) = z / 4294967296 := fun z => Int.fdiv_eq_ediv_of_nonneg z (by decide)
 have hm : (IntKind.u64.bits) = 64 := rfl
 obtain ⟨h1, h2, h3, h4, h5, h6, h7, h8, h9⟩ := mul64_fact hx hy
 have hw : ∀ z : Int, 0 ≤ z → z ≤ 18446744073709551615 → IntKind.u64.wrap z = z := fun z q1 q2 => by rw [Z4w]; omega
 simp only [hb, iAnd]
 rw [hm, and32 x hx, and32 y hy]
 have x0 : 0 ≤ x % 4294967296 ∧ x % 4294967296 < 4294967296 := by omega
 have y0 : 0 ≤ y % 4294967296 ∧ y % 4294967296 < 4294967296 := by omega
 rw [hw (x % 4294967296) (by omega) (by omega), hw (y % 4294967296) (by omega) (by omega), hw _ h2 (by omega), hw _ h4 (by omega), hw _ h6 (by omega), hw _ h8 (by omega)]
 rw [hw (x / 4294967296 * (y % 4294967296) + x % 4294967296 * (y % 4294967296) / 4294967296) (by omega) (by omega)]
 rw [and32 _ ⟨by omega, by omega⟩]
 have t0 : 0 ≤ (x / 4294967296 * (y % 4294967296) + x % 4294967296 * (y % 4294967296) / 4294967296) % 4294967296 ∧ (x / 4294967296 * (y % 4294967296) + x % 4294967296 * (y % 4294967296) / 4294967296) % 4294967296 < 4294967296 := by omega
 rw [hw ((x / 4294967296 * (y % 4294967296) + x % 4294967296 * (y % 4294967296) / 4294967296) % 4294967296) (by omega) (by omega)]
 rw [hw ((x / 4294967296 * (y % 4294967296) + x % 4294967296 * (y % 4294967296) / 4294967296) % 4294967296 + x % 4294967296 * (y / 4294967296)) (by omega) (by omega)]
 rw [hw (x / 4294967296 * (y / 4294967296) + (x / 4294967296 * (y % 4294967296) + x % 4294967296 * (y % 4294967296) / 4294967296) / 4294967296) (by omega) (by omega)]
 rw [hw _ (by omega) (by omega), h1, Z4w]

theorem Z9o {n : Int} (m : Bool) (h : Z6m n) : Z0L n m = fitS (if m then -n else n) := by
 unfold Z6m at h
 unfold Z0L fitS w64
 rw [pickB, pickB, Z4w, Z57, Z57]
 cases m <;> simp only [Bool.true_and, Bool.false_and, Bool.not_true, Bool.not_false, decide_eq_true_eq, Bool.false_eq_true, if_false, if_true]
 ·split
  ·rw [if_pos (by omega)]; simp only [Prod.mk.injEq, and_true]; omega
  ·rw [if_neg (by omega)]
 ·split
  ·rw [if_pos (by omega)]; simp only [Prod.mk.injEq, and_true]; omega
  ·rw [if_neg (by omega)]

theorem safe_Mul_eq {a b : Int} (ha : In64 a) (hb : In64 b) : Z0O a b = fitS (a * b) := by
 unfold Z0O
 rw [Z7I ha, Z7I hb, mul64_eq (inU_abs ha) (inU_abs hb), pickB]
 simp only [natAbs_prod]
 rw [Z9o _ (by unfold Z6m; omega)]
 by_cases h : ((a * b).natAbs : Int) / 18446744073709551616 = 0
 ·rw [if_neg (by simp [h])]
  have e : ((a * b).natAbs : Int) % 18446744073709551616 = (a * b).natAbs := by omega
  rw [e]
  show fitS _ = _
  refine congrArg fitS ?_
  by_cases h1 : a < 0 <;> by_cases h2 : b < 0 <;> simp only [h1, h2, decide_true, decide_false]
  ·have := Int.mul_nonneg_of_nonpos_of_nonpos (Int.le_of_lt h1) (Int.le_of_lt h2)
   simp; omega
  ·have := Int.mul_nonpos_of_nonpos_of_nonneg (Int.le_of_lt h1) (Int.not_lt.1 h2)
   simp; omega
  ·have := Int.mul_nonpos_of_nonneg_of_nonpos (Int.not_lt.1 h1) (Int.le_of_lt h2)
   simp; omega
  ·have := Int.mul_nonneg (Int.not_lt.1 h1) (Int.not_lt.1 h2)
   simp; omega
 ·rw [if_pos (by simp [h])]
  unfold fitS
  rw [if_neg]
  omega

def Z6u (a b : Int) : Int × Int × Int := if b = 0 then (0, 0, 11) else if b = -1 ∧ a = -9223372036854775808 then (0, 0, 10) else (a.fdiv b, a.fmod b, 0)
theorem floor_up {a b : Int} (hb : b ≠ 0) (h1 : a.tmod b ≠ 0) (h2 : ¬(a.tmod b < 0 ↔ b < 0)) : a.fdiv b = a.tdiv b - 1 ∧ a.fmod b = a.tmod b + b := by
 have q1 := Int.emod_nonneg a hb
 have q2 := Int.emod_lt a hb
 have hd : b ∣ a ↔ a % b = 0 := Int.dvd_iff_emod_eq_zero
 rw [Int.fdiv_eq_ediv, Int.fmod_eq_emod, Int.tdiv_eq_ediv]
 rw [Int.tmod_eq_emod] at h1 h2 ⊢
 simp only [hd] at h1 h2 ⊢
 rcases Int.lt_or_gt_of_ne hb with h | h
 ·rw [Int.sign_eq_neg_one_of_neg h]
  split at h1 <;> split <;> simp_all <;> omega
 ·rw [Int.sign_eq_one_of_pos h]
  split at h1 <;> split <;> simp_all <;> omega

theorem floor_same {a b : Int} (hb : b ≠ 0) (h : a.tmod b = 0 ∨ (a.tmod b < 0 ↔ b < 0)) : a.fdiv b = a.tdiv b ∧ a.fmod b = a.tmod b := by
 have q1 := Int.emod_nonneg a hb
 have q2 := Int.emod_lt a hb
 have hd : b ∣ a ↔ a % b = 0 := Int.dvd_iff_emod_eq_zero
 rw [Int.fdiv_eq_ediv, Int.fmod_eq_emod, Int.tdiv_eq_ediv]
 rw [Int.tmod_eq_emod] at h ⊢
 simp only [hd] at h ⊢
 rcases Int.lt_or_gt_of_ne hb with hh | hh
 ·rw [Int.sign_eq_neg_one_of_neg hh]
  split at h <;> split <;> simp_all <;> omega
 ·rw [Int.sign_eq_one_of_pos hh]
  split at h <;> split <;> simp_all <;> omega

theorem tdiv_in {a b : Int} (ha : In64 a) (hb : b ≠ 0) (hn : ¬(b = -1 ∧ a = -9223372036854775808)) : In64 (a.tdiv b) := by
 have h : (a.tdiv b).natAbs = a.natAbs / b.natAbs := Int.natAbs_tdiv a b
 obtain ⟨h1, h2⟩ := ha
 by_cases hb1 : b = 1
 ·subst hb1; rw [Int.tdiv_one]; exact ⟨h1, h2⟩
 ·by_cases hb2 : b = -1
  ·have ha' : a ≠ -9223372036854775808 := fun e => hn ⟨hb2, e⟩
   have : a.natAbs / b.natAbs ≤ a.natAbs := Nat.div_le_self _ _
   unfold In64; omega
  ·have h3 : a.natAbs / b.natAbs ≤ a.natAbs / 2 := Nat.div_le_div_left (by omega) (by omega)
   unfold In64; omega

theorem tdiv_in1 {a b : Int} (ha : In64 a) (hb : b ≠ 0) (h1 : a.tmod b ≠ 0) : In64 (a.tdiv b - 1) := by
 have h : (a.tdiv b).natAbs = a.natAbs / b.natAbs := Int.natAbs_tdiv a b
 obtain ⟨h2, h3⟩ := ha
 by_cases hb1 : b = 1
 ·subst hb1; simp at h1
 ·by_cases hb2 : b = -1
  ·subst hb2; simp at h1
  ·have h3 : a.natAbs / b.natAbs ≤ a.natAbs / 2 := Nat.div_le_div_left (by omega) (by omega)
   unfold In64; omega

theorem wrap_in {a : Int} (h : In64 a) : IntKind.i64.wrap a = a := by rw [Z57]; unfold In64 at h; omega

theorem fmod_in {a b : Int} (hb : In64 b) (hb0 : b ≠ 0) : In64 (a.fmod b) := by
 have q1 := Int.emod_nonneg a hb0
 have q2 := Int.emod_lt a hb0
 rw [Int.fmod_eq_emod]
 unfold In64 at *
 split <;> omega

theorem floor_leaf1 {a b : Int} (ha : In64 a) (hb : In64 b) (h0 : b ≠ 0) (hn : ¬(b = -1 ∧ a = -9223372036854775808)) (h1 : a.tmod b ≠ 0) (h2 : ¬(a.tmod b < 0 ↔ b < 0)) :
  (IntKind.i64.wrap (IntKind.i64.wrap (a.tdiv b) - 1), IntKind.i64.wrap (a.tmod b + b), (0 : Int)) = Z6u a b := by
 obtain ⟨e1, e2⟩ := floor_up h0 h1 h2
 rw [Z6u, if_neg h0, if_neg hn, e1, e2, wrap_in (tdiv_in ha h0 hn), wrap_in (tdiv_in1 ha h0 h1), wrap_in (by rw [← e2]; exact fmod_in hb h0)]

theorem floor_leaf2 {a b : Int} (ha : In64 a) (hb : In64 b) (h0 : b ≠ 0) (hn : ¬(b = -1 ∧ a = -9223372036854775808)) (h : a.tmod b = 0 ∨ (a.tmod b < 0 ↔ b < 0)) :
  (IntKind.i64.wrap (a.tdiv b), a.tmod b, (0 : Int)) = Z6u a b := by
 obtain ⟨e1, e2⟩ := floor_same h0 h
 rw [Z6u, if_neg h0, if_neg hn, e1, e2, wrap_in (tdiv_in ha h0 hn)]


theorem Z2j {a b : Int} (ha : In64 a) (hb : In64 b) : Z0r a b = some (Z6u a b) := by
 unfold Z0r
 by_cases h0 : b = 0
 ·subst h0; rfl
 rw [beq_f h0, cond_false]
 by_cases hn : b = -1 ∧ a = -9223372036854775808
 ·obtain ⟨rfl, rfl⟩ := hn
  rfl
 have : (b == -1 && a == -9223372036854775808) = false := by
  simp only [Bool.and_eq_false_iff, beq_eq_false_iff_ne]
  by_cases h : b = -1
  ·exact .inr fun e => hn ⟨h, e⟩
  ·exact .inl h
 rw [this, cond_false, nz?_ok h0]
 simp only [Option.bind_some, pickB, Bool.and_eq_true, bne_iff_ne, ne_eq, decide_eq_decide]
 split
 ·rename_i h
  simp only [Option.bind_some]
  exact congrArg some (floor_leaf1 ha hb h0 hn h.1 h.2)
 ·rename_i h
  simp only [Option.bind_some]
  refine congrArg some (floor_leaf2 ha hb h0 hn ?_)
  by_cases h1 : a.tmod b = 0
  ·exact .inl h1
  ·exact .inr (Classical.byContradiction fun h2 => h ⟨h1, h2⟩)

theorem Z69 {a b : Int} (hb : 0 < b) : a.fdiv b = a / b ∧ a.fmod b = a % b := ⟨Int.fdiv_eq_ediv_of_nonneg a (Int.le_of_lt hb), Int.fmod_eq_emod_of_nonneg a (Int.le_of_lt hb)⟩
theorem Z4G {a b : Int} (hb : 0 < b) : Z6u a b = (a / b, a % b, 0) := by
 unfold Z6u
 rw [if_neg (by omega), if_neg (by omega), (Z69 hb).1, (Z69 hb).2]

end Go.Dn

namespace Go.Dn
open Go

theorem Z18 : reachBytes = 140737488351232 := rfl

def ZP (t : Int) : Prop := -1099511627776 ≤ t ∧ t ≤ 1099511627776
instance (t : Int) : Decidable (ZP t) := by unfold ZP; infer_instance
theorem Z4g (t : Int) : Za t = decide (ZP t) := by
 rw [Bool.eq_iff_iff, decide_eq_true_iff]; simp [Za, ZP]
theorem Z5h (t : Int) : Zy t = decide (ZP t) := by
 rw [Bool.eq_iff_iff, decide_eq_true_iff]; simp [Zy, ZP]
theorem Z2e {t : Int} (h : ZP t) : In64 t := by unfold ZP at h; unfold In64; omega

structure RightL (l : List Span) : Prop where
 ok : ∀ (k : Nat) (s : Span), l[k]? = some s → ZP s.From ∧ ZP s.To ∧ s.From ≤ s.To
 gap : ∀ (k : Nat) (s t : Span), l[k]? = some s → l[k + 1]? = some t → s.To + 2 ≤ t.From

abbrev Len (l : List Span) : Prop := l.length * 16 ≤ reachBytes
abbrev Sp64 (l : List Span) : Prop := ∀ s ∈ l, In64 s.From ∧ In64 s.To

theorem Span.ok64 {s : Span} (h : s.ok) : In64 s.From ∧ In64 s.To := h
theorem okSpans {l : List Span} (h : okL 16 Span.ok l) : Len l ∧ Sp64 l := ⟨h.1, fun s hs => Span.ok64 (h.2 s hs)⟩
theorem RightL.sp64 {l : List Span} (h : RightL l) : Sp64 l := fun s hs => by
 obtain ⟨k, hk⟩ := List.getElem?_of_mem hs
 have := h.ok k s hk
 exact ⟨Z2e this.1, Z2e this.2.1⟩

def Z3b (l : List Span) (k : Nat) (s : Span) : Prop := ZP s.From ∧ ZP s.To ∧ s.From ≤ s.To ∧ ∀ p, k ≠ 0 → l[k - 1]? = some p → p.To + 2 ≤ s.From

theorem Z5I {l : List Span} : RightL l ↔ ∀ k s, l[k]? = some s → Z3b l k s := by
 constructor
 ·intro h k s hk
  obtain ⟨h1, h2, h3⟩ := h.ok k s hk
  refine ⟨h1, h2, h3, fun p h0 hp => ?_⟩
  have : k - 1 + 1 = k := by omega
  exact h.gap (k - 1) p s hp (by rw [this]; exact hk)
 ·intro h
  refine ⟨fun k s hk => ⟨(h k s hk).1, (h k s hk).2.1, (h k s hk).2.2.1⟩, fun k s t hs ht => (h (k + 1) t ht).2.2.2 s (by omega) (by simpa using hs)⟩

theorem Z6A {l : List Span} (hl : Len l) (h64 : Sp64 l) : ∃ b, Z0S l = some b ∧ (b = true ↔ RightL l) := by
 have hlen : l.length ≤ maxLen := by rw [Z84]; have := Z18; unfold Len at hl; omega
 have step : ∀ (k : Nat) (s : Span), l[k]? = some s → (∀ j y, j < k → l[j]? = some y → Z3b l j y) → ∃ b, Z0S.s0 l (k : Int) = (if b = true then some (.inl ((k : Int) + 1)) else some (.inr (.ret false))) ∧ (b = true ↔ Z3b l k s) := by
  intro k s hk hprev
  have hlt := (List.getElem?_eq_some_iff.1 hk).1
  have hat : at? l (k : Int) = some s := by rw [at?_nat hlt]; rw [List.getElem?_eq_getElem hlt] at hk; exact hk
  unfold Z0S.s0
  rw [Ze (show (k : Int) < l.length by omega), cond_true, hat]
  simp only [Option.bind_some, Z4g]
  have hk1 : w64 ((k : Int) + 1) = k + 1 := ZQ (by rw [Z84] at hlen; omega)
  by_cases h1 : ZP s.From ∧ ZP s.To ∧ s.From ≤ s.To
  ·have : (!decide (ZP s.From) || !decide (ZP s.To) || decide (s.From > s.To)) = false := by
    rw [Ze h1.1, Ze h1.2.1, Zm (by omega)]; rfl
   rw [this, cond_false]
   by_cases h0 : k = 0
   ·subst h0
    refine ⟨true, by simp [w64]; rw [Z57]; rfl, by simp [Z3b, h1]⟩
   ·have hk0 : (k : Int) > 0 := by omega
    have hpl : k - 1 < l.length := by omega
    have hp : at? l (w64 ((k : Int) - 1)) = some l[k - 1] := by
     rw [ZQ (by rw [Z84] at hlen; omega), show ((k : Int) - 1) = ((k - 1 : Nat) : Int) by omega, at?_nat hpl]
    have hpg := hprev (k - 1) _ (by omega) (List.getElem?_eq_getElem hpl)
    have hpt : w64 (l[k - 1].To + 2) = l[k - 1].To + 2 := by
     have := hpg.2.1; unfold ZP at this; exact ZQ (by omega)
    rw [Ze hk0, cond_true, hp]
    simp only [Option.bind_some, hpt]
    refine ⟨!decide (s.From < l[k - 1].To + 2), ?_, ?_⟩
    ·cases hd : decide (s.From < l[k - 1].To + 2) <;> simp [hk1]
    ·simp only [Bool.not_eq_true', decide_eq_false_iff_not, Z3b]
     constructor
     ·intro h; refine ⟨h1.1, h1.2.1, h1.2.2, fun p _ hp' => ?_⟩
      rw [List.getElem?_eq_getElem hpl] at hp'; cases hp'; omega
     ·intro h; have := h.2.2.2 _ h0 (List.getElem?_eq_getElem hpl); omega
  ·refine ⟨false, ?_, by simp only [Bool.false_eq_true, Z3b, false_iff]; intro h; exact h1 ⟨h.1, h.2.1, h.2.2.1⟩⟩
   have : (!decide (ZP s.From) || !decide (ZP s.To) || decide (s.From > s.To)) = true := by
    by_cases a1 : ZP s.From
    ·by_cases a2 : ZP s.To
     ·have a3 : s.From > s.To := by
       apply Classical.byContradiction
       intro h
       exact h1 ⟨a1, a2, by omega⟩
      rw [Ze a3]; simp
     ·rw [Zm a2]; simp
    ·rw [Zm a1]; simp
   rw [this]; rfl
 unfold Z0S
 rcases Z3a (l := l) (step := Z0S.s0 l) (Z3b l) (no := .ret false) (yes := .go ()) (fun k x hk hp => by
   obtain ⟨b, h1, h2⟩ := step k x hk hp
   cases b
   ·exact .inr ⟨h1, fun h => by have := h2.2 h; cases this⟩
   ·exact .inl ⟨h1, h2.1 rfl⟩) (by
   unfold Z0S.s0; rw [Zm (by omega)]; rfl) with ⟨h1, h2⟩ | ⟨h1, h2⟩
 ·rw [h1]; exact ⟨true, rfl, by simp [Z5I.2 h2]⟩
 ·rw [h1]; exact ⟨false, rfl, by simp only [Bool.false_eq_true, false_iff]; exact fun h => h2 (Z5I.1 h)⟩


def Zh (by_ : Int) (s : Span) : Span := ⟨s.From + by_, s.To + by_⟩

theorem Z6d {l : List Span} {b : Int} (hl : Len l) (h64 : Sp64 l) (hb : In64 b) :
  ((∀ s ∈ l, ZP (s.From + b) ∧ ZP (s.To + b)) ∧ Z09 l b = some (l.map (Zh b), 0)) ∨ ((¬ ∀ s ∈ l, ZP (s.From + b) ∧ ZP (s.To + b)) ∧ Z09 l b = some ([], 20)) := by
 have hlen : (l.length : Int) < 9223372036854775807 := by have := Z18; unfold Len at hl; omega
 have step : ∀ (k : Nat) (s : Span) (acc : List Span), l[k]? = some s → acc.length = k → Z09.s0 l b ((k : Int), acc) = if ZP (s.From + b) ∧ ZP (s.To + b) then some (.inl ((k : Int) + 1, acc ++ [Zh b s])) else some (.inr (.ret ([], 20))) := by
  intro k s acc hk hacc
  have hlt := (List.getElem?_eq_some_iff.1 hk).1
  have hat : at? l (k : Int) = some s := by rw [at?_nat hlt]; rw [List.getElem?_eq_getElem hlt] at hk; exact hk
  obtain ⟨f64, t64⟩ := h64 s (List.mem_of_getElem? hk)
  unfold Z09.s0
  rw [Ze (show (k : Int) < l.length by omega), cond_true, hat]
  simp only [Option.bind_some]
  rw [Z8l f64 hb, Z8l t64 hb, Z4g, Z4g]
  have hk1 : w64 ((k : Int) + 1) = k + 1 := ZQ (by omega)
  have happ : ∀ x : Span, app? 16 acc [x] = some (acc ++ [x]) := fun x => app?_ok (by
   have := Z18; have := Z4V; unfold Len at hl; simp; omega)
  rcases fit_or (s.From + b) with ⟨q1, q2⟩ | ⟨q1, q2⟩ <;> rcases fit_or (s.To + b) with ⟨q3, q4⟩ | ⟨q3, q4⟩ <;> rw [q2, q4]
  ·by_cases h : ZP (s.From + b) ∧ ZP (s.To + b)
   ·rw [if_pos h, Ze h.1, Ze h.2]
    simp [happ, hk1, Zh]
   ·rw [if_neg h]
    have : (!decide (ZP (s.From + b)) || !decide (ZP (s.To + b))) = true := by
     by_cases h1 : ZP (s.From + b)
     ·rw [Zm (fun h2 => h ⟨h1, h2⟩)]; simp
     ·rw [Zm h1]; simp
    simp only [bne_self_eq_false, Bool.false_or, Bool.or_assoc] at this ⊢
    rw [this]; rfl
  ·rw [if_neg (fun h => q3 (Z2e h.2))]; rfl
  ·rw [if_neg (fun h => q1 (Z2e h.1))]; rfl
  ·rw [if_neg (fun h => q1 (Z2e h.1))]; rfl
 have hend : ∀ acc, Z09.s0 l b ((l.length : Int), acc) = some (.inr (.go acc)) := fun acc => by unfold Z09.s0; rw [Zm (by omega)]; rfl
 unfold Z09
 by_cases hall : ∀ s ∈ l, ZP (s.From + b) ∧ ZP (s.To + b)
 ·refine .inl ⟨hall, ?_⟩
  have : ZN (Z09.s0 l b) (0, []) = some (.go (l.map (Zh b))) := by
   refine Z1K (I := fun (s : Int × List Span) r => r = .go (l.map (Zh b)) ∧ ∃ k : Nat, k ≤ l.length ∧ s = ((k : Int), (l.take k).map (Zh b))) (fun s => l.length - s.1.toNat) ?_ ⟨rfl, 0, Nat.zero_le _, by simp⟩
   rintro s r ⟨rfl, k, hk, rfl⟩
   by_cases hlt : k < l.length
   ·refine .inl ⟨_, by rw [step k l[k] _ (List.getElem?_eq_getElem hlt) (by simp; omega), if_pos (hall _ (List.getElem_mem hlt))], ⟨rfl, k + 1, hlt, ?_⟩, by simp; omega⟩
    rw [List.take_succ_eq_append_getElem hlt, List.map_append]; push_cast; rfl
   ·have : k = l.length := by omega
    subst this
    rw [List.take_length]
    exact .inr (hend _)
  rw [this]; rfl
 ·refine .inr ⟨hall, ?_⟩
  obtain ⟨k0, s0, hk0, hb0, hg⟩ := Z8M (l := l) (good := fun _ s => ZP (s.From + b) ∧ ZP (s.To + b)) (fun h => hall fun s hs => by
   obtain ⟨k, hk⟩ := List.getElem?_of_mem hs; exact h k s hk)
  have hlt0 := (List.getElem?_eq_some_iff.1 hk0).1
  have : ZN (Z09.s0 l b) (0, []) = some (.ret ([], 20)) := by
   refine Z1K (I := fun (s : Int × List Span) r => r = .ret ([], 20) ∧ ∃ k : Nat, k ≤ k0 ∧ s.1 = (k : Int) ∧ s.2.length = k) (fun s => l.length - s.1.toNat) ?_ ⟨rfl, 0, Nat.zero_le _, rfl, rfl⟩
   rintro ⟨i, acc⟩ r ⟨rfl, k, hk, h1, h2⟩
   simp only at h1 h2
   subst h1
   by_cases hlt : k < k0
   ·have hkl : k < l.length := by omega
    exact .inl ⟨_, by rw [step k l[k] _ (List.getElem?_eq_getElem hkl) h2, if_pos (hg k _ hlt (List.getElem?_eq_getElem hkl))], ⟨rfl, k + 1, hlt, by push_cast; rfl, by simp; omega⟩, by simp; omega⟩
   ·have : k = k0 := by omega
    subst this
    exact .inr (by rw [step k s0 _ hk0 h2, if_neg hb0])
  rw [this]; rfl

theorem RightL.shift {l : List Span} {b : Int} (h : RightL l) (ht : ∀ s ∈ l, ZP (s.From + b) ∧ ZP (s.To + b)) : RightL (l.map (Zh b)) := by
 constructor
 ·intro k s hk
  rw [List.getElem?_map, Option.map_eq_some_iff] at hk
  obtain ⟨s, hk, rfl⟩ := hk
  have h1 := h.ok k s hk
  have h2 := ht s (List.mem_of_getElem? hk)
  exact ⟨h2.1, h2.2, by simp only [Zh]; omega⟩
 ·intro k s t hk hk1
  rw [List.getElem?_map, Option.map_eq_some_iff] at hk hk1
  obtain ⟨s, hk, rfl⟩ := hk
  obtain ⟨t, hk1, rfl⟩ := hk1
  have := h.gap k s t hk hk1
  simp only [Zh]; omega

def Z2y (a b : List Span) : Prop := ∀ x, a.getLast? = some x → ∀ y, b.head? = some y → x.To < y.From

theorem Z3y {a b : List Span} (ha : Len a) : ∃ r, Z13 a b = some r ∧ (r = true ↔ Z2y a b) := by
 unfold Z13
 cases a with
 | nil => exact ⟨true, by simp, by simp [Z2y]⟩
 | cons x a =>
  cases b with
  | nil => exact ⟨true, by simp, by simp [Z2y]⟩
  | cons y b =>
   have hl : ((x :: a).length : Int) < 9223372036854775807 := by have := Z18; unfold Len at ha; omega
   have e1 : (((x :: a).length : Int) == 0 || ((y :: b).length : Int) == 0) = false := by simp; omega
   have hlt : (x :: a).length - 1 < (x :: a).length := by simp
   have e2 : at? (x :: a) (w64 (((x :: a).length : Int) - 1)) = some (x :: a)[(x :: a).length - 1] := by
    rw [ZQ (by simp at hl ⊢; omega), show (((x :: a).length : Int) - 1) = (((x :: a).length - 1 : Nat) : Int) by simp, at?_nat hlt]
   have e3 : at? (y :: b) 0 = some y := rfl
   rw [e1, cond_false, e2, e3]
   refine ⟨decide ((x :: a)[(x :: a).length - 1].To < y.From), rfl, ?_⟩
   have hlast : (x :: a).getLast? = some (x :: a)[(x :: a).length - 1] := by rw [List.getLast?_eq_getElem?, List.getElem?_eq_getElem hlt]
   simp only [decide_eq_true_eq, Z2y, hlast, List.head?_cons, Option.some.injEq]
   exact ⟨fun h x' hx y' hy => by rw [← hx, ← hy]; exact h, fun h => h _ rfl _ rfl⟩

theorem span_beq (x y : Span) : ((x.From == y.From) && ((x.To == y.To) && true)) = decide (x = y) := by
 obtain ⟨x1, x2⟩ := x
 obtain ⟨y1, y2⟩ := y
 by_cases h1 : x1 = y1 <;> by_cases h2 : x2 = y2 <;> simp [h1, h2]

theorem spans_Same_eq {a b : List Span} (ha : Len a) : ∃ r, Z0w a b = some r ∧ (r = true ↔ a = b) := by
 have hl : (a.length : Int) < 9223372036854775807 := by have := Z18; unfold Len at ha; omega
 unfold Z0w ZX
 by_cases hlen : a.length = b.length
 ·have e1 : ((a.length : Int) != (b.length : Int)) = false := bne_f (by omega)
  rw [e1, cond_false]
  rcases Z3a (l := a) (step := ZX.s0 a b) (fun k x => b[k]? = some x) (no := .ret false) (yes := .go ()) (fun k x hk hp => by
   have hlt := (List.getElem?_eq_some_iff.1 hk).1
   have hat : at? a (k : Int) = some x := by rw [at?_nat hlt]; rw [List.getElem?_eq_getElem hlt] at hk; exact hk
   have hbt : at? b (k : Int) = some (b[k]'(by omega)) := at?_nat (by omega)
   unfold ZX.s0
   rw [Ze (show (k : Int) < a.length by omega), cond_true, hat, hbt, ZQ (show _ by omega)]
   simp only [Option.bind_some, span_beq]
   rw [List.getElem?_eq_getElem (show k < b.length by omega)]
   by_cases h : x = b[k]'(by omega)
   ·rw [Ze h]; exact .inl ⟨rfl, congrArg some h.symm⟩
   ·rw [Zm h]; exact .inr ⟨rfl, fun e => h (Option.some.inj e).symm⟩) (by
   unfold ZX.s0; rw [Zm (by omega)]; rfl) with ⟨h1, h2⟩ | ⟨h1, h2⟩
  ·rw [h1]
   refine ⟨true, rfl, ⟨fun _ => List.ext_getElem? fun k => ?_, fun _ => rfl⟩⟩
   by_cases hk : k < a.length
   ·rw [List.getElem?_eq_getElem hk]; exact (h2 k _ (List.getElem?_eq_getElem hk)).symm
   ·rw [List.getElem?_eq_none (by omega), List.getElem?_eq_none (by omega)]
  ·rw [h1]
   refine ⟨false, rfl, by simp only [Bool.false_eq_true, false_iff]; rintro rfl; exact h2 fun k x hk => hk⟩
 ·have e1 : ((a.length : Int) != (b.length : Int)) = true := bne_t (by omega)
  rw [e1, cond_true]
  exact ⟨false, rfl, by simp only [Bool.false_eq_true, false_iff]; rintro rfl; exact hlen rfl⟩

end Go.Dn

namespace Go.Dn
open Go

theorem Z9l (x y : Int) : Zv x y = if x < y then -1 else if y < x then 1 else 0 := by
 unfold Zv Z00
 simp only [bne_self_eq_false, cond_false, pickB, decide_eq_true_eq, gt_iff_lt, Bool.false_eq_true, if_false]

def Inc (l : List Granule) : Prop := ∀ (j k : Nat) (a b : Granule), j < k → l[j]? = some a → l[k]? = some b → a.Index < b.Index

theorem Z9s {l : List Granule} {t : Int} (hl : l.length * 32 ≤ reachBytes) (hs : Inc l) : ∃ p : Nat, p ≤ l.length ∧ (∀ (k : Nat) (g : Granule), l[k]? = some g → (k < p ↔ g.Index < t)) ∧
  Z5 l t (fun z0 z1 => some (Z2v z0 z1)) = some ((p : Int), decide (∃ g, l[p]? = some g ∧ g.Index = t)) := by
 have hlen : (l.length : Int) < 4398046511104 * 4 := by have := Z18; omega
 have hcmp : ∀ g i, Z2v g i = if g.Index < i then -1 else if i < g.Index then 1 else 0 := fun g i => Z9l _ _
 obtain ⟨r, h1, p, rfl, hp, hlow, hhigh⟩ := Z1V (step := Z5.s0 l t (fun z0 z1 => some (Z2v z0 z1)))
  (I := fun s => ∃ i j : Nat, s = ((i : Int), (j : Int)) ∧ i ≤ j ∧ j ≤ l.length ∧ (∀ k g, l[k]? = some g → k < i → g.Index < t) ∧ (∀ k g, l[k]? = some g → j ≤ k → t ≤ g.Index))
  (fun s => (s.2 - s.1).toNat)
  (fun r => ∃ p : Nat, r = (p : Int) ∧ p ≤ l.length ∧ (∀ k g, l[k]? = some g → k < p → g.Index < t) ∧ (∀ k g, l[k]? = some g → p ≤ k → t ≤ g.Index)) (by
  rintro s ⟨i, j, rfl, hij, hj, hlow, hhigh⟩
  unfold Z5.s0
  by_cases hlt : i < j
  ·have hm : w64 ((IntKind.u64.wrap (w64 ((i : Int) + j))).fdiv (2 ^ 1)) = ((i + j) / 2 : Nat) := by
    rw [ZQ (x := (i : Int) + j) (by omega), Z4w, Int.fdiv_eq_ediv_of_nonneg _ (by decide), ZQ (by omega)]
    omega
   have hml : (i + j) / 2 < l.length := by omega
   simp only [hm]
   rw [Ze (show (i : Int) < j by omega), cond_true, at?_nat hml]
   simp only [Option.bind_some, hcmp]
   refine .inl ?_
   have hget := List.getElem?_eq_getElem hml
   by_cases hc : l[(i + j) / 2].Index < t
   ·rw [if_pos hc]
    refine ⟨((((i + j) / 2 + 1 : Nat) : Int), (j : Int)), ?_, ⟨(i + j) / 2 + 1, j, rfl, by omega, hj, fun k g hk hki => ?_, hhigh⟩, by simp; omega⟩
    ·rw [ZQ (by omega)]; simp
    ·rcases Nat.lt_or_ge k ((i + j) / 2) with h | h
     ·have := hs k _ g _ h hk hget; omega
     ·have : k = (i + j) / 2 := by omega
      subst this; rw [hget] at hk; cases hk; exact hc
   ·rw [if_neg hc]
    refine ⟨((i : Int), (((i + j) / 2 : Nat) : Int)), ?_, ⟨i, (i + j) / 2, rfl, by omega, by omega, hlow, fun k g hk hki => ?_⟩, by simp; omega⟩
    ·split <;> simp
    ·rcases Nat.lt_or_ge ((i + j) / 2) k with h | h
     ·have := hs _ k _ g h hget hk; omega
     ·have : k = (i + j) / 2 := by omega
      subst this; rw [hget] at hk; cases hk; omega
  ·refine .inr ⟨(i : Int), by rw [Zm (show ¬ (i : Int) < j by omega)]; rfl, i, rfl, by omega, hlow, fun k g hk hki => hhigh k g hk (by omega)⟩) (0, (l.length : Int)) ⟨0, l.length, rfl, Nat.zero_le _, Nat.le_refl _, fun k g _ h => by omega, fun k g hk h => by
    rw [List.getElem?_eq_none h] at hk; cases hk⟩
 refine ⟨p, hp, fun k g hk => ⟨fun h => hlow k g hk h, fun h => ?_⟩, ?_⟩
 ·rcases Nat.lt_or_ge k p with h2 | h2
  ·exact h2
  ·have := hhigh k g hk h2; omega
 ·unfold Z5
  rw [h1]
  simp only [Option.bind_some]
  by_cases hlt : p < l.length
  ·rw [Ze (show (p : Int) < l.length by omega), cond_true, at?_nat hlt]
   simp only [Option.bind_some, hcmp, Option.some.injEq, Prod.mk.injEq, true_and]
   have := hhigh p _ (List.getElem?_eq_getElem hlt) (Nat.le_refl _)
   rw [List.getElem?_eq_getElem hlt]
   by_cases he : l[p].Index = t
   ·rw [if_neg (by omega), if_neg (by omega)]; simp [he]
   ·rw [if_neg (by omega), if_pos (by omega)]; simp [he]
  ·rw [Zm (show ¬ (p : Int) < l.length by omega), cond_false]
   simp only [Option.bind_some, Option.some.injEq, Prod.mk.injEq, true_and]
   rw [List.getElem?_eq_none (by omega)]
   simp

structure Shape (f : Form) : Prop where
 count : f.Count = f.Core.length
 zero : f.Count = 0 ↔ f.Period = 0
 per : 0 ≤ f.Period ∧ f.Period ≤ 1099511627776
 core : ∀ l ∈ f.Core, RightL l
 odd : ∀ g ∈ f.Odd, RightL g.Ticks ∧ ZP g.Index
 inc : Inc f.Odd

structure Lim (f : Form) : Prop where
 core : f.Core.length * 24 ≤ reachBytes
 sets : ∀ l ∈ f.Core, Len l ∧ Sp64 l
 odd : f.Odd.length * 32 ≤ reachBytes
 ticks : ∀ g ∈ f.Odd, In64 g.Index ∧ Len g.Ticks ∧ Sp64 g.Ticks
 count : In64 f.Count
 period : In64 f.Period

theorem Form.lim {f : Form} (h : f.ok) : Lim f := by
 obtain ⟨h1, h2, h3, h4⟩ := h
 exact ⟨h3.1, fun l hl => okSpans (h3.2 l hl), h4.1, fun g hg => ⟨(h4.2 g hg).1, okSpans (h4.2 g hg).2⟩, h2, h1⟩

theorem Z4N {f : Form} (hl : Lim f) (hs : Inc f.Odd) (i : Int) : ∃ p : Nat, p ≤ f.Odd.length ∧ (∀ (k : Nat) (g : Granule), f.Odd[k]? = some g → (k < p ↔ g.Index < i)) ∧ Z3W f i = some ((p : Int), decide (∃ g, f.Odd[p]? = some g ∧ g.Index = i)) := by
 obtain ⟨p, h1, h2, h3⟩ := Z9s (t := i) hl.odd hs
 exact ⟨p, h1, h2, by unfold Z3W; rw [h3]; rfl⟩

def Z0H (f : Form) (i : Int) : Prop := ∃ g ∈ f.Odd, g.Index = i
def Z1T (f : Form) (i : Int) : List Span := f.Core.getD (i % f.Count).toNat []
def Z3f (f : Form) (i : Int) : Int := i / f.Count * f.Period
open Classical in
noncomputable def ZY (f : Form) (i : Int) : List Span := if h : Z0H f i then h.choose.Ticks else if f.Count = 0 then [] else (Z1T f i).map (Zh (Z3f f i))

theorem Inc.uniq {l : List Granule} (h : Inc l) {a b : Granule} (ha : a ∈ l) (hb : b ∈ l) (he : a.Index = b.Index) : a = b := by
 obtain ⟨j, hj⟩ := List.getElem?_of_mem ha
 obtain ⟨k, hk⟩ := List.getElem?_of_mem hb
 rcases Nat.lt_trichotomy j k with hjk | rfl | hjk
 ·have := h j k a b hjk hj hk; omega
 ·rw [hj] at hk; cases hk; rfl
 ·have := h k j b a hjk hk hj; omega

theorem Z14 {f : Form} (hs : Inc f.Odd) {g : Granule} (hg : g ∈ f.Odd) : ZY f g.Index = g.Ticks := by
 have h : Z0H f g.Index := ⟨g, hg, rfl⟩
 unfold ZY
 rw [dif_pos h]
 rw [hs.uniq h.choose_spec.1 hg h.choose_spec.2]
theorem Z1j {f : Form} {i : Int} (h : ¬ Z0H f i) (h0 : f.Count = 0) : ZY f i = [] := by unfold ZY; rw [dif_neg h, if_pos h0]
theorem Z2W {f : Form} {i : Int} (h : ¬ Z0H f i) (h0 : f.Count ≠ 0) : ZY f i = (Z1T f i).map (Zh (Z3f f i)) := by unfold ZY; rw [dif_neg h, if_neg h0]

theorem Z7b {f : Form} (hs : Shape f) (h0 : f.Count ≠ 0) : 0 < f.Count := by have := hs.count; omega
theorem Z1i {f : Form} (hs : Shape f) (h0 : f.Count ≠ 0) (i : Int) : at? f.Core (i % f.Count) = some (Z1T f i) ∧ Z1T f i ∈ f.Core := by
 have hp := Z7b hs h0
 have h1 := Int.emod_nonneg i h0
 have h2 := Int.emod_lt_of_pos i hp
 have h3 : (i % f.Count).toNat < f.Core.length := by have := hs.count; omega
 unfold Z1T
 rw [at?_lt h1 (by have := hs.count; omega), List.getD_eq_getElem?_getD, List.getElem?_eq_getElem h3]
 exact ⟨rfl, List.getElem_mem h3⟩

theorem Z6b {f : Form} (hl : Lim f) (hs : Shape f) {g : Granule} (hg : g ∈ f.Odd) : Z2A f g.Index = some (g.Ticks, 0, 0) := by
 obtain ⟨p, h1, h2, h3⟩ := Z4N hl hs.inc g.Index
 obtain ⟨k, hk⟩ := List.getElem?_of_mem hg
 have hkl := (List.getElem?_eq_some_iff.1 hk).1
 have hpk : p ≤ k := by
  rcases Nat.lt_or_ge k p with h | h
  ·have := (h2 k g hk).1 h; omega
  ·exact h
 have hpl : p < f.Odd.length := by omega
 have hpg := h2 p _ (List.getElem?_eq_getElem hpl)
 have : p = k := by
  rcases Nat.lt_or_ge p k with h | h
  ·have := hs.inc p k _ g h (List.getElem?_eq_getElem hpl) hk
   exact absurd (hpg.2 this) (Nat.lt_irrefl _)
  ·omega
 subst this
 unfold Z2A
 rw [h3]
 simp only [Option.bind_some]
 rw [Ze ⟨g, hk, rfl⟩, cond_true, at?_nat hpl]
 rw [List.getElem?_eq_getElem hpl] at hk
 cases hk; rfl

theorem Z5u {f : Form} (hl : Lim f) (hs : Shape f) {i : Int} (hi : In64 i) (ho : ¬ Z0H f i) : Z2A f i = if f.Count = 0 then some ([], 0, 0) else some (Z1T f i, (fitS (Z3f f i)).1, (fitS (Z3f f i)).2) := by
 obtain ⟨p, h1, h2, h3⟩ := Z4N hl hs.inc i
 unfold Z2A
 rw [h3]
 simp only [Option.bind_some]
 rw [Zm (by rintro ⟨g, hg, he⟩; exact ho ⟨g, List.mem_of_getElem? hg, he⟩), cond_false]
 by_cases h0 : f.Count = 0
 ·rw [beq_t h0, cond_true, if_pos h0]
 ·rw [beq_f h0, cond_false, if_neg h0, Z2j hi hl.count, Z4G (Z7b hs h0)]
  simp only [Option.bind_some]
  rw [(Z1i hs h0 i).1]
  simp only [Option.bind_some]
  have hq : In64 (i / f.Count) := by
   have hp := Z7b hs h0
   unfold In64 at hi ⊢
   constructor
   ·have : -9223372036854775808 ≤ i / f.Count := by
     rw [Int.le_ediv_iff_mul_le hp]
     have : (-9223372036854775808) * f.Count ≤ -9223372036854775808 := by
      have : (-9223372036854775808) * f.Count ≤ (-9223372036854775808) * 1 := Int.mul_le_mul_of_nonpos_left (by omega) (by omega)
      omega
     omega
    exact this
   ·have : i / f.Count ≤ 9223372036854775807 := by
     rcases Int.lt_or_le i 0 with h | h
     ·have : i / f.Count < 0 := Int.ediv_neg_of_neg_of_pos h hp
      omega
     ·have := Int.ediv_le_self f.Count h
      omega
    exact this
  rw [safe_Mul_eq hq hl.period]
  rfl

def fits (f : Form) (i : Int) : Prop := ∀ s ∈ ZY f i, ZP s.From ∧ ZP s.To

theorem Z5x (l : List Span) : l.map (Zh 0) = l := by
 have : Zh 0 = id := by funext s; simp [Zh]
 rw [this, List.map_id]

theorem Z1r {f : Form} {i : Int} (ho : ¬ Z0H f i) (h0 : f.Count ≠ 0) : ZY f i = [] ↔ Z1T f i = [] := by rw [Z2W ho h0, List.map_eq_nil_iff]

open Classical in
theorem Z6H {f : Form} (hl : Lim f) (hs : Shape f) {i : Int} (hi : In64 i) : Z0T f i = some (if ZP i ∧ fits f i then (ZY f i, 0) else ([], 20)) := by
 unfold Z0T
 rw [Z5h]
 by_cases ht : ZP i
 ·rw [Ze ht, Bool.not_true, cond_false]
  by_cases ho : Z0H f i
  ·obtain ⟨g, hg, rfl⟩ := ho
   have hset := Z14 hs.inc hg
   have hr := (hs.odd g hg).1
   have hf : fits f g.Index := by
    intro s hsm
    rw [hset] at hsm
    obtain ⟨k, hk⟩ := List.getElem?_of_mem hsm
    exact ⟨(hr.ok k s hk).1, (hr.ok k s hk).2.1⟩
   rw [Z6b hl hs hg, if_pos ⟨ht, hf⟩, hset]
   simp only [Option.bind_some]
   by_cases hn : g.Ticks = []
   ·rw [hn]; rfl
   ·have : ((g.Ticks.length : Int) == 0) = false := beq_f (by have := List.length_pos_iff.2 hn; omega)
    rw [this, cond_false]
    simp only [bne_self_eq_false, cond_false]
    rcases Z6d (b := 0) (hl.ticks g hg).2.1 hr.sp64 ⟨by decide, by decide⟩ with ⟨_, h2⟩ | ⟨h1, _⟩
    ·rw [h2, Z5x]; rfl
    ·refine absurd (fun s hsm => ?_) h1
     rw [← hset] at hsm
     simpa using hf s hsm
  ·rw [Z5u hl hs hi ho]
   by_cases h0 : f.Count = 0
   ·rw [if_pos h0, if_pos ⟨ht, by intro s hsm; rw [Z1j ho h0] at hsm; cases hsm⟩, Z1j ho h0]; rfl
   ·rw [if_neg h0]
    simp only [Option.bind_some]
    by_cases hn : Z1T f i = []
    ·rw [if_pos ⟨ht, by intro s hsm; rw [(Z1r ho h0).2 hn] at hsm; cases hsm⟩, (Z1r ho h0).2 hn, hn]; rfl
    ·have : (((Z1T f i).length : Int) == 0) = false := beq_f (by have := List.length_pos_iff.2 hn; omega)
     rw [this, cond_false]
     have hmem := (Z1i hs h0 i).2
     have hr := hs.core _ hmem
     have hfe : fits f i ↔ ∀ s ∈ Z1T f i, ZP (s.From + Z3f f i) ∧ ZP (s.To + Z3f f i) := by
      unfold fits; rw [Z2W ho h0]
      constructor
      ·intro h s hsm; exact h (Zh (Z3f f i) s) (List.mem_map.2 ⟨s, hsm, rfl⟩)
      ·intro h s hsm
       obtain ⟨s, hsm', rfl⟩ := List.mem_map.1 hsm
       exact h s hsm'
     rcases fit_or (Z3f f i) with ⟨q1, q2⟩ | ⟨q1, q2⟩ <;> rw [q2]
     ·simp only [bne_self_eq_false, cond_false]
      rcases Z6d (b := Z3f f i) (hl.sets _ hmem).1 hr.sp64 q1 with ⟨h1, h2⟩ | ⟨h1, h2⟩
      ·rw [h2, if_pos ⟨ht, hfe.2 h1⟩, Z2W ho h0]; rfl
      ·rw [h2, if_neg (fun h => h1 (hfe.1 h.2))]; rfl
     ·rw [if_neg]
      ·rfl
      ·rintro ⟨_, h⟩
       have h := hfe.1 h
       obtain ⟨s, hsm⟩ := List.exists_mem_of_ne_nil _ hn
       have h1 := (h s hsm).1
       obtain ⟨k, hk⟩ := List.getElem?_of_mem hsm
       have h2 := (hr.ok k s hk).1
       unfold ZP at h1 h2
       exact q1 (by unfold In64; omega)
 ·rw [Zm ht, if_neg (fun h => ht h.1)]; rfl

open Classical in
theorem Z7s {f : Form} (hl : Lim f) (hs : Shape f) {i : Int} (hi : In64 i) : Z59 f i = some (decide (ZY f i ≠ [])) := by
 unfold Z59
 by_cases ho : Z0H f i
 ·obtain ⟨g, hg, rfl⟩ := ho
  rw [Z6b hl hs hg, Z14 hs.inc hg]
  simp only [Option.bind_some]
  cases g.Ticks <;> simp
 ·rw [Z5u hl hs hi ho]
  by_cases h0 : f.Count = 0
  ·rw [if_pos h0, Z1j ho h0]; rfl
  ·rw [if_neg h0]
   simp only [Option.bind_some, Ne, Z1r ho h0]
   cases Z1T f i <;> simp

end Go.Dn

namespace Go.Dn
open Go

theorem Z2f {α : Type} {l : List α} {b : Nat} (h : l.length * (b + 1) ≤ reachBytes) : (l.length : Int) < 4611686018427387904 := by
 have := Z18
 have : l.length ≤ l.length * (b + 1) := Nat.le_mul_of_pos_right _ (by omega)
 omega

theorem Z81 {α : Type} {l : List α} {k : Nat} {x : α} (h : l[k]? = some x) : at? l (k : Int) = some x ∧ (k : Int) < l.length := by
 have hlt := (List.getElem?_eq_some_iff.1 h).1
 rw [List.getElem?_eq_getElem hlt] at h
 exact ⟨by rw [at?_nat hlt]; exact h, by omega⟩

theorem shape_core {f : Form} (hl : Lim f) : (ZN (Z06.s0 f) 0 = some (.go ()) ∧ ∀ l ∈ f.Core, RightL l) ∨ (ZN (Z06.s0 f) 0 = some (.ret false) ∧ ¬ ∀ l ∈ f.Core, RightL l) := by
 have hlen := Z2f (b := 23) hl.core
 rcases Z3a (l := f.Core) (step := Z06.s0 f) (fun _ x => RightL x) (no := .ret false) (yes := .go ()) (fun k x hk _ => by
   obtain ⟨h1, h2⟩ := Z81 hk
   obtain ⟨b, hb, hr⟩ := Z6A (hl.sets x (List.mem_of_getElem? hk)).1 (hl.sets x (List.mem_of_getElem? hk)).2
   unfold Z06.s0
   rw [Ze h2, cond_true, h1]
   simp only [Option.bind_some, hb, ZQ (show -9223372036854775808 ≤ (k : Int) + 1 ∧ (k : Int) + 1 ≤ 9223372036854775807 by omega)]
   cases b
   ·exact .inr ⟨rfl, fun h => by have := hr.2 h; cases this⟩
   ·exact .inl ⟨rfl, hr.1 rfl⟩) (by unfold Z06.s0; rw [Zm (by omega)]; rfl) with ⟨h1, h2⟩ | ⟨h1, h2⟩
 ·exact .inl ⟨h1, fun l hm => by obtain ⟨k, hk⟩ := List.getElem?_of_mem hm; exact h2 k l hk⟩
 ·exact .inr ⟨h1, fun h => h2 fun k x hk => h x (List.mem_of_getElem? hk)⟩

def goodOdd (f : Form) (k : Nat) (g : Granule) : Prop := RightL g.Ticks ∧ ZP g.Index ∧ ∀ p, k ≠ 0 → f.Odd[k - 1]? = some p → p.Index < g.Index

theorem shape_odd {f : Form} (hl : Lim f) : (ZN (Z06.s1 f) 0 = some (.go ()) ∧ ∀ k g, f.Odd[k]? = some g → goodOdd f k g) ∨ (ZN (Z06.s1 f) 0 = some (.ret false) ∧ ¬ ∀ k g, f.Odd[k]? = some g → goodOdd f k g) := by
 have hlen := Z2f (b := 31) hl.odd
 refine Z3a (l := f.Odd) (step := Z06.s1 f) (goodOdd f) (no := .ret false) (yes := .go ()) (fun k x hk _ => ?_) (by unfold Z06.s1; rw [Zm (by omega)]; rfl)
 obtain ⟨h1, h2⟩ := Z81 hk
 have hx := hl.ticks x (List.mem_of_getElem? hk)
 obtain ⟨b, hb, hr⟩ := Z6A hx.2.1 hx.2.2
 unfold Z06.s1
 rw [Ze h2, cond_true, h1]
 simp only [Option.bind_some, hb, Z5h, ZQ (show -9223372036854775808 ≤ (k : Int) + 1 ∧ (k : Int) + 1 ≤ 9223372036854775807 by omega)]
 by_cases hbt : b = true ∧ ZP x.Index
 ·rw [hbt.1, Ze hbt.2]
  simp only [Bool.not_true, Bool.or_self, cond_false]
  by_cases h0 : k = 0
  ·subst h0
   exact .inl ⟨by simp, hr.1 hbt.1, hbt.2, fun p h => absurd rfl h⟩
  ·have hpl : k - 1 < f.Odd.length := by omega
   rw [Ze (show (k : Int) > 0 by omega), cond_true, ZQ (by omega), show (k : Int) - 1 = ((k - 1 : Nat) : Int) by omega, at?_nat hpl]
   simp only [Option.bind_some]
   by_cases hc : x.Index ≤ f.Odd[k - 1].Index
   ·rw [Ze hc]
    refine .inr ⟨rfl, fun h => ?_⟩
    have := h.2.2 _ h0 (List.getElem?_eq_getElem hpl); omega
   ·rw [Zm hc]
    refine .inl ⟨rfl, hr.1 hbt.1, hbt.2, fun p _ hp => ?_⟩
    rw [List.getElem?_eq_getElem hpl] at hp; cases hp; omega
 ·have : (!b || !decide (ZP x.Index)) = true := by
   cases b
   ·rfl
   ·rw [Zm (fun h => hbt ⟨rfl, h⟩)]; rfl
  rw [this, cond_true]
  exact .inr ⟨rfl, fun h => hbt ⟨hr.2 h.1, h.2.1⟩⟩

theorem inc_of {f : Form} (h : ∀ k g, f.Odd[k]? = some g → goodOdd f k g) : Inc f.Odd := by
 intro j k a b hjk ha hb
 induction k generalizing b with
 | zero => omega
 | succ k ih =>
  have hkl := (List.getElem?_eq_some_iff.1 hb).1
  have h1 := (h (k + 1) b hb).2.2 f.Odd[k] (by omega) (by simp [List.getElem?_eq_getElem (show k < f.Odd.length by omega)])
  rcases Nat.lt_or_ge j k with h2 | h2
  ·have := ih _ h2 (List.getElem?_eq_getElem (show k < f.Odd.length by omega)); omega
  ·have : j = k := by omega
   subst this
   rw [List.getElem?_eq_getElem (show j < f.Odd.length by omega)] at ha; cases ha; exact h1

theorem gran_shape_eq {f : Form} (hl : Lim f) : ∃ b, Z06 f = some b ∧ (b = true ↔ Shape f) := by
 unfold Z06
 by_cases h1 : f.Count = f.Core.length ∧ (f.Count = 0 ↔ f.Period = 0) ∧ 0 ≤ f.Period ∧ f.Period ≤ 1099511627776
 ·have e : (f.Count != (f.Core.length : Int) || (f.Count == 0) != (f.Period == 0) || decide (f.Period < 0) || decide (f.Period > 1099511627776)) = false := by
   rw [bne_f h1.1, Zm (show ¬ f.Period < 0 by omega), Zm (show ¬ f.Period > 1099511627776 by omega)]
   simp only [Bool.false_or, Bool.or_false, bne_eq_false_iff_eq, ibeq, decide_eq_decide]
   exact h1.2.1
  rw [e, cond_false]
  rcases shape_core hl with ⟨h2, h3⟩ | ⟨h2, h3⟩
  ·rw [h2]
   simp only [Option.bind_some, Jx.elim]
   rcases shape_odd hl with ⟨h4, h5⟩ | ⟨h4, h5⟩
   ·rw [h4]
    exact ⟨true, rfl, fun _ => ⟨h1.1, h1.2.1, h1.2.2, h3, fun g hg => by obtain ⟨k, hk⟩ := List.getElem?_of_mem hg; exact ⟨(h5 k g hk).1, (h5 k g hk).2.1⟩, inc_of h5⟩, fun _ => rfl⟩
   ·rw [h4]
    refine ⟨false, rfl, fun h => (by cases h), fun h => absurd (fun k g hk => ⟨(h.odd g (List.mem_of_getElem? hk)).1, (h.odd g (List.mem_of_getElem? hk)).2, fun p h0 hp => h.inc (k - 1) k p g (by omega) hp hk⟩) h5⟩
  ·rw [h2]
   exact ⟨false, rfl, fun h => (by cases h), fun h => absurd h.core h3⟩
 ·have e : (f.Count != (f.Core.length : Int) || (f.Count == 0) != (f.Period == 0) || decide (f.Period < 0) || decide (f.Period > 1099511627776)) = true := by
   apply Classical.byContradiction
   intro hn
   simp only [Bool.not_eq_true, Bool.or_eq_false_iff, bne_eq_false_iff_eq, decide_eq_false_iff_not, ibeq, decide_eq_decide] at hn
   exact h1 ⟨hn.1.1.1, hn.1.1.2, by omega, by omega⟩
  rw [e, cond_true]
  exact ⟨false, rfl, fun h => (by cases h), fun h => absurd ⟨h.count, h.zero, h.per⟩ h1⟩

def fstT (l : List Span) : Int := (l.head?.map Span.From).getD 0
def lstT (l : List Span) : Int := (l.getLast?.map Span.To).getD 0

theorem Z9k {a b : List Span} (ha : a ≠ []) (hb : b ≠ []) : Z2y a b ↔ lstT a < fstT b := by
 unfold Z2y lstT fstT
 rw [List.getLast?_eq_some_getLast ha, List.head?_eq_some_head hb]
 simp

theorem RightL.tail {s : Span} {l : List Span} (h : RightL (s :: l)) : RightL l :=
 ⟨fun k x hk => h.ok (k + 1) x hk, fun k x y hx hy => h.gap (k + 1) x y hx hy⟩

theorem Z1k {l : List Span} (h : RightL l) (hn : l ≠ []) : fstT l ≤ lstT l := by
 induction l with
 | nil => exact absurd rfl hn
 | cons s l ih =>
  have h0 := h.ok 0 s rfl
  cases l with
  | nil => simp [fstT, lstT]; exact h0.2.2
  | cons t l =>
   have h1 := h.gap 0 s t rfl rfl
   have h2 := ih h.tail (by simp)
   have e1 : lstT (s :: t :: l) = lstT (t :: l) := by simp [lstT]
   have e2 : fstT (t :: l) = t.From := rfl
   have e3 : fstT (s :: t :: l) = s.From := rfl
   rw [e1, e3]; rw [e2] at h2; omega

theorem Z49 {l : List Span} (h : RightL l) (hn : l ≠ []) : ZP (lstT l) ∧ ZP (fstT l) := by
 have h1 : l.getLast? = some (l.getLast hn) := List.getLast?_eq_some_getLast hn
 have h2 : l.head? = some (l.head hn) := List.head?_eq_some_head hn
 obtain ⟨j, hj⟩ := List.getElem?_of_mem (List.getLast_mem hn)
 obtain ⟨k, hk⟩ := List.getElem?_of_mem (List.head_mem hn)
 unfold lstT fstT
 rw [h1, h2]
 exact ⟨(h.ok j _ hj).2.1, (h.ok k _ hk).1⟩

def full (f : Form) : List (List Span) := f.Core.filter (fun l => decide (l.length > 0))
def Turns (f : Form) : Prop := (∀ (k : Nat) (a b : List Span), (full f)[k]? = some a → (full f)[k + 1]? = some b → lstT a < fstT b) ∧ ∀ a b, (full f).getLast? = some a → (full f).head? = some b → lstT a < fstT b + f.Period

theorem full_loop {f : Form} (hl : Lim f) : ZN (Z0Y.s0 f) (0, []) = some (full f) := by
 have hlen := Z2f (b := 23) hl.core
 refine Z1K (I := fun s r => r = full f ∧ ∃ k : Nat, k ≤ f.Core.length ∧ s = ((k : Int), (f.Core.take k).filter (fun l => decide (l.length > 0)))) (fun s => f.Core.length - s.1.toNat) ?_ ⟨rfl, 0, Nat.zero_le _, by simp⟩
 rintro s r ⟨rfl, k, hk, rfl⟩
 unfold Z0Y.s0
 by_cases hlt : k < f.Core.length
 ·have htake : f.Core.take (k + 1) = f.Core.take k ++ [f.Core[k]] := List.take_succ_eq_append_getElem hlt
  simp only
  rw [Ze (show (k : Int) < f.Core.length by omega), cond_true, at?_nat hlt, ZQ (by omega)]
  simp only [Option.bind_some]
  refine .inl ?_
  have hfl : ((f.Core.take k).filter (fun l => decide (l.length > 0))).length ≤ k := Nat.le_trans (List.length_filter_le _ _) (by rw [List.length_take]; exact Nat.min_le_left _ _)
  by_cases hc : f.Core[k].length > 0
  ·rw [Ze (show ((f.Core[k].length : Int) > 0) by omega), cond_true, app?_ok (by have h1 := hl.core; rw [Z18] at h1; rw [Z4V]; simp only [List.length_singleton]; omega)]
   exact ⟨_, rfl, ⟨trivial, k + 1, hlt, by rw [htake, List.filter_append]; simp [hc]⟩, by simp; omega⟩
  ·rw [Zm (show ¬ ((f.Core[k].length : Int) > 0) by omega), cond_false]
   exact ⟨_, rfl, ⟨trivial, k + 1, hlt, by rw [htake, List.filter_append]; simp [hc]⟩, by simp; omega⟩
 ·have : k = f.Core.length := by omega
  subst this
  simp only
  rw [Zm (show ¬ ((f.Core.length : Int) < f.Core.length) by omega), cond_false, List.take_length]
  exact .inr rfl

theorem gran_turns_eq {f : Form} (hl : Lim f) (hs : Shape f) : ∃ b, Z0Y f = some b ∧ (b = true ↔ Turns f) := by
 have hlen := Z2f (b := 23) hl.core
 have hfl : (full f).length ≤ f.Core.length := List.length_filter_le _ _
 have hmem : ∀ x ∈ full f, x ∈ f.Core ∧ x ≠ [] := fun x hx => by
  have := List.mem_filter.1 hx
  exact ⟨this.1, by rintro rfl; simp at this⟩
 unfold Z0Y
 rw [full_loop hl]
 simp only [Option.bind_some]
 rcases Z3a (l := full f) (step := Z0Y.s1 f (full f)) (fun k a => ∀ b, (full f)[(k + 1) % (full f).length]? = some b → lstT a < fstT b + (if k + 1 = (full f).length then f.Period else 0)) (no := .ret false) (yes := .go ()) (fun k a hk _ => by
   obtain ⟨h1, h2⟩ := Z81 hk
   have hkl : k < (full f).length := by omega
   have hmod : (k + 1) % (full f).length < (full f).length := Nat.mod_lt _ (by omega)
   have hnext : at? (full f) ((((k + 1) % (full f).length : Nat) : Int)) = some (full f)[(k + 1) % (full f).length] := at?_nat hmod
   obtain ⟨ha1, ha2⟩ := hmem a (List.mem_of_getElem? hk)
   obtain ⟨hb1, hb2⟩ := hmem _ (List.getElem_mem hmod)
   have hra := hs.core a ha1
   have hrb := hs.core _ hb1
   have hal : a.length - 1 < a.length := by have := List.length_pos_iff.2 ha2; omega
   have hlast : at? a (w64 ((a.length : Int) - 1)) = some a[a.length - 1] := by
    have := Z2f (b := 15) (hl.sets a ha1).1
    rw [ZQ (by omega), show (a.length : Int) - 1 = ((a.length - 1 : Nat) : Int) by omega, at?_nat hal]
   have hlt : lstT a = a[a.length - 1].To := by unfold lstT; rw [List.getLast?_eq_getElem?, List.getElem?_eq_getElem hal]; rfl
   unfold Z0Y.s1
   rw [Ze h2, cond_true, h1, nz?_ok (by omega), ZQ (x := (k : Int) + 1) (by omega)]
   have htm : ((k : Int) + 1).tmod ((full f).length : Int) = (((k + 1) % (full f).length : Nat) : Int) := by
    rw [Int.tmod_eq_emod_of_nonneg (by omega)]; push_cast; rfl
   simp only [Option.bind_some, htm, hnext, hlast]
   rw [List.getElem?_eq_getElem hmod]
   generalize (full f)[(k + 1) % (full f).length] = b at *
   have hb0 : at? b 0 = some (b.head hb2) := by
    cases b with
    | nil => exact absurd rfl hb2
    | cons y b => rfl
   have hbf : fstT b = (b.head hb2).From := by unfold fstT; rw [List.head?_eq_some_head hb2]; rfl
   have htick := (Z49 hrb hb2).2
   unfold ZP at htick
   have hper := hs.per
   by_cases hl1 : k + 1 = (full f).length
   ·have e : ((k : Int) + 1 == ((full f).length : Int)) = true := beq_t (by omega)
    rw [e, cond_true]
    simp only [Option.bind_some, hb0, ← hbf, ZQ (show -9223372036854775808 ≤ fstT b + f.Period ∧ fstT b + f.Period ≤ 9223372036854775807 by omega), ← hlt, if_pos hl1]
    by_cases hc : lstT a ≥ fstT b + f.Period
    ·rw [Ze hc]; exact .inr ⟨rfl, fun h => by have := h b rfl; omega⟩
    ·rw [Zm hc]; exact .inl ⟨rfl, fun b' hb' => by cases hb'; omega⟩
   ·have e : ((k : Int) + 1 == ((full f).length : Int)) = false := beq_f (by omega)
    rw [e, cond_false]
    simp only [Option.bind_some, hb0, ← hbf, ZQ (show -9223372036854775808 ≤ fstT b + 0 ∧ fstT b + 0 ≤ 9223372036854775807 by omega), ← hlt, if_neg hl1]
    by_cases hc : lstT a ≥ fstT b + 0
    ·rw [Ze hc]; exact .inr ⟨rfl, fun h => by have := h b rfl; omega⟩
    ·rw [Zm hc]; exact .inl ⟨rfl, fun b' hb' => by cases hb'; omega⟩) (by unfold Z0Y.s1; rw [Zm (by omega)]; rfl) with ⟨h1, h2⟩ | ⟨h1, h2⟩
 ·rw [h1]
  refine ⟨true, rfl, fun _ => ⟨fun k a b ha hb => ?_, fun a b ha hb => ?_⟩, fun _ => rfl⟩
  ·have hkl := (List.getElem?_eq_some_iff.1 hb).1
   have := h2 k a ha b (by rw [Nat.mod_eq_of_lt hkl]; exact hb)
   rw [if_neg (by omega)] at this; omega
  ·have hn : full f ≠ [] := by rintro e; rw [e] at ha; simp at ha
   have hpos := List.length_pos_iff.2 hn
   rw [List.getLast?_eq_getElem?] at ha
   have e1 : (full f).length - 1 + 1 = (full f).length := by omega
   have := h2 _ a ha b (by rw [e1, Nat.mod_self, ← List.head?_eq_getElem?]; exact hb)
   rw [if_pos e1] at this; exact this
 ·rw [h1]
  refine ⟨false, rfl, fun h => (by cases h), fun h => absurd (fun k a hk b hb => ?_) h2⟩
  have hkl := (List.getElem?_eq_some_iff.1 hk).1
  by_cases hl1 : k + 1 = (full f).length
  ·rw [if_pos hl1]
   rw [hl1, Nat.mod_self, ← List.head?_eq_getElem?] at hb
   exact h.2 a b (by rw [List.getLast?_eq_getElem?, ← hl1]; exact hk) hb
  ·rw [if_neg hl1]
   rw [Nat.mod_eq_of_lt (by omega)] at hb
   have := h.1 k a b hk hb; omega

end Go.Dn

namespace Go.Dn
open Go

theorem Z98 {l : List (List Span)} {p : List Span → Bool} (hl : l.length * 24 ≤ reachBytes) : Zc l (fun z => some (p z)) = some (decide (∃ x ∈ l, p x = true)) := by
 have hlen := Z2f (b := 23) hl
 unfold Zc ZH
 by_cases hall : ∀ (k : Nat) (x : List Span), l[k]? = some x → ¬ p x = true
 ·have : ZN (ZH.s0 l (fun z => some (p z))) 0 = some (.go ()) := by
   refine Z1K (I := fun (s : Int) r => r = .go () ∧ ∃ k : Nat, s = k ∧ k ≤ l.length) (fun s => l.length - s.toNat) ?_ ⟨rfl, 0, rfl, Nat.zero_le _⟩
   rintro s r ⟨rfl, k, rfl, hk⟩
   unfold ZH.s0
   by_cases hlt : k < l.length
   ·rw [Ze (show (k : Int) < l.length by omega), cond_true, at?_nat hlt, ZQ (by omega)]
    have := hall k _ (List.getElem?_eq_getElem hlt)
    simp only [Option.bind_some, Bool.not_eq_true] at this ⊢
    rw [this]
    exact .inl ⟨_, rfl, ⟨trivial, k + 1, by push_cast; rfl, hlt⟩, by simp; omega⟩
   ·rw [Zm (show ¬ (k : Int) < l.length by omega)]; exact .inr rfl
  rw [this, Zm (by rintro ⟨x, hx, hp⟩; obtain ⟨k, hk⟩ := List.getElem?_of_mem hx; exact hall k x hk hp)]
  rfl
 ·obtain ⟨k0, x0, hx0, hb0, hg⟩ := Z8M (good := fun _ x => ¬ p x = true) hall
  have hb0 : p x0 = true := Classical.byContradiction hb0
  have hlt0 := (List.getElem?_eq_some_iff.1 hx0).1
  have : ZN (ZH.s0 l (fun z => some (p z))) 0 = some (.ret (k0 : Int)) := by
   refine Z1K (I := fun (s : Int) r => r = .ret (k0 : Int) ∧ ∃ k : Nat, s = k ∧ k ≤ k0) (fun s => l.length - s.toNat) ?_ ⟨rfl, 0, rfl, Nat.zero_le _⟩
   rintro s r ⟨rfl, k, rfl, hk⟩
   unfold ZH.s0
   have hkl : k < l.length := by omega
   rw [Ze (show (k : Int) < l.length by omega), cond_true, at?_nat hkl, ZQ (by omega)]
   by_cases hlt : k < k0
   ·have := hg k _ hlt (List.getElem?_eq_getElem hkl)
    simp only [Option.bind_some, Bool.not_eq_true] at this ⊢
    rw [this]
    exact .inl ⟨_, rfl, ⟨trivial, k + 1, by push_cast; rfl, hlt⟩, by simp; omega⟩
   ·have : k = k0 := by omega
    subst this
    rw [List.getElem?_eq_getElem hkl] at hx0
    cases hx0
    simp only [Option.bind_some, hb0]
    exact .inr rfl
  rw [this, Ze ⟨x0, List.mem_of_getElem? hx0, hb0⟩]
  simp only [Option.bind_some, Jx.elim]
  rw [Ze (by omega)]

def Bare (f : Form) : Prop := ∀ l ∈ f.Core, l = []
theorem Z5Q {f : Form} (hl : Lim f) : ∃ b, Z3O f = some b ∧ (b = true ↔ Bare f) := by
 unfold Z3O
 rw [Z98 hl.core]
 refine ⟨_, rfl, ?_⟩
 simp only [Z4f, Bool.not_eq_true', decide_eq_false_iff_not, decide_eq_true_eq]
 constructor
 ·intro h l hm
  apply Classical.byContradiction
  intro hn
  exact h ⟨l, hm, by have := List.length_pos_iff.2 hn; omega⟩
 ·rintro h ⟨l, hm, hp⟩
  rw [h l hm] at hp; simp at hp

theorem Z5Z {f : Form} (hs : Shape f) (hb : Bare f) {i : Int} (ho : ¬ Z0H f i) : ZY f i = [] := by
 by_cases h0 : f.Count = 0
 ·exact Z1j ho h0
 ·exact (Z1r ho h0).2 (hb _ (Z1i hs h0 i).2)

def UpTo (f : Form) (i : Int) (r : Int × Bool) : Prop := (r.2 = true ∧ i ≤ r.1 ∧ ZP r.1 ∧ ZY f r.1 ≠ [] ∧ ∀ k, i ≤ k → k < r.1 → ZY f k = []) ∨ (r.2 = false ∧ r.1 = 0 ∧ ∀ k, i ≤ k → ZP k → ZY f k = [])
def DownTo (f : Form) (i : Int) (r : Int × Bool) : Prop := (r.2 = true ∧ r.1 ≤ i ∧ ZP r.1 ∧ ZY f r.1 ≠ [] ∧ ∀ k, k ≤ i → r.1 < k → ZY f k = []) ∨ (r.2 = false ∧ r.1 = 0 ∧ ∀ k, k ≤ i → ZP k → ZY f k = [])

theorem odd_split {f : Form} (hs : Shape f) {p : Nat} {i : Int} (hp : ∀ (k : Nat) (g : Granule), f.Odd[k]? = some g → (k < p ↔ g.Index < i)) {j : Int} (hj : Z0H f j) : ∃ (k : Nat) (g : Granule), f.Odd[k]? = some g ∧ g.Index = j ∧ (k < p ↔ j < i) := by
 obtain ⟨g, hg, rfl⟩ := hj
 obtain ⟨k, hk⟩ := List.getElem?_of_mem hg
 exact ⟨k, g, hk, rfl, hp k g hk⟩

theorem gran_step_up {f : Form} (hl : Lim f) (hs : Shape f) {i : Int} (hi : -1099511627776 ≤ i ∧ i ≤ 1099511627776) : ∃ r, Z0D f i 1 = some r ∧ UpTo f i r := by
 have hi64 : In64 i := by unfold In64; omega
 obtain ⟨b, hb, hbb⟩ := Z5Q hl
 have holen := Z2f (b := 31) hl.odd
 unfold Z0D
 rw [hb]
 simp only [Option.bind_some]
 cases b with
 | true =>
  have hbare := hbb.1 rfl
  rw [cond_true]
  obtain ⟨p, h1, h2, h3⟩ := Z4N hl hs.inc i
  rw [h3]
  simp only [Option.bind_some, Zm (show ¬ (1 : Int) < 0 by omega), Bool.false_and, cond_false]
  obtain ⟨r, hr, hpost⟩ := Z1V (step := Z0D.s0 f 1) (I := fun (s : Int) => ∃ k : Nat, s = k ∧ p ≤ k ∧ k ≤ f.Odd.length ∧ ∀ (j : Nat) (g : Granule), f.Odd[j]? = some g → p ≤ j → j < k → g.Ticks = []) (fun s => f.Odd.length - s.toNat)
   (fun r => (∃ (k : Nat) (g : Granule), r = .ret (g.Index, true) ∧ f.Odd[k]? = some g ∧ p ≤ k ∧ g.Ticks ≠ [] ∧ ∀ (j : Nat) (g' : Granule), f.Odd[j]? = some g' → p ≤ j → j < k → g'.Ticks = []) ∨ (r = .go () ∧ ∀ (j : Nat) (g' : Granule), f.Odd[j]? = some g' → p ≤ j → g'.Ticks = [])) (by
   rintro s ⟨k, rfl, hpk, hk, hn⟩
   unfold Z0D.s0
   by_cases hlt : k < f.Odd.length
   ·rw [Ze (show (k : Int) ≥ 0 by omega), Ze (show (k : Int) < f.Odd.length by omega), Bool.and_self, cond_true, at?_nat hlt, ZQ (by omega)]
    simp only [Option.bind_some]
    have hget := List.getElem?_eq_getElem hlt
    by_cases hc : f.Odd[k].Ticks = []
    ·rw [hc]
     refine .inl ⟨(k : Int) + 1, rfl, ⟨k + 1, by push_cast; rfl, by omega, hlt, fun j g hj hpj hjk => ?_⟩, by simp; omega⟩
     rcases Nat.lt_or_ge j k with h | h
     ·exact hn j g hj hpj h
     ·have : j = k := by omega
      subst this; rw [hget] at hj; cases hj; exact hc
    ·rw [Ze (show ((f.Odd[k].Ticks.length : Int) > 0) by have := List.length_pos_iff.2 hc; omega), cond_true]
     exact .inr ⟨_, rfl, .inl ⟨k, _, rfl, hget, hpk, hc, hn⟩⟩
   ·rw [Zm (show ¬ (k : Int) < f.Odd.length by omega), Bool.and_false, cond_false]
    refine .inr ⟨_, rfl, .inr ⟨rfl, fun j g hj hpj => hn j g hj hpj ?_⟩⟩
    have := (List.getElem?_eq_some_iff.1 hj).1; omega) (p : Int) ⟨p, rfl, Nat.le_refl _, h1, fun j g _ h h' => by omega⟩
  rw [hr]
  simp only [Option.bind_some]
  rcases hpost with ⟨k, g, rfl, hk, hpk, hne, hn⟩ | ⟨rfl, hn⟩
  ·have hset := Z14 hs.inc (List.mem_of_getElem? hk)
   have hgi : ¬ g.Index < i := fun h => by have := (h2 k g hk).2 h; omega
   refine ⟨_, rfl, .inl ⟨rfl, by simp only; omega, (hs.odd g (List.mem_of_getElem? hk)).2, by simp only; rw [hset]; exact hne, fun j hij hjg => ?_⟩⟩
   simp only at hjg
   by_cases ho : Z0H f j
   ·obtain ⟨k', g', hk', rfl, hiff⟩ := odd_split hs h2 ho
    rw [Z14 hs.inc (List.mem_of_getElem? hk')]
    refine hn k' g' hk' ?_ ?_
    ·rcases Nat.lt_or_ge k' p with h | h
     ·have := hiff.1 h; omega
     ·exact h
    ·rcases Nat.lt_or_ge k' k with h | h
     ·exact h
     ·rcases Nat.lt_or_ge k k' with h' | h'
      ·have := hs.inc k k' g g' h' hk hk'; omega
      ·have : k = k' := by omega
       subst this; rw [hk] at hk'; cases hk'; omega
   ·exact Z5Z hs hbare ho
  ·refine ⟨_, rfl, .inr ⟨rfl, rfl, fun j hij _ => ?_⟩⟩
   by_cases ho : Z0H f j
   ·obtain ⟨k', g', hk', rfl, hiff⟩ := odd_split hs h2 ho
    rw [Z14 hs.inc (List.mem_of_getElem? hk')]
    refine hn k' g' hk' ?_
    rcases Nat.lt_or_ge k' p with h | h
    ·have := hiff.1 h; omega
    ·exact h
   ·exact Z5Z hs hbare ho
 | false =>
  rw [cond_false]
  obtain ⟨r, hr, hpost⟩ := Z1V (step := Z0D.s1 f 1) (I := fun (s : Int) => i ≤ s ∧ s ≤ 1099511627777 ∧ ∀ k, i ≤ k → k < s → ZY f k = []) (fun s => (1099511627777 - s).toNat)
   (fun r => (∃ j, r = .ret (j, true) ∧ i ≤ j ∧ ZP j ∧ ZY f j ≠ [] ∧ ∀ k, i ≤ k → k < j → ZY f k = []) ∨ (r = .go () ∧ ∀ k, i ≤ k → ZP k → ZY f k = [])) (by
   rintro s ⟨hs1, hs2, hn⟩
   unfold Z0D.s1
   rw [Z5h]
   by_cases ht : ZP s
   ·rw [Ze ht, cond_true, Z7s hl hs (Z2e ht), ZQ (by unfold ZP at ht; omega)]
    simp only [Option.bind_some]
    by_cases hc : ZY f s = []
    ·rw [hc]
     refine .inl ⟨s + 1, by simp, ⟨by omega, by unfold ZP at ht; omega, fun k hk hks => ?_⟩, by unfold ZP at ht; omega⟩
     by_cases h : k = s
     ·rw [h]; exact hc
     ·exact hn k hk (by omega)
    ·rw [Ze hc, cond_true]
     exact .inr ⟨_, rfl, .inl ⟨s, rfl, hs1, ht, hc, hn⟩⟩
   ·rw [Zm ht, cond_false]
    exact .inr ⟨_, rfl, .inr ⟨rfl, fun k hk htk => hn k hk (by unfold ZP at ht htk; omega)⟩⟩) i ⟨Int.le_refl _, by omega, fun k h h' => by omega⟩
  rw [hr]
  simp only [Option.bind_some]
  rcases hpost with ⟨j, rfl, h1, h2, h3, h4⟩ | ⟨rfl, hn⟩
  ·exact ⟨_, rfl, .inl ⟨rfl, h1, h2, h3, h4⟩⟩
  ·exact ⟨_, rfl, .inr ⟨rfl, rfl, hn⟩⟩

theorem Z9D {f : Form} (hl : Lim f) (hs : Shape f) {i : Int} (hi : -1099511627776 ≤ i ∧ i ≤ 1099511627776) : ∃ r, Z0D f i (-1) = some r ∧ DownTo f i r := by
 have hi64 : In64 i := by unfold In64; omega
 obtain ⟨b, hb, hbb⟩ := Z5Q hl
 have holen := Z2f (b := 31) hl.odd
 unfold Z0D
 rw [hb]
 simp only [Option.bind_some]
 cases b with
 | true =>
  have hbare := hbb.1 rfl
  rw [cond_true]
  obtain ⟨p, h1, h2, h3⟩ := Z4N hl hs.inc i
  rw [h3]
  -- the number of exceptions up to the index
  obtain ⟨q, hq1, hq2, hq3⟩ : ∃ q : Nat, q ≤ f.Odd.length ∧ (∀ (k : Nat) (g : Granule), f.Odd[k]? = some g → (k < q ↔ g.Index ≤ i)) ∧ ((bif (decide ((-1 : Int) < 0) && !decide (∃ g, f.Odd[p]? = some g ∧ g.Index = i)) then some (w64 ((p : Int) - 1)) else some (p : Int)) : Option Int) = some ((q : Int) - 1) := by
   by_cases he : ∃ g, f.Odd[p]? = some g ∧ g.Index = i
   ·obtain ⟨g, hg, hgi⟩ := he
    have hpl := (List.getElem?_eq_some_iff.1 hg).1
    refine ⟨p + 1, by omega, fun k g' hk => ?_, by rw [Ze (p := ∃ g, f.Odd[p]? = some g ∧ g.Index = i) ⟨g, hg, hgi⟩]; simp⟩
    have := h2 k g' hk
    constructor
    ·intro h
     rcases Nat.lt_or_ge k p with h' | h'
     ·have := this.1 h'; omega
     ·have : k = p := by omega
      subst this; rw [hg] at hk; cases hk; omega
    ·intro h
     rcases Nat.lt_or_ge p k with h' | h'
     ·have := hs.inc p k g g' h' hg hk; omega
     ·omega
   ·refine ⟨p, h1, fun k g' hk => ?_, by rw [Zm (p := ∃ g, f.Odd[p]? = some g ∧ g.Index = i) he, ZQ (by omega)]; simp⟩
    have := h2 k g' hk
    constructor
    ·intro h; have := this.1 h; omega
    ·intro h
     by_cases hgi : g'.Index = i
     ·exfalso
      have hkp : ¬ k < p := fun h' => by have := this.1 h'; omega
      rcases Nat.lt_or_ge p k with h' | h'
      ·have hpl : p < f.Odd.length := by have := (List.getElem?_eq_some_iff.1 hk).1; omega
       have h5 := hs.inc p k _ g' h' (List.getElem?_eq_getElem hpl) hk
       have h6 := (h2 p _ (List.getElem?_eq_getElem hpl)).2 (by omega)
       omega
      ·have : k = p := by omega
       subst this
       exact he ⟨g', hk, hgi⟩
     ·exact this.2 (by omega)
  simp only [Option.bind_some]
  rw [hq3]
  simp only [Option.bind_some]
  obtain ⟨r, hr, hpost⟩ := Z1V (step := Z0D.s0 f (-1)) (I := fun (s : Int) => ∃ k : Nat, s = (k : Int) - 1 ∧ k ≤ q ∧ ∀ (j : Nat) (g : Granule), f.Odd[j]? = some g → k ≤ j → j < q → g.Ticks = []) (fun s => (s + 1).toNat)
   (fun r => (∃ (k : Nat) (g : Granule), r = .ret (g.Index, true) ∧ f.Odd[k]? = some g ∧ k < q ∧ g.Ticks ≠ [] ∧ ∀ (j : Nat) (g' : Granule), f.Odd[j]? = some g' → k < j → j < q → g'.Ticks = []) ∨ (r = .go () ∧ ∀ (j : Nat) (g' : Granule), f.Odd[j]? = some g' → j < q → g'.Ticks = [])) (by
   rintro s ⟨k, rfl, hk, hn⟩
   unfold Z0D.s0
   by_cases h0 : 0 < k
   ·have hlt : k - 1 < f.Odd.length := by omega
    rw [Ze (show (k : Int) - 1 ≥ 0 by omega), Ze (show (k : Int) - 1 < f.Odd.length by omega), Bool.and_self, cond_true, show (k : Int) - 1 = ((k - 1 : Nat) : Int) by omega, at?_nat hlt, ZQ (by omega)]
    simp only [Option.bind_some]
    have hget := List.getElem?_eq_getElem hlt
    by_cases hc : f.Odd[k - 1].Ticks = []
    ·rw [hc]
     refine .inl ⟨((k - 1 : Nat) : Int) + -1, rfl, ⟨k - 1, by omega, by omega, fun j g hj hpj hjk => ?_⟩, by simp; omega⟩
     rcases Nat.lt_or_ge j k with h | h
     ·have : j = k - 1 := by omega
      subst this; rw [hget] at hj; cases hj; exact hc
     ·exact hn j g hj h hjk
    ·rw [Ze (show ((f.Odd[k - 1].Ticks.length : Int) > 0) by have := List.length_pos_iff.2 hc; omega), cond_true]
     exact .inr ⟨_, rfl, .inl ⟨k - 1, _, rfl, hget, by omega, hc, fun j g hj h1 h2 => hn j g hj (by omega) h2⟩⟩
   ·rw [Zm (show ¬ (k : Int) - 1 ≥ 0 by omega), Bool.false_and, cond_false]
    exact .inr ⟨_, rfl, .inr ⟨rfl, fun j g hj hjq => hn j g hj (by omega) hjq⟩⟩) ((q : Int) - 1) ⟨q, rfl, Nat.le_refl _, fun j g _ h h' => by omega⟩
  rw [hr]
  simp only [Option.bind_some]
  rcases hpost with ⟨k, g, rfl, hk, hkq, hne, hn⟩ | ⟨rfl, hn⟩
  ·have hset := Z14 hs.inc (List.mem_of_getElem? hk)
   have hgi := (hq2 k g hk).1 hkq
   refine ⟨_, rfl, .inl ⟨rfl, hgi, (hs.odd g (List.mem_of_getElem? hk)).2, by simp only; rw [hset]; exact hne, fun j hij hjg => ?_⟩⟩
   simp only at hjg
   by_cases ho : Z0H f j
   ·obtain ⟨g', hg', rfl⟩ := ho
    obtain ⟨k', hk'⟩ := List.getElem?_of_mem hg'
    rw [Z14 hs.inc hg']
    refine hn k' g' hk' ?_ ((hq2 k' g' hk').2 hij)
    rcases Nat.lt_or_ge k k' with h | h
    ·exact h
    ·rcases Nat.lt_or_ge k' k with h' | h'
     ·have := hs.inc k' k g' g h' hk' hk; omega
     ·have : k = k' := by omega
      subst this; rw [hk] at hk'; cases hk'; omega
   ·exact Z5Z hs hbare ho
  ·refine ⟨_, rfl, .inr ⟨rfl, rfl, fun j hij _ => ?_⟩⟩
   by_cases ho : Z0H f j
   ·obtain ⟨g', hg', rfl⟩ := ho
    obtain ⟨k', hk'⟩ := List.getElem?_of_mem hg'
    rw [Z14 hs.inc hg']
    exact hn k' g' hk' ((hq2 k' g' hk').2 hij)
   ·exact Z5Z hs hbare ho
 | false =>
  rw [cond_false]
  obtain ⟨r, hr, hpost⟩ := Z1V (step := Z0D.s1 f (-1)) (I := fun (s : Int) => s ≤ i ∧ -1099511627777 ≤ s ∧ ∀ k, k ≤ i → s < k → ZY f k = []) (fun s => (s + 1099511627777).toNat)
   (fun r => (∃ j, r = .ret (j, true) ∧ j ≤ i ∧ ZP j ∧ ZY f j ≠ [] ∧ ∀ k, k ≤ i → j < k → ZY f k = []) ∨ (r = .go () ∧ ∀ k, k ≤ i → ZP k → ZY f k = [])) (by
   rintro s ⟨hs1, hs2, hn⟩
   unfold Z0D.s1
   rw [Z5h]
   by_cases ht : ZP s
   ·rw [Ze ht, cond_true, Z7s hl hs (Z2e ht), ZQ (by unfold ZP at ht; omega)]
    simp only [Option.bind_some]
    by_cases hc : ZY f s = []
    ·rw [hc]
     refine .inl ⟨s + -1, by simp, ⟨by omega, by unfold ZP at ht; omega, fun k hk hks => ?_⟩, by unfold ZP at ht; omega⟩
     by_cases h : k = s
     ·rw [h]; exact hc
     ·exact hn k hk (by omega)
    ·rw [Ze hc, cond_true]
     exact .inr ⟨_, rfl, .inl ⟨s, rfl, hs1, ht, hc, hn⟩⟩
   ·rw [Zm ht, cond_false]
    exact .inr ⟨_, rfl, .inr ⟨rfl, fun k hk htk => hn k hk (by unfold ZP at ht htk; omega)⟩⟩) i ⟨Int.le_refl _, by omega, fun k h h' => by omega⟩
  rw [hr]
  simp only [Option.bind_some]
  rcases hpost with ⟨j, rfl, h1, h2, h3, h4⟩ | ⟨rfl, hn⟩
  ·exact ⟨_, rfl, .inl ⟨rfl, h1, h2, h3, h4⟩⟩
  ·exact ⟨_, rfl, .inr ⟨rfl, rfl, hn⟩⟩

def Above (f : Form) (i : Int) (r : Int × Bool) : Prop := (r.2 = true ∧ i < r.1 ∧ ZP r.1 ∧ ZY f r.1 ≠ [] ∧ ∀ k, i < k → k < r.1 → ZP k → ZY f k = []) ∨ (r.2 = false ∧ r.1 = 0 ∧ ∀ k, i < k → ZP k → ZY f k = [])
def Under (f : Form) (i : Int) (r : Int × Bool) : Prop := (r.2 = true ∧ r.1 < i ∧ ZP r.1 ∧ ZY f r.1 ≠ [] ∧ ∀ k, k < i → r.1 < k → ZP k → ZY f k = []) ∨ (r.2 = false ∧ r.1 = 0 ∧ ∀ k, k < i → ZP k → ZY f k = [])

theorem Z4H {f : Form} (hl : Lim f) (hs : Shape f) {i : Int} (hi : In64 i) : ∃ r, Z2L f i = some r ∧ Above f i r := by
 unfold Z2L
 by_cases h : i ≥ 1099511627776
 ·rw [Ze h, cond_true]
  exact ⟨_, rfl, .inr ⟨rfl, rfl, fun k hk ht => by unfold ZP at ht; omega⟩⟩
 ·rw [Zm h, cond_false, ZQ (by unfold In64 at hi; omega)]
  have hm : iMax (i + 1) (-1099511627776) = max (i + 1) (-1099511627776) := by unfold iMax; omega
  rw [hm]
  obtain ⟨r, h1, h2⟩ := gran_step_up hl hs (i := max (i + 1) (-1099511627776)) (by omega)
  rw [h1]
  refine ⟨r, rfl, ?_⟩
  rcases h2 with ⟨a, b, c, d, e⟩ | ⟨a, b, e⟩
  ·exact .inl ⟨a, by omega, c, d, fun k hk hkr ht => e k (by unfold ZP at ht; omega) hkr⟩
  ·exact .inr ⟨a, b, fun k hk ht => e k (by have := ht; unfold ZP at this; omega) ht⟩

theorem Z46 {f : Form} (hl : Lim f) (hs : Shape f) {i : Int} (hi : In64 i) : ∃ r, Z1y f i = some r ∧ Under f i r := by
 unfold Z1y
 by_cases h : i ≤ -1099511627776
 ·rw [Ze h, cond_true]
  exact ⟨_, rfl, .inr ⟨rfl, rfl, fun k hk ht => by unfold ZP at ht; omega⟩⟩
 ·rw [Zm h, cond_false, ZQ (by unfold In64 at hi; omega)]
  have hm : iMin (i - 1) 1099511627776 = min (i - 1) 1099511627776 := by unfold iMin; omega
  rw [hm]
  obtain ⟨r, h1, h2⟩ := Z9D hl hs (i := min (i - 1) 1099511627776) (by omega)
  rw [h1]
  refine ⟨r, rfl, ?_⟩
  rcases h2 with ⟨a, b, c, d, e⟩ | ⟨a, b, e⟩
  ·exact .inl ⟨a, by omega, c, d, fun k hk hkr ht => e k (by unfold ZP at ht; omega) hkr⟩
  ·exact .inr ⟨a, b, fun k hk ht => e k (by have := ht; unfold ZP at this; omega) ht⟩

end Go.Dn

namespace Go.Dn
open Go

def BesideR (f : Form) (i : Int) (lo hi : Int × Bool) : Prop :=
 fits f i ∧ (lo.2 = true → fits f lo.1 ∧ Z2y (ZY f lo.1) (ZY f i)) ∧ (hi.2 = true → fits f hi.1 ∧ Z2y (ZY f i) (ZY f hi.1)) ∧ (lo.2 = true → hi.2 = true → Z2y (ZY f lo.1) (ZY f hi.1))

theorem aheadL_nil_l (b : List Span) : Z2y [] b := by intro x hx; cases hx
theorem aheadL_nil_r (a : List Span) : Z2y a [] := by intro x _ y hy; cases hy

theorem Z8H {f : Form} (hl : Lim f) (hs : Shape f) (i : Int) : Len (ZY f i) := by
 by_cases ho : Z0H f i
 ·obtain ⟨g, hg, rfl⟩ := ho
  rw [Z14 hs.inc hg]; exact (hl.ticks g hg).2.1
 ·by_cases h0 : f.Count = 0
  ·rw [Z1j ho h0]; unfold Len; simp
  ·rw [Z2W ho h0]; unfold Len; rw [List.length_map]; exact (hl.sets _ (Z1i hs h0 i).2).1

theorem Z8Z {f : Form} (hs : Shape f) {i : Int} (hf : fits f i) : RightL (ZY f i) := by
 by_cases ho : Z0H f i
 ·obtain ⟨g, hg, rfl⟩ := ho
  rw [Z14 hs.inc hg]; exact (hs.odd g hg).1
 ·by_cases h0 : f.Count = 0
  ·rw [Z1j ho h0]; exact ⟨by simp, by simp⟩
  ·unfold fits at hf
   rw [Z2W ho h0] at hf ⊢
   exact (hs.core _ (Z1i hs h0 i).2).shift fun s hs' => hf (Zh (Z3f f i) s) (List.mem_map.2 ⟨s, hs', rfl⟩)

theorem near_l {c : Bool} {X S : List Span} : Z2y (if c = true then X else []) S ↔ (c = true → Z2y X S) := by
 cases c
 ·simp [aheadL_nil_l]
 ·simp
theorem near_r {c : Bool} {X S : List Span} : Z2y S (if c = true then X else []) ↔ (c = true → Z2y S X) := by
 cases c
 ·simp [aheadL_nil_r]
 ·simp

noncomputable def sideG (f : Form) (r : Int × Bool) : Option (Jx (List Span) Bool) :=
 (bif r.2 then (Z0T f r.1).bind fun x => (bif (x.2 != 0) then some (.ret false) else some (.go x.1)) else some (.go []))

open Classical in
theorem sideG_eq {f : Form} (hl : Lim f) (hs : Shape f) {r : Int × Bool} (ht : r.2 = true → ZP r.1) : (r.2 = true ∧ ¬ fits f r.1 ∧ sideG f r = some (.ret false)) ∨ ((r.2 = true → fits f r.1) ∧ sideG f r = some (.go (if r.2 = true then ZY f r.1 else []))) := by
 obtain ⟨j, c⟩ := r
 unfold sideG
 cases c with
 | false => exact .inr ⟨by simp, by simp⟩
 | true =>
  simp only [cond_true]
  rw [Z6H hl hs (Z2e (ht rfl))]
  by_cases hfl : fits f j
  ·rw [if_pos ⟨ht rfl, hfl⟩]; exact .inr ⟨fun _ => hfl, by simp⟩
  ·rw [if_neg (fun h => hfl h.2)]; exact .inl ⟨trivial, hfl, rfl⟩

open Classical in
theorem Z9v {f : Form} (hl : Lim f) (hs : Shape f) {i : Int} (hi : ZP i) {lo hi' : Int × Bool} (hlo : Z1y f i = some lo) (hhi : Z2L f i = some hi') (tlo : lo.2 = true → ZP lo.1) (thi : hi'.2 = true → ZP hi'.1) :
  ∃ b, Z2Q f i = some b ∧ (b = true ↔ BesideR f i lo hi') := by
 have e : Z2Q f i = (Z0T f i).bind fun x1 => (bif (x1.2 != 0) then some false else (sideG f lo).bind fun y1 => y1.elim (fun r' => some r') fun a2 => (sideG f hi').bind fun y2 => y2.elim (fun r' => some r') fun a4 =>
   (Z13 a2 x1.1).bind fun x6 => ((bif x6 then (Z13 x1.1 a4).bind fun x7 => some x7 else some false)).bind fun y3 => ((bif y3 then (Z13 a2 a4).bind fun x8 => some x8 else some false)).bind fun y4 => some y4) := by
  unfold Z2Q sideG
  rw [hlo, hhi]
  simp only [Option.bind_some]
 rw [e, Z6H hl hs (Z2e hi)]
 clear e
 by_cases hf : fits f i
 ·rw [if_pos ⟨hi, hf⟩]
  simp only [Option.bind_some, bne_self_eq_false, cond_false]
  rcases sideG_eq hl hs tlo with ⟨h1, h2, h0⟩ | ⟨h1, h0⟩
  ·rw [h0]
   exact ⟨false, rfl, fun h => (by cases h), fun h => absurd (h.2.1 h1).1 h2⟩
  ·rw [h0]
   simp only [Option.bind_some, Jx.elim]
   rcases sideG_eq hl hs thi with ⟨h3, h4, h0'⟩ | ⟨h3, h0'⟩
   ·rw [h0']
    exact ⟨false, rfl, fun h => (by cases h), fun h => absurd (h.2.2.1 h3).1 h4⟩
   ·rw [h0']
    simp only [Option.bind_some]
    have lenA : Len (if lo.2 = true then ZY f lo.1 else []) := by
     by_cases hc : lo.2 = true
     ·rw [if_pos hc]; exact Z8H hl hs _
     ·rw [if_neg hc]; unfold Len; simp
    generalize hA : (if lo.2 = true then ZY f lo.1 else []) = A at lenA
    generalize hB : (if hi'.2 = true then ZY f hi'.1 else []) = B
    obtain ⟨r1, q1, p1⟩ := Z3y (b := ZY f i) lenA
    obtain ⟨r2, q2, p2⟩ := Z3y (a := ZY f i) (b := B) (Z8H hl hs i)
    obtain ⟨r3, q3, p3⟩ := Z3y (b := B) lenA
    rw [q1, q2, q3]
    subst hA hB
    rw [near_l] at p1
    rw [near_r] at p2
    rw [near_l, near_r] at p3
    refine ⟨r1 && r2 && r3, by cases r1 <;> cases r2 <;> rfl, ?_⟩
    rw [Bool.and_eq_true, Bool.and_eq_true, p1, p2, p3]
    constructor
    ·rintro ⟨⟨a, b⟩, c⟩
     exact ⟨hf, fun h => ⟨h1 h, a h⟩, fun h => ⟨h3 h, b h⟩, c⟩
    ·rintro ⟨_, a, b, c⟩
     exact ⟨⟨fun h => (a h).2, fun h => (b h).2⟩, c⟩
 ·rw [if_neg (fun h => hf h.2)]
  exact ⟨false, rfl, fun h => (by cases h), fun h => absurd h.1 hf⟩

def Beside (f : Form) (i : Int) : Prop := ∀ lo hi, Under f i lo → Above f i hi → BesideR f i lo hi

theorem Under.uniq {f : Form} {i : Int} {r r' : Int × Bool} (h : Under f i r) (h' : Under f i r') : r = r' := by
 obtain ⟨a, b⟩ := r
 obtain ⟨a', b'⟩ := r'
 rcases h with ⟨rfl, h1, h2, h3, h4⟩ | ⟨rfl, rfl, h4⟩ <;> rcases h' with ⟨rfl, k1, k2, k3, k4⟩ | ⟨rfl, rfl, k4⟩
 ·simp only at *
  rcases Int.lt_trichotomy a a' with h | h | h
  ·exact absurd (h4 a' k1 h k2) k3
  ·rw [h]
  ·exact absurd (k4 a h1 h h2) h3
 ·exact absurd (k4 a h1 h2) h3
 ·exact absurd (h4 a' k1 k2) k3
 ·rfl
theorem Above.uniq {f : Form} {i : Int} {r r' : Int × Bool} (h : Above f i r) (h' : Above f i r') : r = r' := by
 obtain ⟨a, b⟩ := r
 obtain ⟨a', b'⟩ := r'
 rcases h with ⟨rfl, h1, h2, h3, h4⟩ | ⟨rfl, rfl, h4⟩ <;> rcases h' with ⟨rfl, k1, k2, k3, k4⟩ | ⟨rfl, rfl, k4⟩
 ·simp only at *
  rcases Int.lt_trichotomy a a' with h | h | h
  ·exact absurd (k4 a h1 h h2) h3
  ·rw [h]
  ·exact absurd (h4 a' k1 h k2) k3
 ·exact absurd (k4 a h1 h2) h3
 ·exact absurd (h4 a' k1 k2) k3
 ·rfl

theorem Z9A {f : Form} (hl : Lim f) (hs : Shape f) {i : Int} (hi : ZP i) : ∃ b, Z2Q f i = some b ∧ (b = true ↔ Beside f i) := by
 obtain ⟨lo, h1, h2⟩ := Z46 hl hs (Z2e hi)
 obtain ⟨hi', h3, h4⟩ := Z4H hl hs (Z2e hi)
 obtain ⟨b, h5, h6⟩ := Z9v hl hs hi h1 h3 (fun h => by rcases h2 with ⟨_, _, h, _⟩ | ⟨h', _⟩ <;> simp_all) (fun h => by rcases h4 with ⟨_, _, h, _⟩ | ⟨h', _⟩ <;> simp_all)
 refine ⟨b, h5, h6.trans ⟨fun h lo' hi'' q1 q2 => ?_, fun h => h lo hi' h2 h4⟩⟩
 rw [q1.uniq h2, q2.uniq h4]; exact h

def sizeF (f : Form) : Nat := (f.Core.map List.length).sum + (f.Odd.map (·.Ticks.length)).sum

theorem sum_take {α : Type} (g : α → Nat) {l : List α} {k : Nat} (h : k < l.length) : ((l.take (k + 1)).map g).sum = ((l.take k).map g).sum + g l[k] := by
 rw [List.take_succ_eq_append_getElem h, List.map_append, List.sum_append]; simp

theorem Z7G {f : Form} (hl : Lim f) (hc : f.Core.length ≤ 6000) (ho : f.Odd.length ≤ 6000) : Z0Q f = some (sizeF f : Int) := by
 have hr := Z18
 have lenC : ∀ l ∈ f.Core, l.length ≤ 8796093022207 := fun l hm => by have := (hl.sets l hm).1; unfold Len at this; omega
 have lenO : ∀ g ∈ f.Odd, g.Ticks.length ≤ 8796093022207 := fun l hm => by have := (hl.ticks l hm).2.1; unfold Len at this; omega
 obtain ⟨a, h1, h2, h3⟩ := fold_loop (l := f.Core) (step := Z0Q.s0 f) (f := fun a _ x => a + (x.length : Int)) (fin := id) (a0 := (0 : Int)) (fun k a => a = ((((f.Core.take k).map List.length).sum : Nat) : Int) ∧ a ≤ k * 8796093022207) ⟨by simp, by simp⟩ (fun k x a hk ⟨ha, hb⟩ => by
   obtain ⟨q1, q2⟩ := Z81 hk
   have hx := lenC x (List.mem_of_getElem? hk)
   have hkl : k < f.Core.length := by omega
   have h0 : 0 ≤ a := by rw [ha]; omega
   unfold Z0Q.s0
   simp only
   rw [Ze q2, cond_true, q1, ZQ (x := (k : Int) + 1) (by omega)]
   simp only [Option.bind_some]
   rw [ZQ (x := a + (x.length : Int)) (by omega)]
   refine ⟨rfl, ?_, by push_cast; omega⟩
   rw [sum_take _ hkl]
   rw [List.getElem?_eq_getElem hkl] at hk
   cases hk; rw [ha]; push_cast; rfl) (fun a _ => by unfold Z0Q.s0; simp only; rw [Zm (by omega)]; rfl)
 rw [List.take_length] at h2
 obtain ⟨b, h4, h5, h6⟩ := fold_loop (l := f.Odd) (step := Z0Q.s1 f) (f := fun a _ x => a + (x.Ticks.length : Int)) (fin := id) (a0 := a) (fun k b => b = a + ((((f.Odd.take k).map (·.Ticks.length)).sum : Nat) : Int) ∧ b ≤ a + k * 8796093022207) ⟨by simp, by simp⟩ (fun k x b hk ⟨ha, hb⟩ => by
   obtain ⟨q1, q2⟩ := Z81 hk
   have hx := lenO x (List.mem_of_getElem? hk)
   have hkl : k < f.Odd.length := by omega
   have h0 : 0 ≤ b := by rw [ha, h2]; omega
   unfold Z0Q.s1
   simp only
   rw [Ze q2, cond_true, q1, ZQ (x := (k : Int) + 1) (by omega)]
   simp only [Option.bind_some]
   rw [ZQ (x := b + (x.Ticks.length : Int)) (by omega)]
   refine ⟨rfl, ?_, by push_cast; omega⟩
   rw [sum_take _ hkl]
   rw [List.getElem?_eq_getElem hkl] at hk
   cases hk; rw [ha]; push_cast; omega) (fun a _ => by unfold Z0Q.s1; simp only; rw [Zm (by omega)]; rfl)
 rw [List.take_length] at h5
 unfold Z0Q
 rw [h1]
 simp only [Option.bind_some, id]
 rw [h4]
 simp only [Option.bind_some, id, h5, h2, sizeF]
 push_cast; rfl

structure RightF (f : Form) : Prop where
 shape : Shape f
 turns : Turns f
 beside : ∀ g ∈ f.Odd, Beside f g.Index
def LongF (f : Form) : Prop := 6000 < f.Core.length ∨ 6000 < f.Odd.length ∨ 60000 < sizeF f

theorem Z6l {f : Form} (hl : Lim f) : (LongF f ∧ Z0G f = some 3) ∨ (¬ LongF f ∧ RightF f ∧ Z0G f = some 0) ∨ (¬ LongF f ∧ ¬ RightF f ∧ Z0G f = some 50) := by
 have holen := Z2f (b := 31) hl.odd
 unfold Z0G
 by_cases h1 : 6000 < f.Core.length ∨ 6000 < f.Odd.length
 ·have e : (decide ((f.Core.length : Int) > 6000) || decide ((f.Odd.length : Int) > 6000)) = true := by
   rcases h1 with h | h
   ·rw [Ze (show (f.Core.length : Int) > 6000 by omega)]; rfl
   ·rw [Ze (show (f.Odd.length : Int) > 6000 by omega)]; simp
  rw [e]
  exact .inl ⟨h1.elim .inl (fun h => .inr (.inl h)), rfl⟩
 ·have e : (decide ((f.Core.length : Int) > 6000) || decide ((f.Odd.length : Int) > 6000)) = false := by
   rw [Zm (show ¬ (f.Core.length : Int) > 6000 by omega), Zm (show ¬ (f.Odd.length : Int) > 6000 by omega)]; rfl
  rw [e, cond_false, Z7G hl (by omega) (by omega)]
  simp only [Option.bind_some]
  by_cases h2 : 60000 < sizeF f
  ·rw [Ze (show (sizeF f : Int) > 60000 by omega)]
   exact .inl ⟨.inr (.inr h2), rfl⟩
  ·have hnl : ¬ LongF f := by unfold LongF; omega
   rw [Zm (show ¬ (sizeF f : Int) > 60000 by omega), cond_false]
   obtain ⟨b, hb, hbs⟩ := gran_shape_eq hl
   rw [hb]
   simp only [Option.bind_some]
   refine .inr ?_
   cases b with
   | false => exact .inr ⟨hnl, fun h => (by have := hbs.2 h.shape; cases this), rfl⟩
   | true =>
    have hs := hbs.1 rfl
    obtain ⟨c, hc, hct⟩ := gran_turns_eq hl hs
    rw [hc]
    simp only [Option.bind_some, Bool.not_true, cond_false]
    cases c with
    | false => exact .inr ⟨hnl, fun h => (by have := hct.2 h.turns; cases this), rfl⟩
    | true =>
     simp only [Bool.not_true, cond_false]
     rcases Z3a (l := f.Odd) (step := Z0G.s0 f) (fun _ g => Beside f g.Index) (no := .ret 50) (yes := .go ()) (fun k g hk _ => by
       obtain ⟨q1, q2⟩ := Z81 hk
       obtain ⟨b, hb, hbb⟩ := Z9A hl hs (hs.odd g (List.mem_of_getElem? hk)).2
       unfold Z0G.s0
       rw [Ze q2, cond_true, q1, ZQ (by omega)]
       simp only [Option.bind_some, hb]
       cases b
       ·exact .inr ⟨rfl, fun h => by have := hbb.2 h; cases this⟩
       ·exact .inl ⟨rfl, hbb.1 rfl⟩) (by unfold Z0G.s0; rw [Zm (by omega)]; rfl) with ⟨q1, q2⟩ | ⟨q1, q2⟩
     ·rw [q1]
      exact .inl ⟨hnl, ⟨hs, hct.1 rfl, fun g hg => by obtain ⟨k, hk⟩ := List.getElem?_of_mem hg; exact q2 k g hk⟩, rfl⟩
     ·rw [q1]
      exact .inr ⟨hnl, fun h => q2 fun k g hk => h.beside g (List.mem_of_getElem? hk), rfl⟩

def SmallF (f : Form) : Prop := f.Core.length ≤ 12 ∧ f.Odd.length ≤ 8 ∧ sizeF f ≤ 60
theorem Z6X {f : Form} (hl : Lim f) : ∃ b, Z0x f = some b ∧ (b = true ↔ SmallF f) := by
 unfold Z0x
 by_cases h : f.Core.length ≤ 12 ∧ f.Odd.length ≤ 8
 ·rw [Ze (show (f.Core.length : Int) ≤ 12 by omega), Ze (show (f.Odd.length : Int) ≤ 8 by omega), Z7G hl (by omega) (by omega)]
  refine ⟨decide ((sizeF f : Int) ≤ 60), rfl, ?_⟩
  rw [decide_eq_true_iff]
  exact ⟨fun h' => ⟨h.1, h.2, by omega⟩, fun h' => by have := h'.2.2; omega⟩
 ·have e : (decide ((f.Core.length : Int) ≤ 12) && decide ((f.Odd.length : Int) ≤ 8)) = false := by
   by_cases h1 : f.Core.length ≤ 12
   ·rw [Zm (show ¬ (f.Odd.length : Int) ≤ 8 by omega)]; simp
   ·rw [Zm (show ¬ (f.Core.length : Int) ≤ 12 by omega)]; rfl
  rw [e]
  exact ⟨false, rfl, fun h => (by cases h), fun h' => absurd ⟨h'.1, h'.2.1⟩ h⟩

end Go.Dn

namespace Go.Dn
open Go

theorem Z2p {f : Form} {l : List Span} : l ∈ full f ↔ l ∈ f.Core ∧ l ≠ [] := by
 unfold full
 rw [List.mem_filter, decide_eq_true_iff, gt_iff_lt, List.length_pos_iff]

theorem full_pair {f : Form} (hs : Shape f) (ht : Turns f) : (full f).Pairwise (fun a b => lstT a < fstT b) := by
 have hm : ∀ x ∈ full f, fstT x ≤ lstT x := fun x hx => Z1k (hs.core x (Z2p.1 hx).1) (Z2p.1 hx).2
 have h1 := ht.1
 generalize full f = l at hm h1
 induction l with
 | nil => exact .nil
 | cons x l ih =>
  have ih := ih (fun y hy => hm y (List.mem_cons_of_mem _ hy)) (fun k a b ha hb => h1 (k + 1) a b ha hb)
  refine List.pairwise_cons.2 ⟨fun y hy => ?_, ih⟩
  cases l with
  | nil => cases hy
  | cons z l =>
   have hxz := h1 0 x z rfl rfl
   rcases List.mem_cons.1 hy with rfl | hy
   ·exact hxz
   ·have := (List.pairwise_cons.1 ih).1 y hy
    have := hm z (by simp)
    omega

theorem core_pair {f : Form} (hs : Shape f) (ht : Turns f) {j k : Nat} {a b : List Span} (hjk : j < k) (ha : f.Core[j]? = some a) (hb : f.Core[k]? = some b) (na : a ≠ []) (nb : b ≠ []) : lstT a < fstT b := by
 have h := full_pair hs ht
 unfold full at h
 rw [List.pairwise_filter] at h
 have hj := (List.getElem?_eq_some_iff.1 ha)
 have hk := (List.getElem?_eq_some_iff.1 hb)
 obtain ⟨hj, rfl⟩ := hj
 obtain ⟨hk, rfl⟩ := hk
 exact List.pairwise_iff_getElem.1 h j k hj hk hjk (by rw [decide_eq_true_iff]; exact List.length_pos_iff.2 na) (by rw [decide_eq_true_iff]; exact List.length_pos_iff.2 nb)

theorem core_turn {f : Form} (hs : Shape f) (ht : Turns f) {a b : List Span} (ha : a ∈ f.Core) (hb : b ∈ f.Core) (na : a ≠ []) (nb : b ≠ []) : lstT a < fstT b + f.Period := by
 have hA := Z2p.2 ⟨ha, na⟩
 have hB := Z2p.2 ⟨hb, nb⟩
 have hm : ∀ x ∈ full f, fstT x ≤ lstT x := fun x hx => Z1k (hs.core x (Z2p.1 hx).1) (Z2p.1 hx).2
 have hn : full f ≠ [] := List.ne_nil_of_mem hA
 have hlast := List.getLast?_eq_some_getLast hn
 have hhead := List.head?_eq_some_head hn
 have h2 := ht.2 _ _ hlast hhead
 have hp := full_pair hs ht
 have e1 : lstT a ≤ lstT ((full f).getLast hn) := by
  obtain ⟨j, hj⟩ := List.getElem?_of_mem hA
  obtain ⟨hjl, hj⟩ := List.getElem?_eq_some_iff.1 hj
  by_cases hc : j = (full f).length - 1
  ·subst hc
   rw [List.getLast_eq_getElem, hj]
   exact Int.le_refl _
  ·have := List.pairwise_iff_getElem.1 hp j ((full f).length - 1) hjl (by omega) (by omega)
   rw [hj] at this
   have h5 := hm _ (List.getLast_mem hn)
   rw [List.getLast_eq_getElem] at h5 ⊢
   omega
 have e2 : fstT ((full f).head hn) ≤ fstT b := by
  obtain ⟨j, hj⟩ := List.getElem?_of_mem hB
  obtain ⟨hjl, hj⟩ := List.getElem?_eq_some_iff.1 hj
  have hh : (full f).head hn = (full f)[0]'(by omega) := List.head_eq_getElem hn
  by_cases hc : j = 0
  ·subst hc
   rw [hh, hj]
   exact Int.le_refl _
  ·have := List.pairwise_iff_getElem.1 hp 0 j (by omega) hjl (by omega)
   rw [hj, ← hh] at this
   have h5 := hm _ (List.head_mem hn)
   omega
 omega

theorem Z9y {f : Form} (hs : Shape f) (h0 : f.Count ≠ 0) (i : Int) : f.Core[(i % f.Count).toNat]? = some (Z1T f i) := by
 have := (Z1i hs h0 i).1
 unfold at? at this
 rwa [if_pos (Int.emod_nonneg i h0)] at this

theorem Z9z {f : Form} (hs : Shape f) (ht : Turns f) (h0 : f.Count ≠ 0) {i k : Int} (hik : i < k) (ni : Z1T f i ≠ []) (nk : Z1T f k ≠ []) : lstT (Z1T f i) + Z3f f i < fstT (Z1T f k) + Z3f f k := by
 have hp := Z7b hs h0
 have di := Int.emod_add_mul_ediv i f.Count
 have dk := Int.emod_add_mul_ediv k f.Count
 have mi := Int.emod_nonneg i h0
 have mk := Int.emod_nonneg k h0
 have li := Int.emod_lt_of_pos i hp
 have lk := Int.emod_lt_of_pos k hp
 have hq : i / f.Count ≤ k / f.Count := Int.ediv_le_ediv hp (by omega)
 unfold Z3f
 rcases Int.lt_or_eq_of_le hq with h | h
 ·have h1 := core_turn hs ht (Z1i hs h0 i).2 (Z1i hs h0 k).2 ni nk
  have h2 : (i / f.Count + 1) * f.Period ≤ k / f.Count * f.Period := Int.mul_le_mul_of_nonneg_right (by omega) hs.per.1
  rw [Int.add_mul, Int.one_mul] at h2
  omega
 ·rw [h] at di ⊢
  have : i % f.Count < k % f.Count := by omega
  have h1 := core_pair hs ht (j := (i % f.Count).toNat) (k := (k % f.Count).toNat) (by omega) (Z9y hs h0 i) (Z9y hs h0 k) ni nk
  omega

theorem Z0W {l : List Span} (d : Int) (hn : l ≠ []) : lstT (l.map (Zh d)) = lstT l + d ∧ fstT (l.map (Zh d)) = fstT l + d := by
 unfold lstT fstT
 rw [List.getLast?_map, List.head?_map, List.getLast?_eq_some_getLast hn, List.head?_eq_some_head hn]
 exact ⟨rfl, rfl⟩

theorem under_some {f : Form} (hl : Lim f) (hs : Shape f) {i k : Int} (hk : In64 k) (hik : i < k) (ti : ZP i) (ni : ZY f i ≠ []) : ∃ j, Under f k (j, true) ∧ i ≤ j := by
 obtain ⟨r, _, h⟩ := Z46 hl hs hk
 obtain ⟨j, b⟩ := r
 have h' := h
 rcases h with ⟨rfl, h1, h2, h3, h4⟩ | ⟨rfl, _, h4⟩
 ·refine ⟨j, h', ?_⟩
  apply Classical.byContradiction
  intro hc
  exact ni (h4 i hik (by simp only; omega) ti)
 ·exact absurd (h4 i hik ti) ni
theorem above_some {f : Form} (hl : Lim f) (hs : Shape f) {i k : Int} (hk : In64 k) (hik : k < i) (ti : ZP i) (ni : ZY f i ≠ []) : ∃ j, Above f k (j, true) ∧ j ≤ i := by
 obtain ⟨r, _, h⟩ := Z4H hl hs hk
 obtain ⟨j, b⟩ := r
 have h' := h
 rcases h with ⟨rfl, h1, h2, h3, h4⟩ | ⟨rfl, _, h4⟩
 ·refine ⟨j, h', ?_⟩
  apply Classical.byContradiction
  intro hc
  exact ni (h4 i hik (by simp only; omega) ti)
 ·exact absurd (h4 i hik ti) ni

theorem RightF.order {f : Form} (hl : Lim f) (hr : RightF f) : ∀ (n : Nat) (i k : Int), (k - i).toNat = n → i < k → ZP i → ZP k → fits f i → fits f k → ZY f i ≠ [] → ZY f k ≠ [] → lstT (ZY f i) < fstT (ZY f k) := by
 have hs := hr.shape
 intro n
 induction n using Nat.strongRecOn with
 | _ n ih =>
  intro i k hn hik ti tk fi fk ni nk
  by_cases ok : Z0H f k
  ·obtain ⟨g, hg, rfl⟩ := ok
   obtain ⟨j, hj, hij⟩ := under_some hl hs (Z2e tk) hik ti ni
   obtain ⟨hi', _, hab⟩ := Z4H hl hs (Z2e tk)
   obtain ⟨_, hlo, _, _⟩ := hr.beside g hg _ _ hj hab
   obtain ⟨fj, aj⟩ := hlo rfl
   have hj2 := hj
   rcases hj2 with ⟨_, j1, j2, j3, j4⟩ | ⟨h, _⟩
   ·simp only at fj aj j1 j2 j3
    have hjk := (Z9k j3 nk).1 aj
    by_cases hji : i = j
    ·rw [hji]; exact hjk
    ·have h1 := ih (j - i).toNat (by omega) i j rfl (by omega) ti j2 fi fj ni j3
     have h2 := Z1k (Z8Z hs fj) j3
     omega
   ·cases h
  ·by_cases oi : Z0H f i
   ·obtain ⟨g, hg, rfl⟩ := oi
    obtain ⟨j, hj, hij⟩ := above_some hl hs (Z2e ti) hik tk nk
    obtain ⟨lo', _, hun⟩ := Z46 hl hs (Z2e ti)
    obtain ⟨_, _, hhi, _⟩ := hr.beside g hg _ _ hun hj
    obtain ⟨fj, aj⟩ := hhi rfl
    have hj2 := hj
    rcases hj2 with ⟨_, j1, j2, j3, j4⟩ | ⟨h, _⟩
    ·simp only at fj aj j1 j2 j3
     have hjk := (Z9k ni j3).1 aj
     by_cases hji : j = k
     ·rw [← hji]; exact hjk
     ·have h1 := ih (k - j).toNat (by omega) j k rfl (by omega) j2 tk fj fk j3 nk
      have h2 := Z1k (Z8Z hs fj) j3
      omega
    ·cases h
   ·have h0 : f.Count ≠ 0 := fun h => ni (Z1j oi h)
    have ni' := fun h => ni ((Z1r oi h0).2 h)
    have nk' := fun h => nk ((Z1r ok h0).2 h)
    rw [Z2W oi h0, Z2W ok h0, (Z0W _ ni').1, (Z0W _ nk').2]
    exact Z9z hs hr.turns h0 hik ni' nk'

theorem iMin_eq (a b : Int) : iMin a b = min a b := by unfold iMin; omega
theorem iMax_eq (a b : Int) : iMax a b = max a b := by unfold iMax; omega

end Go.Dn

namespace Go.Dn
open Go

theorem Above.tick {f : Form} {i : Int} {r : Int × Bool} (h : Above f i r) (hr : r.2 = true) : i < r.1 ∧ ZP r.1 ∧ ZY f r.1 ≠ [] ∧ ∀ k, i < k → k < r.1 → ZP k → ZY f k = [] := by
 rcases h with ⟨_, h1, h2, h3, h4⟩ | ⟨h, _⟩
 ·exact ⟨h1, h2, h3, h4⟩
 ·rw [hr] at h; cases h
theorem Under.tick {f : Form} {i : Int} {r : Int × Bool} (h : Under f i r) (hr : r.2 = true) : r.1 < i ∧ ZP r.1 ∧ ZY f r.1 ≠ [] ∧ ∀ k, k < i → r.1 < k → ZP k → ZY f k = [] := by
 rcases h with ⟨_, h1, h2, h3, h4⟩ | ⟨h, _⟩
 ·exact ⟨h1, h2, h3, h4⟩
 ·rw [hr] at h; cases h

end Go.Dn

namespace Go.Dn
open Go

theorem eqf_loop {α β : Type} {a : List α} {b : List β} {step : Int → Option (Int ⊕ Jx Unit Bool)} {eq : α → β → Option Bool} (P : α → β → Prop)
  (hl : (a.length : Int) < 9223372036854775807) (hab : a.length = b.length)
  (heq : ∀ (k : Nat) x y, a[k]? = some x → b[k]? = some y → ∃ r, eq x y = some r ∧ (r = true ↔ P x y))
  (hstep : ∀ s, step s = bif decide (s < (a.length : Int)) then (at? a s).bind fun x1 => (at? b s).bind fun x2 => (eq x1 x2).bind fun x3 => bif (!x3) then some (.inr (.ret false)) else some (.inl (w64 (s + 1))) else some (.inr (.go ()))) :
  (ZN step 0 = some (.go ()) ∧ ∀ (k : Nat) x y, a[k]? = some x → b[k]? = some y → P x y) ∨ (ZN step 0 = some (.ret false) ∧ ¬ ∀ (k : Nat) x y, a[k]? = some x → b[k]? = some y → P x y) := by
 rcases Z3a (l := a) (step := step) (fun k x => ∀ y, b[k]? = some y → P x y) (no := .ret false) (yes := .go ()) (fun k x hk hp => by
  have hlt := (List.getElem?_eq_some_iff.1 hk).1
  have hat : at? a (k : Int) = some x := by rw [at?_nat hlt]; rw [List.getElem?_eq_getElem hlt] at hk; exact hk
  have hbt : at? b (k : Int) = some (b[k]'(by omega)) := at?_nat (by omega)
  have hbk : b[k]? = some (b[k]'(by omega)) := List.getElem?_eq_getElem (by omega)
  obtain ⟨r, h1, h2⟩ := heq k x _ hk hbk
  rw [hstep, Ze (show (k : Int) < a.length by omega), cond_true, hat, hbt, ZQ (show _ by omega)]
  simp only [Option.bind_some, h1]
  cases r with
  | true => exact .inl ⟨rfl, fun y hy => by rw [hbk] at hy; cases hy; exact h2.1 rfl⟩
  | false => exact .inr ⟨rfl, fun h => by have := h2.2 (h _ hbk); cases this⟩) (by
  rw [hstep, Zm (by omega)]; rfl) with ⟨h1, h2⟩ | ⟨h1, h2⟩
 ·exact .inl ⟨h1, fun k x y hx hy => h2 k x hx y hy⟩
 ·exact .inr ⟨h1, fun h => h2 fun k x hx y hy => h k x y hx hy⟩

theorem Z8g {a b : List Span} {d : Int} (hl : a.length = b.length) : (∀ (k : Nat) x y, a[k]? = some x → b[k]? = some y → y.From - x.From = d ∧ y.To - x.To = d) ↔ b = a.map (Zh d) := by
 constructor
 ·intro h
  apply List.ext_getElem?
  intro k
  by_cases hk : k < a.length
  ·have h1 : a[k]? = some a[k] := List.getElem?_eq_getElem hk
   have h2 : b[k]? = some (b[k]'(by omega)) := List.getElem?_eq_getElem (by omega)
   rw [h2, List.getElem?_map, h1]
   obtain ⟨q1, q2⟩ := h k _ _ h1 h2
   simp only [Option.map_some, Zh, Option.some.injEq]
   generalize b[k]'(by omega) = y at q1 q2 ⊢
   obtain ⟨y1, y2⟩ := y
   simp only at q1 q2
   simp only [Span.mk.injEq]
   omega
  ·rw [List.getElem?_eq_none (by omega), List.getElem?_eq_none (by simp; omega)]
 ·rintro rfl k x y hx hy
  rw [List.getElem?_map, hx] at hy
  simp only [Option.map_some, Option.some.injEq] at hy
  subst hy
  simp only [Zh]
  omega

theorem Z86 {a b : List Span} {d : Int} (ha : RightL a) (hb : RightL b) (hl : Len a) : ∃ r, Z1b a b d = some r ∧ (r = true ↔ b = a.map (Zh d)) := by
 have hl' : (a.length : Int) < 9223372036854775807 := by have := Z18; unfold Len at hl; omega
 unfold Z1b ZB
 by_cases hlen : a.length = b.length
 ·rw [bne_f (by omega), cond_false]
  have tk : ∀ {l : List Span}, RightL l → ∀ (k : Nat) s, l[k]? = some s → ZP s.From ∧ ZP s.To := fun {l} h k s hs => by
   have := Z5I.1 h k s hs
   unfold Z3b at this
   exact ⟨this.1, this.2.1⟩
  rcases eqf_loop (a := a) (b := b) (step := ZB.s0 a b (fun z0 z1 => some (Z16 z0 z1 d))) (eq := fun z0 z1 => some (Z16 z0 z1 d)) (fun x y => y.From - x.From = d ∧ y.To - x.To = d) hl' hlen (fun k x y hx hy => by
   refine ⟨_, rfl, ?_⟩
   obtain ⟨x1, x2⟩ := tk ha k x hx
   obtain ⟨y1, y2⟩ := tk hb k y hy
   unfold ZP at x1 x2 y1 y2
   unfold Z16
   rw [ZQ (by omega), ZQ (by omega)]
   simp) (fun s => rfl) with ⟨h1, h2⟩ | ⟨h1, h2⟩
  ·rw [h1]
   exact ⟨true, rfl, ⟨fun _ => (Z8g hlen).1 h2, fun _ => rfl⟩⟩
  ·rw [h1]
   refine ⟨false, rfl, by simp only [Bool.false_eq_true, false_iff]; exact fun h => h2 ((Z8g hlen).2 h)⟩
 ·rw [bne_t (by omega), cond_true]
  refine ⟨false, rfl, by simp only [Bool.false_eq_true, false_iff]; rintro rfl; exact hlen (by simp)⟩

end Go.Dn

namespace Go.Dn
open Go

noncomputable def cs (f : Form) (i : Int) : List Span := (Z1T f i).map (Zh (Z3f f i))

theorem Z1F (l : List Span) (a b : Int) : (l.map (Zh a)).map (Zh b) = l.map (Zh (a + b)) := by
 rw [List.map_map]
 congr 1
 funext s
 simp only [Function.comp, Zh, Span.mk.injEq]
 omega

theorem shift_inj {a b : List Span} {d : Int} (h : a.map (Zh d) = b.map (Zh d)) : a = b := by
 have := congrArg (List.map (Zh (-d))) h
 rw [Z1F, Z1F, Int.add_right_neg, Z5x, Z5x] at this
 exact this

theorem Z56 {f : Form} (h0 : f.Count ≠ 0) (i : Int) : cs f (i + f.Count) = (cs f i).map (Zh f.Period) := by
 unfold cs Z1T Z3f
 rw [Z1F, Int.add_emod_right, Int.add_ediv_of_dvd_right (Int.dvd_refl _), Int.ediv_self h0, Int.add_mul, Int.one_mul]

theorem Z4B {f : Form} (h0 : f.Count ≠ 0) (i k : Int) : cs f (i + f.Count * k) = (cs f i).map (Zh (k * f.Period)) := by
 unfold cs Z1T Z3f
 rw [Z1F, Int.add_mul_emod_self_left, Int.add_mul_ediv_left _ _ h0, Int.add_mul]

theorem Z2M {f : Form} {i : Int} (h0 : 0 ≤ i) (h1 : i < f.Count) : cs f i = f.Core.getD i.toNat [] := by
 unfold cs Z1T Z3f
 rw [Int.emod_eq_of_lt h0 h1, Int.ediv_eq_zero_of_lt h0 h1, Int.zero_mul, Z5x]

def TurnZ (f : Form) (d q : Int) : Prop := ∀ i, cs f (i + d) = (cs f i).map (Zh q)

theorem turn_of {f : Form} (h0 : 0 < f.Count) {d q : Int} (h : ∀ i, 0 ≤ i → i < f.Count → cs f (i + d) = (cs f i).map (Zh q)) : TurnZ f d q := by
 intro i
 have e : i = i % f.Count + f.Count * (i / f.Count) := (Int.emod_add_mul_ediv i f.Count).symm
 have h1 := h (i % f.Count) (Int.emod_nonneg i (by omega)) (Int.emod_lt_of_pos i h0)
 have e2 : i + d = (i % f.Count + d) + f.Count * (i / f.Count) := by omega
 rw [e2, Z4B (by omega), h1]
 conv => rhs; rw [e, Z4B (by omega)]
 rw [Z1F, Z1F, Int.add_comm]

def Z58 (f : Form) (d k : Int) : Int := if k + d ≥ f.Count then k + d - f.Count else k + d
def Z6C (f : Form) (d k : Int) : Int := if k + d ≥ f.Count then f.Period else 0

theorem wrap_cs {f : Form} {d k : Int} (hd : 1 ≤ d) (hdn : d ≤ f.Count) (h0 : 0 ≤ k) (h1 : k < f.Count) : 0 ≤ Z58 f d k ∧ Z58 f d k < f.Count ∧ cs f (k + d) = (cs f (Z58 f d k)).map (Zh (Z6C f d k)) := by
 unfold Z58 Z6C
 by_cases h : k + d ≥ f.Count
 ·rw [if_pos h, if_pos h]
  refine ⟨by omega, by omega, ?_⟩
  rw [← Z56 (by omega)]
  congr 1; omega
 ·rw [if_neg h, if_neg h, Z5x]
  exact ⟨by omega, by omega, rfl⟩

theorem canon_turn_eq {f : Form} (hl : Lim f) (hs : Shape f) {d q : Int} (hd : 1 ≤ d) (hdn : d ≤ f.Count) (hq : 0 ≤ q ∧ q ≤ 1099511627776) : ∃ r, Z0i f d q = some r ∧ (r = true ↔ TurnZ f d q) := by
 have hcl : (f.Core.length : Int) < 4611686018427387904 := Z2f (b := 23) hl.core
 have hcnt := hs.count
 have key : ∀ k : Int, 0 ≤ k → k < f.Count → (cs f (Z58 f d k) = (cs f k).map (Zh (q - Z6C f d k)) ↔ cs f (k + d) = (cs f k).map (Zh q)) := fun k k0 k1 => by
  obtain ⟨_, _, h⟩ := wrap_cs hd hdn k0 k1
  rw [h]
  constructor
  ·intro e
   rw [e, Z1F]
   congr 2; omega
  ·intro e
   apply shift_inj (d := Z6C f d k)
   rw [e, Z1F]
   congr 2; omega
 unfold Z0i
 rcases Z3a (l := f.Core) (step := Z0i.s0 f d q) (fun k x => cs f (Z58 f d k) = x.map (Zh (q - Z6C f d k))) (no := .ret false) (yes := .go ()) (fun k x hk hp => by
  have hlt := (List.getElem?_eq_some_iff.1 hk).1
  have hat : at? f.Core (k : Int) = some x := by rw [at?_nat hlt]; rw [List.getElem?_eq_getElem hlt] at hk; exact hk
  obtain ⟨w0, w1, _⟩ := wrap_cs (f := f) (k := (k : Int)) hd hdn (by omega) (by omega)
  have hx := hs.core x (List.mem_of_getElem? hk)
  have hlx := (hl.sets x (List.mem_of_getElem? hk)).1
  have hwl : (Z58 f d k).toNat < f.Core.length := by omega
  have hgw : cs f (Z58 f d k) = f.Core[(Z58 f d k).toNat] := by rw [Z2M w0 w1, List.getD_eq_getElem?_getD, List.getElem?_eq_getElem hwl]; rfl
  have hy := hs.core _ (List.getElem_mem hwl)
  have hat2 : at? f.Core (Z58 f d k) = some f.Core[(Z58 f d k).toNat] := at?_lt w0 (by omega)
  have hpk : (bif decide (w64 ((k : Int) + d) ≥ f.Count) then some (w64 (w64 ((k : Int) + d) - f.Count), f.Period) else some (w64 ((k : Int) + d), 0)) = some (Z58 f d k, Z6C f d k) := by
   rw [ZQ (show _ by omega)]
   unfold Z58 Z6C
   by_cases h : (k : Int) + d ≥ f.Count
   ·rw [Ze h, cond_true, if_pos h, if_pos h, ZQ (show _ by omega)]
   ·rw [Zm h, cond_false, if_neg h, if_neg h]
  obtain ⟨r, h1, h2⟩ := Z86 (d := q - Z6C f d k) hx hy hlx
  have hwp : 0 ≤ Z6C f d k ∧ Z6C f d k ≤ 1099511627776 := by have := hs.per; unfold Z6C; split <;> omega
  unfold Z0i.s0
  rw [Ze (show (k : Int) < f.Core.length by omega), cond_true, hat]
  simp only [Option.bind_some, hpk, hat2]
  rw [ZQ (show _ by omega), h1]
  simp only [Option.bind_some]
  rw [hgw]
  cases r with
  | true => exact .inl ⟨by simp only [Bool.not_true, cond_false, Option.bind_some, Jx.elim]; rw [ZQ (show _ by omega)], h2.1 rfl⟩
  | false => exact .inr ⟨rfl, fun h => by have := h2.2 h; cases this⟩) (by
  unfold Z0i.s0; rw [Zm (by omega)]; rfl) with ⟨h1, h2⟩ | ⟨h1, h2⟩
 ·rw [h1]
  refine ⟨true, rfl, ⟨fun _ => turn_of (by omega) fun i i0 i1 => ?_, fun _ => rfl⟩⟩
  have hlt : i.toNat < f.Core.length := by omega
  have := h2 i.toNat _ (List.getElem?_eq_getElem hlt)
  rw [Int.toNat_of_nonneg i0] at this
  refine (key i i0 i1).1 ?_
  rw [this, Z2M i0 i1, List.getD_eq_getElem?_getD, List.getElem?_eq_getElem hlt]; rfl
 ·rw [h1]
  refine ⟨false, rfl, ⟨(fun h => nomatch h), fun ht => absurd (fun k x hk => ?_) h2⟩⟩
  have hlt := (List.getElem?_eq_some_iff.1 hk).1
  have := (key k (by omega) (by omega)).2 (ht k)
  rw [this, Z2M (by omega) (by omega), List.getD_eq_getElem?_getD, Int.toNat_natCast, hk]; rfl

end Go.Dn

namespace Go.Dn
open Go

structure Good (f : Form) (d : Int) : Prop where
 pos : 1 ≤ d
 dvd : d ∣ f.Count
 rest : f.Period % (f.Count / d) = 0
 turn : TurnZ f d (f.Period / (f.Count / d))

theorem good_self {f : Form} (h0 : 0 < f.Count) : Good f f.Count := by
 have e : f.Count / f.Count = 1 := Int.ediv_self (by omega)
 exact ⟨by omega, Int.dvd_refl _, by rw [e]; omega, by rw [e, Int.ediv_one]; exact Z56 (by omega)⟩

theorem copy_loop {x4 : List (List Span)} (hc : x4.length * 24 ≤ reachBytes) (hs : ∀ l ∈ x4, Len l) : ZN (Zp.s1 x4) (0, []) = some x4 := by
 have hcl : (x4.length : Int) < 4611686018427387904 := Z2f (b := 23) hc
 have hr := Z18
 have hro := Z4V
 refine Z1K (I := fun s r => r = x4 ∧ ∃ k : Nat, k ≤ x4.length ∧ s = ((k : Int), x4.take k)) (fun s => x4.length - s.1.toNat) ?_ ⟨rfl, 0, Nat.zero_le _, rfl⟩
 rintro s r ⟨rfl, k, hk, rfl⟩
 unfold Zp.s1
 by_cases hlt : k < r.length
 ·left
  have hl := hs _ (List.getElem_mem hlt)
  unfold Len at hl
  have hcp : clone? 16 r[k] = some r[k] := by unfold clone?; rw [if_pos (by omega)]
  have hap : app? 24 (r.take k) [r[k]] = some (r.take (k + 1)) := by
   rw [app?_ok (by simp only [List.length_take, List.length_cons, List.length_nil]; have : min k r.length + 1 ≤ r.length := (by omega); have := Nat.mul_le_mul_right 24 this; omega)]
   rw [List.take_append_getElem hlt]
  refine ⟨((k : Int) + 1, r.take (k + 1)), ?_, ⟨rfl, k + 1, hlt, by push_cast; rfl⟩, by simp; omega⟩
  rw [Ze (show (k : Int) < r.length by omega), cond_true, at?_nat hlt]
  simp only [Option.bind_some, hcp, hap]
  rw [ZQ (show _ by omega)]
 ·right
  have : k = r.length := by omega
  subst this
  rw [Zm (show ¬ ((r.length : Int) < r.length) by omega), cond_false, List.take_length]

theorem core_b0_eq {f : Form} (hl : Lim f) (hs : Shape f) {d : Int} (hd : 1 ≤ d) (hdn : d ∣ f.Count) (h0 : 0 < f.Count) :
  (Good f d ∧ Zp.b0 f ([], 0, 0) d = some ((f.Core.take d.toNat, f.Period / (f.Count / d), d), 1)) ∨ (¬ Good f d ∧ Zp.b0 f ([], 0, 0) d = some (([], 0, 0), 0)) := by
 have hle : d ≤ f.Count := Int.le_of_dvd h0 hdn
 have hcl : (f.Core.length : Int) < 4611686018427387904 := Z2f (b := 23) hl.core
 have hcnt := hs.count
 have hm : 0 < f.Count / d := Int.ediv_pos_of_pos_of_dvd h0 (by omega) hdn
 have hmle : f.Count / d ≤ f.Count := Int.ediv_le_self _ (by omega)
 have htd : f.Count.tdiv d = f.Count / d := Int.tdiv_eq_ediv_of_nonneg (by omega)
 have hq : 0 ≤ f.Period / (f.Count / d) ∧ f.Period / (f.Count / d) ≤ 1099511627776 := by
  have h1 := hs.per
  have h2 : f.Period / (f.Count / d) ≤ f.Period := Int.ediv_le_self _ h1.1
  have h3 : 0 ≤ f.Period / (f.Count / d) := Int.ediv_nonneg h1.1 (by omega)
  omega
 have hfl : Z0r f.Period (w64 (f.Count.tdiv d)) = some (f.Period / (f.Count / d), f.Period % (f.Count / d), 0) := by
  rw [htd, ZQ (show _ by omega), Z2j hl.period (by unfold In64; omega), Z4G hm]
 unfold Zp.b0
 rw [nz?_ok (by omega), hfl]
 simp only [Option.bind_some]
 by_cases hr : f.Period % (f.Count / d) = 0
 ·rw [bne_f hr, cond_false]
  obtain ⟨r, h1, h2⟩ := canon_turn_eq hl hs hd hle hq
  rw [h1]
  cases r with
  | true =>
   left
   refine ⟨⟨hd, hdn, hr, h2.1 rfl⟩, ?_⟩
   have hcut : cut? f.Core 0 d = some (f.Core.take d.toNat) := by
    unfold cut?
    rw [if_pos ⟨by omega, by omega, by omega⟩]
    rfl
   simp only [Option.bind_some, Bool.not_true, cond_false, hcut]
   have := copy_loop (x4 := f.Core.take d.toNat) (by have := hl.core; simp only [List.length_take]; have h := Nat.mul_le_mul_right 24 (Nat.min_le_right d.toNat f.Core.length); omega) (fun l hl' => (hl.sets l (List.mem_of_mem_take hl')).1)
   rw [this]
   rfl
  | false =>
   right
   exact ⟨fun g => (by have := h2.2 g.turn; cases this), rfl⟩
 ·right
  refine ⟨fun g => hr g.rest, ?_⟩
  rw [bne_t hr]
  rfl

theorem least_good {f : Form} (h0 : 0 < f.Count) : ∃ d, Good f d ∧ ∀ d', Good f d' → d ≤ d' := by
 have : ∃ n : Nat, Good f n := ⟨f.Count.toNat, by rw [Int.toNat_of_nonneg (by omega)]; exact good_self h0⟩
 obtain ⟨n, hn⟩ := this
 induction n using Nat.strongRecOn with
 | _ n ih =>
  by_cases h : ∃ m : Nat, m < n ∧ Good f m
  ·obtain ⟨m, h1, h2⟩ := h
   exact ih m h1 h2
  ·refine ⟨n, hn, fun d' hd' => ?_⟩
   apply Classical.byContradiction
   intro hlt
   have := hd'.pos
   exact h ⟨d'.toNat, by omega, by rw [Int.toNat_of_nonneg (by omega)]; exact hd'⟩

theorem canon_bare_eq {f : Form} (hl : Lim f) : Z2u f = Z3O f := by
 unfold Z2u Z3O
 rfl

theorem canon_core_eq {f : Form} (hl : Lim f) (hs : Shape f) : (Bare f ∧ Zp f = some (Form.mk 0 0 [] [])) ∨
  (¬ Bare f ∧ 0 < f.Count ∧ ∃ d, Good f d ∧ (∀ d', Good f d' → d ≤ d') ∧ Zp f = some (Form.mk (f.Period / (f.Count / d)) d (f.Core.take d.toNat) [])) := by
 have hcl : (f.Core.length : Int) < 4611686018427387904 := Z2f (b := 23) hl.core
 have hcnt := hs.count
 obtain ⟨b, h1, h2⟩ := Z5Q hl
 unfold Zp
 rw [canon_bare_eq hl, h1]
 cases b with
 | true => exact .inl ⟨h2.1 rfl, rfl⟩
 | false =>
  right
  have hnb : ¬ Bare f := fun h => by have := h2.2 h; cases this
  have h0 : 0 < f.Count := by
   rcases Nat.eq_zero_or_pos f.Core.length with h | h
   ·exact absurd (fun l hl' => by rw [List.length_eq_zero_iff.1 h] at hl'; cases hl') hnb
   ·omega
  obtain ⟨d, hg, hmin⟩ := least_good h0
  refine ⟨hnb, h0, d, hg, hmin, ?_⟩
  have hdn : d ≤ f.Count := Int.le_of_dvd h0 hg.dvd
  have hd1 := hg.pos
  have hloop : ZN (Zu.s0 f.Count (Zk (Zp.b0 f))) (1, (([], 0, 0), 0)) = some (.ret ((f.Core.take d.toNat, f.Period / (f.Count / d), d), 1)) := by
   refine Z1K (I := fun s r => r = .ret ((f.Core.take d.toNat, f.Period / (f.Count / d), d), 1) ∧ ∃ k : Int, 1 ≤ k ∧ k ≤ d ∧ s = (k, (([], 0, 0), 0))) (fun s => (d - s.1).toNat) ?_ ⟨rfl, 1, by omega, hd1, rfl⟩
   rintro s r ⟨rfl, k, k1, k2, rfl⟩
   unfold Zu.s0
   rw [Ze (show k ≤ f.Count by omega), cond_true, nz?_ok (by omega)]
   simp only [Option.bind_some]
   by_cases hkd : k ∣ f.Count
   ·rw [beq_t (show f.Count.tmod k = 0 from Int.tmod_eq_zero_of_dvd hkd), cond_true]
    rcases core_b0_eq hl hs k1 hkd h0 with ⟨g, e⟩ | ⟨g, e⟩
    ·have : k = d := by have := hmin k g; omega
     subst this
     right
     simp only [Zk, if_true, e, Option.map_some, Option.bind_some]
     rfl
    ·left
     have hne : k ≠ d := fun h => g (h ▸ hg)
     refine ⟨(k + 1, (([], 0, 0), 0)), ?_, ⟨trivial, k + 1, by omega, by omega, rfl⟩, by simp; omega⟩
     simp only [Zk, if_true, e, Option.map_some, Option.bind_some]
     rw [ZQ (show _ by omega)]
     rfl
   ·left
    have hne : k ≠ d := fun h => hkd (h ▸ hg.dvd)
    refine ⟨(k + 1, (([], 0, 0), 0)), ?_, ⟨trivial, k + 1, by omega, by omega, rfl⟩, by simp; omega⟩
    rw [beq_f (fun h => hkd (Int.dvd_of_tmod_eq_zero h)), cond_false]
    simp only [Option.bind_some, cond_false]
    rw [ZQ (show _ by omega)]
  unfold Zu
  rw [hloop]
  rfl

end Go.Dn

namespace Go.Dn
open Go

def Turn (h : Int → List Span) (d q : Int) : Prop := ∀ i, h (i + d) = (h i).map (Zh q)

theorem Turn.neg {h : Int → List Span} {d q : Int} (t : Turn h d q) : Turn h (-d) (-q) := fun i => by
 have := t (i + -d)
 rw [show i + -d + d = i by omega] at this
 rw [this, Z1F, Int.add_right_neg, Z5x]

theorem Turn.add {h : Int → List Span} {d q d' q' : Int} (t : Turn h d q) (t' : Turn h d' q') : Turn h (d + d') (q + q') := fun i => by
 rw [show i + (d + d') = (i + d) + d' by omega, t', t, Z1F]

theorem Turn.zero (h : Int → List Span) : Turn h 0 0 := fun i => by rw [Int.add_zero, Z5x]

theorem Turn.nat {h : Int → List Span} {d q : Int} (t : Turn h d q) : ∀ k : Nat, Turn h (k * d) (k * q)
 | 0 => by simpa using Turn.zero h
 | k + 1 => by
  have := (Turn.nat t k).add t
  push_cast
  rw [Int.add_mul, Int.one_mul, Int.add_mul, Int.one_mul]
  exact this

theorem Turn.mul {h : Int → List Span} {d q : Int} (t : Turn h d q) (k : Int) : Turn h (k * d) (k * q) := by
 rcases Int.natAbs_eq k with e | e
 ·rw [e]; exact t.nat _
 ·rw [e, Int.neg_mul, Int.neg_mul]; exact (t.nat _).neg

theorem Turn.agree {h h' : Int → List Span} {d q a : Int} (t : Turn h d q) (t' : Turn h' d q) (hd : 0 < d) (he : ∀ i, a ≤ i → i < a + d → h i = h' i) : h = h' := by
 funext i
 have e : i = ((i - a) % d + a) + (i - a) / d * d := by
  have := Int.emod_add_mul_ediv (i - a) d
  rw [Int.mul_comm] at this
  omega
 have h1 := Int.emod_nonneg (i - a) (show d ≠ 0 by omega)
 have h2 := Int.emod_lt_of_pos (i - a) hd
 rw [e, t.mul, t'.mul, he _ (by omega) (by omega)]

noncomputable def csz (f : Form) (i : Int) : List Span := if f.Count = 0 then [] else cs f i

theorem Z36 {f : Form} (h0 : 0 < f.Count) : csz f = cs f := by funext i; exact if_neg (by omega)
theorem Z31 {f : Form} {i : Int} (h : ¬ Z0H f i) : ZY f i = csz f i := by
 unfold csz
 by_cases h0 : f.Count = 0
 ·rw [if_pos h0, Z1j h h0]
 ·rw [if_neg h0, Z2W h h0]; rfl
theorem csz_bare {f : Form} (hs : Shape f) (hb : Bare f) (i : Int) : csz f i = [] := by
 unfold csz
 by_cases h0 : f.Count = 0
 ·rw [if_pos h0]
 ·rw [if_neg h0]; unfold cs; rw [hb _ (Z1i hs h0 i).2]; rfl

def Z20 (f c : Form) : Prop := (Bare f ∧ c = Form.mk 0 0 [] []) ∨ (¬ Bare f ∧ 0 < f.Count ∧ ∃ d, Good f d ∧ (∀ d', Good f d' → d ≤ d') ∧ c = Form.mk (f.Period / (f.Count / d)) d (f.Core.take d.toNat) [])

theorem canon_core_ok {f : Form} (hl : Lim f) (hs : Shape f) : ∃ c, Zp f = some c ∧ Z20 f c := by
 rcases canon_core_eq hl hs with ⟨h1, h2⟩ | ⟨h1, h2, d, h3, h4, h5⟩
 ·exact ⟨_, h2, .inl ⟨h1, rfl⟩⟩
 ·exact ⟨_, h5, .inr ⟨h1, h2, d, h3, h4, rfl⟩⟩

theorem Z20.odd {f c : Form} (h : Z20 f c) : c.Odd = [] := by
 rcases h with ⟨_, rfl⟩ | ⟨_, _, d, _, _, rfl⟩ <;> rfl

theorem Z20.csz {f c : Form} (hs : Shape f) (h : Z20 f c) : csz c = csz f := by
 rcases h with ⟨hb, rfl⟩ | ⟨hb, h0, d, hg, _, rfl⟩
 ·funext i; rw [csz_bare hs hb]; rfl
 ·have hd := hg.pos
  have hdn : d ≤ f.Count := Int.le_of_dvd h0 hg.dvd
  have hcnt := hs.count
  rw [Z36 h0, Z36 (show 0 < (Form.mk (f.Period / (f.Count / d)) d (f.Core.take d.toNat) []).Count by show 0 < d; omega)]
  refine Turn.agree (a := 0) (d := d) (q := f.Period / (f.Count / d)) (Z56 (f := Form.mk (f.Period / (f.Count / d)) d (f.Core.take d.toNat) []) (show d ≠ 0 by omega)) hg.turn (by omega) (fun i i0 i1 => ?_)
  rw [Z2M i0 (show i < d by omega), Z2M i0 (by omega)]
  show (f.Core.take d.toNat).getD i.toNat [] = _
  rw [List.getD_eq_getElem?_getD, List.getD_eq_getElem?_getD, List.getElem?_take_of_lt (by omega)]

theorem Z20.shape {f c : Form} (hs : Shape f) (h : Z20 f c) : Shape c := by
 rcases h with ⟨hb, rfl⟩ | ⟨hb, h0, d, hg, _, rfl⟩
 ·exact ⟨rfl, by simp, by simp, by simp, by simp, fun j k a b _ h => by simp at h⟩
 ·have hd := hg.pos
  have hdn : d ≤ f.Count := Int.le_of_dvd h0 hg.dvd
  have hcnt := hs.count
  have hm : 0 < f.Count / d := Int.ediv_pos_of_pos_of_dvd h0 (by omega) hg.dvd
  have hp : 0 < f.Period := by
   have := hs.per; have := hs.zero
   rcases Int.lt_or_le 0 f.Period with h | h
   ·exact h
   ·have : f.Period = 0 := by omega
    have := hs.zero.2 this
    omega
  have hq : 0 < f.Period / (f.Count / d) := Int.ediv_pos_of_pos_of_dvd hp (by omega) (Int.dvd_of_emod_eq_zero hg.rest)
  have hq2 : f.Period / (f.Count / d) ≤ f.Period := Int.ediv_le_self _ (by omega)
  refine ⟨?_, ?_, ?_, ?_, by simp, fun j k a b _ h => by simp at h⟩
  ·simp only [List.length_take]; omega
  ·simp only; omega
  ·simp only; have := hs.per; omega
  ·intro l hl'; exact hs.core l (List.mem_of_mem_take hl')

theorem Z20.lim {f c : Form} (hl : Lim f) (hs : Shape f) (h : Z20 f c) : Lim c := by
 have hsc := h.shape hs
 have hn : c.Core.length ≤ f.Core.length ∧ ∀ l ∈ c.Core, l ∈ f.Core := by
  rcases h with ⟨hb, rfl⟩ | ⟨hb, h0, d, hg, _, rfl⟩
  ·exact ⟨Nat.zero_le _, fun l hl' => by cases hl'⟩
  ·exact ⟨by simp only [List.length_take]; omega, fun l hl' => List.mem_of_mem_take hl'⟩
 have hc := hl.core
 have h24 := Nat.mul_le_mul_right 24 hn.1
 have hp := hsc.per
 have hcnt := hsc.count
 have hcl : (f.Core.length : Int) < 4611686018427387904 := Z2f (b := 23) hl.core
 exact ⟨by omega, fun l hl' => hl.sets l (hn.2 l hl'), by rw [h.odd]; simp [Z18], by rw [h.odd]; simp, by unfold In64; omega, by unfold In64; omega⟩

theorem Z20.ZY {f c : Form} (hs : Shape f) (h : Z20 f c) (i : Int) : ZY c i = Go.Dn.csz f i := by
 rw [Z31 (by rintro ⟨g, hg, _⟩; rw [h.odd] at hg; cases hg), h.csz hs]

theorem Z9r {f c : Form} (hl : Lim f) (hs : Shape f) (h : Z20 f c) {g : Granule} (hg : g ∈ f.Odd) : ∃ r, Z2V c g = some r ∧ (r = true ↔ csz f g.Index = g.Ticks) := by
 obtain ⟨hr, ht⟩ := hs.odd g hg
 have hlc := h.lim hl hs
 have hsc := h.shape hs
 unfold Z2V
 rw [Z6H hlc hsc (Z2e ht)]
 by_cases hf : fits c g.Index
 ·rw [if_pos ⟨ht, hf⟩]
  obtain ⟨r, h1, h2⟩ := spans_Same_eq (a := Go.Dn.ZY c g.Index) (b := g.Ticks) (Z8H hlc hsc _)
  refine ⟨r, ?_, ?_⟩
  ·simp only [Option.bind_some]
   rw [beq_t rfl, cond_true, h1]; rfl
  ·rw [h2, h.ZY hs]
 ·rw [if_neg (fun h' => hf h'.2)]
  refine ⟨false, rfl, ⟨(fun h' => nomatch h'), fun e => absurd (fun s hs' => ?_) hf⟩⟩
  rw [h.ZY hs, e] at hs'
  obtain ⟨k, hk⟩ := List.getElem?_of_mem hs'
  have := Z5I.1 hr k s hk
  exact ⟨this.1, this.2.1⟩

open Classical in
noncomputable def oddly (f : Form) (g : Granule) : Bool := decide (¬ csz f g.Index = g.Ticks)

noncomputable def Z4o (f c : Form) : Form := Form.mk c.Period c.Count c.Core (f.Odd.filter (oddly f))

theorem canon_Form_eq {f : Form} (hl : Lim f) (hs : Shape f) : ∃ c, Z20 f c ∧ Zl f = some (Z4o f c) := by
 obtain ⟨c, h1, hc⟩ := canon_core_ok hl hs
 refine ⟨c, hc, ?_⟩
 unfold Zl
 rw [h1]
 simp only [Option.bind_some]
 have hol : (f.Odd.length : Int) < 4611686018427387904 := Z2f (b := 31) hl.odd
 have hr := Z18
 have hro := Z4V
 have : ZN (Zl.s0 f c) (0, []) = some (f.Odd.filter (oddly f)) := by
  refine Z1K (I := fun s r => r = f.Odd.filter (oddly f) ∧ ∃ k : Nat, k ≤ f.Odd.length ∧ s = ((k : Int), (f.Odd.take k).filter (oddly f))) (fun s => f.Odd.length - s.1.toNat) ?_ ⟨rfl, 0, Nat.zero_le _, rfl⟩
  rintro s r ⟨rfl, k, hk, rfl⟩
  unfold Zl.s0
  by_cases hlt : k < f.Odd.length
  ·left
   have hmem := List.getElem_mem hlt
   obtain ⟨r, p1, p2⟩ := Z9r hl hs hc hmem
   have htk : f.Odd.take (k + 1) = f.Odd.take k ++ [f.Odd[k]] := (List.take_append_getElem hlt).symm
   have hlen := (hl.ticks _ hmem).2.1
   unfold Len at hlen
   refine ⟨((k : Int) + 1, (f.Odd.take (k + 1)).filter (oddly f)), ?_, ⟨rfl, k + 1, hlt, by push_cast; rfl⟩, by simp; omega⟩
   rw [Ze (show (k : Int) < f.Odd.length by omega), cond_true, at?_nat hlt]
   simp only [Option.bind_some, p1]
   rw [ZQ (show _ by omega), htk, List.filter_append]
   cases r with
   | true =>
    have : oddly f f.Odd[k] = false := by unfold oddly; rw [decide_eq_false_iff_not]; exact fun h => h (p2.1 rfl)
    simp only [Bool.not_true, cond_false, Option.bind_some, List.filter_cons, this, Bool.false_eq_true, if_false, List.filter_nil, List.append_nil]
   | false =>
    have : oddly f f.Odd[k] = true := by unfold oddly; rw [decide_eq_true_iff]; exact fun h => by have := p2.2 h; cases this
    have hcp : clone? 16 f.Odd[k].Ticks = some f.Odd[k].Ticks := by unfold clone?; rw [if_pos (by omega)]
    have hfl : ((f.Odd.take k).filter (oddly f)).length ≤ k := by
     have := List.length_filter_le (oddly f) (f.Odd.take k)
     simp only [List.length_take] at this
     omega
    have hap : app? 32 ((f.Odd.take k).filter (oddly f)) [Granule.mk f.Odd[k].Index f.Odd[k].Ticks] = some ((f.Odd.take k).filter (oddly f) ++ [f.Odd[k]]) := by
     rw [app?_ok (by simp only [List.length_cons, List.length_nil]; have h3 := hl.odd; have := Nat.mul_le_mul_right 32 (show ((f.Odd.take k).filter (oddly f)).length + 1 ≤ f.Odd.length by omega); omega)]
    simp only [Bool.not_false, cond_true, Option.bind_some, hcp, hap, List.filter_cons, this, if_true, List.filter_nil]
  ·right
   have : k = f.Odd.length := by omega
   subst this
   rw [Zm (show ¬ ((f.Odd.length : Int) < f.Odd.length) by omega), cond_false, List.take_length]
 rw [this]
 rfl

end Go.Dn

namespace Go.Dn
open Go

end Go.Dn

namespace Go.Dn
open Go

theorem Z7J {l : List Granule} : Inc l ↔ l.Pairwise (fun a b => a.Index < b.Index) := by
 rw [List.pairwise_iff_getElem]
 constructor
 ·intro h i j hi hj hij
  exact h i j _ _ hij (List.getElem?_eq_getElem hi) (List.getElem?_eq_getElem hj)
 ·intro h j k a b hjk ha hb
  obtain ⟨h1, rfl⟩ := List.getElem?_eq_some_iff.1 ha
  obtain ⟨h2, rfl⟩ := List.getElem?_eq_some_iff.1 hb
  exact h j k h1 h2 hjk

theorem Inc.filter {l : List Granule} (h : Inc l) (p : Granule → Bool) : Inc (l.filter p) := Z7J.2 ((Z7J.1 h).filter p)

theorem Z5c {f c : Form} (hs : Shape f) (h : Z20 f c) : csz (Z4o f c) = csz f := by
 rw [← h.csz hs]; rfl

theorem oddly_iff {f : Form} {g : Granule} : oddly f g = true ↔ ¬ csz f g.Index = g.Ticks := by unfold oddly; rw [decide_eq_true_iff]

theorem Z3J {f c : Form} {g : Granule} : g ∈ (Z4o f c).Odd ↔ g ∈ f.Odd ∧ oddly f g = true := List.mem_filter

theorem Z7U {f c : Form} (hs : Shape f) (h : Z20 f c) : ZY (Z4o f c) = ZY f := by
 funext i
 by_cases ho : Z0H f i
 ·obtain ⟨g, hg, rfl⟩ := ho
  rw [Z14 hs.inc hg]
  by_cases hod : oddly f g = true
  ·exact Z14 (hs.inc.filter _) (Z3J.2 ⟨hg, hod⟩)
  ·have he : csz f g.Index = g.Ticks := Classical.byContradiction fun hn => hod (oddly_iff.2 hn)
   rw [Z31 (f := Z4o f c), Z5c hs h, he]
   rintro ⟨g', hg', e⟩
   obtain ⟨m1, m2⟩ := Z3J.1 hg'
   have := hs.inc.uniq m1 hg e
   subst this
   exact hod m2
 ·rw [Z31 ho, Z31 (f := Z4o f c), Z5c hs h]
  rintro ⟨g', hg', e⟩
  exact ho ⟨g', (Z3J.1 hg').1, e⟩

theorem Z5T {f c : Form} (hs : Shape f) (h : Z20 f c) : Shape (Z4o f c) := by
 have := h.shape hs
 exact ⟨this.count, this.zero, this.per, this.core, fun g hg => hs.odd g (Z3J.1 hg).1, hs.inc.filter _⟩

theorem canonF_lim {f c : Form} (hl : Lim f) (hs : Shape f) (h : Z20 f c) : Lim (Z4o f c) := by
 have := h.lim hl hs
 refine ⟨this.core, this.sets, ?_, fun g hg => hl.ticks g (Z3J.1 hg).1, this.count, this.period⟩
 have h1 : (Z4o f c).Odd.length ≤ f.Odd.length := List.length_filter_le _ _
 have := hl.odd
 have := Nat.mul_le_mul_right 32 h1
 omega

theorem turns_of {f : Form} (hs : Shape f) (h : 0 < f.Count → ∀ i k, i < k → cs f i ≠ [] → cs f k ≠ [] → lstT (cs f i) < fstT (cs f k)) : Turns f := by
 have hcnt := hs.count
 have at_ : ∀ (j : Nat) (a : List Span), f.Core[j]? = some a → cs f j = a := fun j a ha => by
  have := (List.getElem?_eq_some_iff.1 ha).1
  rw [Z2M (by omega) (by omega), List.getD_eq_getElem?_getD, Int.toNat_natCast, ha]; rfl
 have hpw : f.Core.Pairwise (fun a b => a ≠ [] → b ≠ [] → lstT a < fstT b) := by
  rw [List.pairwise_iff_getElem]
  intro i j hi hj hij na nb
  have h1 := at_ i _ (List.getElem?_eq_getElem hi)
  have h2 := at_ j _ (List.getElem?_eq_getElem hj)
  have := h (by omega) i j (by omega) (by rw [h1]; exact na) (by rw [h2]; exact nb)
  rw [h1, h2] at this
  exact this
 constructor
 ·intro k a b ha hb
  have hp := hpw.filter (fun l => decide (l.length > 0))
  rw [List.pairwise_iff_getElem] at hp
  obtain ⟨h1, rfl⟩ := List.getElem?_eq_some_iff.1 ha
  obtain ⟨h2, rfl⟩ := List.getElem?_eq_some_iff.1 hb
  exact hp k (k + 1) h1 h2 (by omega) (Z2p.1 (List.getElem_mem h1)).2 (Z2p.1 (List.getElem_mem h2)).2
 ·intro a b ha hb
  obtain ⟨ma, na⟩ := Z2p.1 (List.mem_of_getLast? ha)
  obtain ⟨mb, nb⟩ := Z2p.1 (List.mem_of_head? hb)
  obtain ⟨j, hj⟩ := List.getElem?_of_mem ma
  obtain ⟨k, hk⟩ := List.getElem?_of_mem mb
  have hjl := (List.getElem?_eq_some_iff.1 hj).1
  have h1 := at_ j _ hj
  have h2 := at_ k _ hk
  have h3 : cs f ((k : Int) + f.Count) = b.map (Zh f.Period) := by rw [Z56 (by omega), h2]
  have := h (by omega) j ((k : Int) + f.Count) (by omega) (by rw [h1]; exact na) (by rw [h3]; simpa using nb)
  rw [h1, h3, (Z0W _ nb).2] at this
  exact this

theorem csz_order {f : Form} (hs : Shape f) (ht : Turns f) {i k : Int} (hik : i < k) (ni : csz f i ≠ []) (nk : csz f k ≠ []) : lstT (csz f i) < fstT (csz f k) := by
 have h0 : f.Count ≠ 0 := fun h => ni (by unfold csz; rw [if_pos h])
 unfold csz at ni nk ⊢
 rw [if_neg h0] at ni nk ⊢
 rw [if_neg h0]
 have n1 : Z1T f i ≠ [] := fun h => ni (by unfold cs; rw [h]; rfl)
 have n2 : Z1T f k ≠ [] := fun h => nk (by unfold cs; rw [h]; rfl)
 have := Z9z hs ht h0 hik n1 n2
 unfold cs
 rw [(Z0W _ n1).1, (Z0W _ n2).2]
 exact this

theorem beside_congr {f g : Form} (h : ZY g = ZY f) {i : Int} (hb : Beside f i) : Beside g i := by
 intro lo hi hlo hhi
 have hu : Under f i lo := by unfold Under at hlo ⊢; rw [h] at hlo; exact hlo
 have ha : Above f i hi := by unfold Above at hhi ⊢; rw [h] at hhi; exact hhi
 have := hb lo hi hu ha
 unfold BesideR fits at this ⊢
 rw [h]
 exact this

theorem canonF_right {f c : Form} (hr : RightF f) (h : Z20 f c) : RightF (Z4o f c) := by
 have hs := hr.shape
 refine ⟨Z5T hs h, turns_of (Z5T hs h) (fun h0 i k hik ni nk => ?_), fun g hg => beside_congr (Z7U hs h) (hr.beside g (Z3J.1 hg).1)⟩
 rw [← Z36 h0, Z5c hs h] at ni nk ⊢
 exact csz_order hs hr.turns hik ni nk

end Go.Dn

namespace Go.Dn
open Go

theorem Z8Y {α : Type} (g : α → Nat) : ∀ (n : Nat) (l : List α), ((l.take n).map g).sum ≤ (l.map g).sum
 | 0, l => by simp
 | n + 1, [] => by simp
 | n + 1, x :: l => by
  have := Z8Y g n l
  simp only [List.take_succ_cons, List.map_cons, List.sum_cons]; omega

theorem coreOf_le {f c : Form} (hs : Shape f) (h : Z20 f c) : c.Count ≤ f.Count ∧ c.Period ≤ f.Period ∧ c.Core.length ≤ f.Core.length ∧ (c.Core.map List.length).sum ≤ (f.Core.map List.length).sum := by
 have hp := hs.per
 have hcnt := hs.count
 rcases h with ⟨hb, rfl⟩ | ⟨hb, h0, d, hg, hmin, rfl⟩
 ·exact ⟨by simp only; omega, by simp only; omega, Nat.zero_le _, Nat.zero_le _⟩
 ·exact ⟨Int.le_of_dvd h0 hg.dvd, Int.ediv_le_self _ hp.1, by simp only [List.length_take]; omega, Z8Y _ _ _⟩

end Go.Dn

namespace Go.Dn
open Go

theorem shift_ne {l : List Span} (hn : l ≠ []) {a b : Int} (h : l.map (Zh a) = l.map (Zh b)) : a = b := by
 cases l with
 | nil => exact absurd rfl hn
 | cons s l =>
  simp only [List.map_cons, List.cons.injEq, Zh, Span.mk.injEq] at h
  omega

theorem Turn.uniq {h : Int → List Span} {d q q' : Int} (t : Turn h d q) (t' : Turn h d q') {i : Int} (hn : h i ≠ []) : q = q' := shift_ne hn ((t i).symm.trans (t' i))

theorem Z4K {f : Form} (h0 : 0 < f.Count) : Turn (cs f) f.Count f.Period := Z56 (by omega)

theorem cs_some {f : Form} (hs : Shape f) (hb : ¬ Bare f) (h0 : 0 < f.Count) (a : Int) : ∃ i, a ≤ i ∧ i < a + f.Count ∧ cs f i ≠ [] := by
 apply Classical.byContradiction
 intro hn
 apply hb
 have hz : cs f = fun _ => [] := Turn.agree (a := a) (Z4K h0) (fun i => rfl) h0 (fun i i0 i1 => Classical.byContradiction fun h => hn ⟨i, i0, i1, h⟩)
 intro l hl
 obtain ⟨k, hk⟩ := List.getElem?_of_mem hl
 have hkl := (List.getElem?_eq_some_iff.1 hk).1
 have hcnt := hs.count
 have := congrFun hz (k : Int)
 rw [Z2M (by omega) (by omega), List.getD_eq_getElem?_getD, Int.toNat_natCast, hk] at this
 exact this

def NearF (f : Form) (m : Int) : Prop := ∀ g ∈ f.Odd, -m ≤ g.Index ∧ g.Index ≤ m

end Go.Dn

namespace Go.Dn
open Go

end Go.Dn

namespace Go.Dn
open Go

theorem pigeon : ∀ (l : List Int) (c : Nat → Int), (∀ a b, c a = c b → a = b) → ∃ k, k ≤ l.length ∧ c k ∉ l
 | [], c, _ => ⟨0, Nat.le_refl _, by simp⟩
 | x :: l, c, hc => by
  by_cases h : ∃ k0, c k0 = x
  ·obtain ⟨k0, rfl⟩ := h
   obtain ⟨k, h1, h2⟩ := pigeon l (fun k => if k < k0 then c k else c (k + 1)) (fun a b hab => by
    split at hab <;> split at hab <;> have := hc _ _ hab <;> omega)
   split at h2
   ·rename_i hk
    refine ⟨k, by simp; omega, ?_⟩
    rw [List.mem_cons]
    rintro (h | h)
    ·have := hc _ _ h; omega
    ·exact h2 h
   ·rename_i hk
    refine ⟨k + 1, by simp; omega, ?_⟩
    rw [List.mem_cons]
    rintro (h | h)
    ·have := hc _ _ h; omega
    ·exact h2 h
  ·obtain ⟨k, h1, h2⟩ := pigeon l c hc
   refine ⟨k, by simp; omega, ?_⟩
   rw [List.mem_cons]
   rintro (h' | h')
   ·exact h ⟨k, h'⟩
   ·exact h2 h'

theorem free_core {f : Form} (hs : Shape f) (hb : ¬ Bare f) (h0 : 0 < f.Count) (ho : f.Odd.length ≤ 8) (a : Int) : ∃ j, a ≤ j ∧ j < a + f.Count * 9 ∧ ¬ Z0H f j ∧ ZY f j ≠ [] := by
 obtain ⟨i, h1, h2, h3⟩ := cs_some hs hb h0 a
 obtain ⟨k, hk, hn⟩ := pigeon (f.Odd.map (·.Index)) (fun k => i + f.Count * k) (fun a b hab => by
  have h4 : f.Count * (a : Int) = f.Count * b := by omega
  have := Int.eq_of_mul_eq_mul_left (by omega) h4
  omega)
 rw [List.length_map] at hk
 have hk9 : (k : Int) + 1 ≤ 9 := by omega
 have hkc : f.Count * ((k : Int) + 1) ≤ f.Count * 9 := Int.mul_le_mul_of_nonneg_left hk9 (by omega)
 rw [Int.mul_add, Int.mul_one] at hkc
 have hkn : 0 ≤ f.Count * (k : Int) := Int.mul_nonneg (by omega) (by omega)
 have hno : ¬ Z0H f (i + f.Count * k) := by
  rintro ⟨g, hg, he⟩
  exact hn (List.mem_map.2 ⟨g, hg, he⟩)
 refine ⟨i + f.Count * k, by omega, by omega, hno, ?_⟩
 rw [Z31 hno, Z36 h0, Z4B (by omega)]
 intro h
 rw [List.map_eq_nil_iff] at h
 exact h3 h

end Go.Dn

namespace Go.Dn
open Go

def Mid (x : Int) : Prop := -1000000000000000000 ≤ x ∧ x ≤ 1000000000000000000

end Go.Dn

namespace Go.Dn
open Go

end Go.Dn

namespace Go.Dn
open Go

def repC (f : Form) : Nat → List (List Span)
 | 0 => []
 | k + 1 => repC f k ++ f.Core.map (fun l => l.map (Zh (k * f.Period)))
theorem repC_len (f : Form) (n : Nat) : (repC f n).length = n * f.Core.length := by
 induction n with
 | zero => simp [repC]
 | succ n ih => simp [repC, ih, Nat.succ_mul]
theorem repC_one (f : Form) : repC f 1 = f.Core := by
 simp only [repC, List.nil_append]
 have : (fun l : List Span => l.map (Zh (((0 : Nat) : Int) * f.Period))) = id := by
  funext l; simp only [Int.natCast_zero, Int.zero_mul, id]; exact Z5x l
 rw [this, List.map_id]
theorem repC_get {f : Form} {n k j : Nat} (hk : k < n) (hj : j < f.Core.length) : (repC f n).getD (k * f.Core.length + j) [] = (f.Core.getD j []).map (Zh ((k : Nat) * f.Period)) := by
 induction n with
 | zero => omega
 | succ n ih =>
  simp only [repC]
  by_cases h : k < n
  ·rw [← ih h]
   have : k * f.Core.length + j < n * f.Core.length := by
    have : (k + 1) * f.Core.length ≤ n * f.Core.length := Nat.mul_le_mul_right _ (by omega)
    rw [Nat.add_mul, Nat.one_mul] at this
    omega
   simp only [List.getD_eq_getElem?_getD]
   rw [List.getElem?_append_left (by rw [repC_len]; exact this)]
  ·obtain rfl : k = n := by omega
   simp only [List.getD_eq_getElem?_getD]
   rw [List.getElem?_append_right (by rw [repC_len]; omega), repC_len, Nat.add_sub_cancel_left, List.getElem?_map, List.getElem?_eq_getElem hj]
   rfl

def FitK (f : Form) (k : Nat) : Prop := ∀ l ∈ f.Core, ∀ s ∈ l, ZP (s.From + k * f.Period) ∧ ZP (s.To + k * f.Period)

theorem turned_csz {f : Form} (hs : Shape f) {n : Nat} (h1 : 1 ≤ n) (o : List Granule) : csz (Form.mk (f.Period * n) (f.Count * n) (repC f n) o) = csz f := by
 have hcnt := hs.count
 by_cases h0 : f.Count = 0
 ·funext i
  unfold csz
  rw [if_pos h0, if_pos (by simp [h0])]
 ·have hp : 0 < f.Count := by omega
  have hpn : 0 < f.Count * n := Int.mul_pos hp (by omega)
  rw [Z36 hp, Z36 (show 0 < (Form.mk (f.Period * n) (f.Count * n) (repC f n) o).Count from hpn)]
  have t1 : Turn (cs f) (f.Count * n) (f.Period * n) := by
   have := (Z4K hp).mul n
   rwa [Int.mul_comm, Int.mul_comm (n : Int) f.Period] at this
  have t2 := Z4K (show 0 < (Form.mk (f.Period * n) (f.Count * n) (repC f n) o).Count from hpn)
  refine t2.agree t1 hpn (a := 0) fun i hi hi2 => ?_
  have hi2 : i < f.Count * n := by simpa using hi2
  rw [Z2M hi (by simpa using hi2)]
  have e : i = i % f.Count + f.Count * (i / f.Count) := (Int.emod_add_mul_ediv i f.Count).symm
  have m0 := Int.emod_nonneg i (show f.Count ≠ 0 by omega)
  have m1 := Int.emod_lt_of_pos i hp
  have d0 : 0 ≤ i / f.Count := Int.ediv_nonneg hi (by omega)
  have d1 : i / f.Count < n := by
   apply Int.ediv_lt_of_lt_mul hp
   rw [Int.mul_comm]; exact hi2
  have r : cs f i = (cs f (i % f.Count)).map (Zh (i / f.Count * f.Period)) := by
   conv => lhs; rw [e]
   exact Z4B (by omega) _ _
  rw [r, Z2M m0 m1]
  have hj : (i % f.Count).toNat < f.Core.length := by omega
  have hk : (i / f.Count).toNat < n := by omega
  have hg := repC_get hk hj
  have hix : i.toNat = (i / f.Count).toNat * f.Core.length + (i % f.Count).toNat := by
   have : ((i / f.Count).toNat : Int) = i / f.Count := Int.toNat_of_nonneg d0
   have q : (((i / f.Count).toNat * f.Core.length + (i % f.Count).toNat : Nat) : Int) = i := by
    push_cast
    rw [this, ← hcnt, Int.toNat_of_nonneg m0, Int.mul_comm]
    omega
   omega
  show (repC f n).getD i.toNat [] = _
  rw [hix, hg, Int.toNat_of_nonneg d0]

end Go.Dn

namespace Go.Dn
open Go

theorem Z8I {n : Int} (h0 : 0 ≤ n) (hn : n ≤ 4611686018427387904) {f : Int → Option Bool} {p : Int → Bool} (hf : ∀ z, 0 ≤ z → z < n → f z = some (p z)) (hm : ∀ a b, 0 ≤ a → a ≤ b → b < n → p a = true → p b = true) :
  ∃ r, Z0M n f = some r ∧ 0 ≤ r ∧ r ≤ n ∧ (∀ z, 0 ≤ z → z < r → p z = false) ∧ (∀ z, r ≤ z → z < n → p z = true) := by
 unfold Z0M
 obtain ⟨r, h1, h2⟩ := Z1V (step := Z0M.s0 f)
  (fun s => 0 ≤ s.1 ∧ s.1 ≤ s.2 ∧ s.2 ≤ n ∧ (∀ z, 0 ≤ z → z < s.1 → p z = false) ∧ (∀ z, s.2 ≤ z → z < n → p z = true))
  (fun s => (s.2 - s.1).toNat) (fun r => 0 ≤ r ∧ r ≤ n ∧ (∀ z, 0 ≤ z → z < r → p z = false) ∧ (∀ z, r ≤ z → z < n → p z = true)) (by
   rintro ⟨i, j⟩ ⟨a1, a2, a3, a4, a5⟩
   simp only at a1 a2 a3 a4 a5
   unfold Z0M.s0
   simp only
   by_cases hlt : i < j
   ·left
    rw [Ze hlt, cond_true]
    have e : w64 ((IntKind.u64.wrap (w64 (i + j))).fdiv (2 ^ 1)) = (i + j) / 2 := by
     rw [ZQ (x := i + j) (by omega), Z4w, Int.fdiv_eq_ediv_of_nonneg _ (by decide)]
     have : (2 ^ 1 : Int) = 2 := rfl
     rw [this, ZQ (by omega)]
     omega
    rw [e, hf _ (by omega) (by omega)]
    simp only [Option.bind_some]
    cases hp : p ((i + j) / 2) with
    | false =>
     simp only [Bool.not_false, cond_true, Option.bind_some]
     rw [ZQ (by omega)]
     refine ⟨_, rfl, ⟨by simp only; omega, by simp only; omega, a3, ?_, a5⟩, by simp only; omega⟩
     intro z z0 z1
     cases hz : p z with
     | false => rfl
     | true =>
      have := hm z ((i + j) / 2) z0 (by simp only at z1; omega) (by omega) hz
      rw [hp] at this; cases this
    | true =>
     simp only [Bool.not_true, cond_false, Option.bind_some]
     refine ⟨_, rfl, ⟨a1, by simp only; omega, by simp only; omega, a4, ?_⟩, by simp only; omega⟩
     intro z z0 z1
     exact hm ((i + j) / 2) z (by omega) z0 z1 hp
   ·right
    rw [Zm hlt, cond_false]
    exact ⟨_, rfl, a1, by omega, a4, fun z z0 z1 => a5 z (by omega) z1⟩) (0, n) ⟨by simp, h0, by simp, fun z z0 z1 => by simp only at z1; omega, fun z z0 z1 => by simp only at z0; omega⟩
 rw [h1]
 exact ⟨r, rfl, h2⟩

theorem hull_eq {l : List Span} (hl : Len l) : Z1l l = some (if l = [] then (⟨0, 0⟩, false) else (⟨fstT l, lstT l⟩, true)) := by
 have hlen := Z2f (b := 15) hl
 unfold Z1l
 by_cases h : l = []
 ·subst h; rfl
 ·have hp : 0 < l.length := List.length_pos_iff.2 h
  rw [if_neg h, beq_f (by omega), cond_false, ZQ (by omega)]
  have e1 : at? l 0 = some (l.head h) := by
   have := at?_nat (l := l) (k := 0) hp
   rw [show ((0 : Nat) : Int) = 0 from rfl] at this
   rw [this, List.head_eq_getElem]
  have e2 : at? l ((l.length : Int) - 1) = some (l.getLast h) := by
   have := at?_nat (l := l) (k := l.length - 1) (by omega)
   rw [show ((l.length - 1 : Nat) : Int) = (l.length : Int) - 1 by omega] at this
   rw [this, List.getLast_eq_getElem]
  rw [e1, e2]
  simp only [Option.bind_some]
  unfold fstT lstT
  rw [List.head?_eq_some_head h, List.getLast?_eq_some_getLast h]
  rfl

def Z65 (g : Form) (j : Nat) : Option size_spot := if g.Core.getD j [] = [] then none else some ⟨(j : Int), ⟨fstT (g.Core.getD j []), lstT (g.Core.getD j [])⟩⟩
def Z5U (g : Form) (k : Nat) : List size_spot := (List.range k).filterMap (Z65 g)
theorem spotsUp_succ (g : Form) (k : Nat) : Z5U g (k + 1) = Z5U g k ++ (Z65 g k).toList := by
 unfold Z5U
 rw [List.range_succ, List.filterMap_append]
 cases h : Z65 g k <;> simp [h]
theorem Z6E (g : Form) (k : Nat) : (Z5U g k).length ≤ k := by
 have := List.length_filterMap_le (Z65 g) (List.range k)
 rw [List.length_range] at this
 exact this
abbrev Z1Q (g : Form) : List size_spot := Z5U g g.Core.length

theorem made_eq {f g : Form} (hg : Zl f = some g) (hl : Lim g) (hc : g.Core.length ≤ 12) : Z1I f = some ⟨g, Z1Q g⟩ := by
 have hr := Z4V
 unfold Z1I
 rw [hg]
 simp only [Option.bind_some]
 have : ZN (Z1I.s0 g) (0, []) = some (Z1Q g) := by
  refine Z1K (I := fun s r => r = Z1Q g ∧ ∃ k : Nat, k ≤ g.Core.length ∧ s = ((k : Int), Z5U g k)) (fun s => g.Core.length - s.1.toNat) ?_ ⟨rfl, 0, Nat.zero_le _, rfl⟩
  rintro s r ⟨rfl, k, hk, rfl⟩
  unfold Z1I.s0
  by_cases hlt : k < g.Core.length
  ·left
   have hm := List.getElem_mem hlt
   have hgd : g.Core.getD k [] = g.Core[k] := by rw [List.getD_eq_getElem?_getD, List.getElem?_eq_getElem hlt]; rfl
   have hul := Z6E g k
   simp only
   rw [Ze (show (k : Int) < g.Core.length by omega), cond_true, at?_nat hlt]
   simp only [Option.bind_some]
   rw [hull_eq (hl.sets _ hm).1]
   simp only [Option.bind_some]
   have hsp := spotsUp_succ g k
   unfold Z65 at hsp
   rw [hgd] at hsp
   by_cases hne : g.Core[k] = []
   ·rw [if_pos hne]
    rw [if_pos hne] at hsp
    simp only [cond_false, Option.bind_some]
    rw [ZQ (by omega)]
    exact ⟨_, rfl, ⟨trivial, k + 1, hlt, by rw [hsp]; push_cast; simp⟩, by simp only; omega⟩
   ·rw [if_neg hne]
    rw [if_neg hne] at hsp
    simp only [cond_true]
    rw [app?_ok (by simp only [List.length_cons, List.length_nil]; omega)]
    simp only [Option.bind_some]
    rw [ZQ (by omega)]
    exact ⟨_, rfl, ⟨trivial, k + 1, hlt, by rw [hsp]; push_cast; simp⟩, by simp only; omega⟩
  ·right
   have : k = g.Core.length := by omega
   subst this
   rw [Zm (by simp only; omega), cond_false]
 rw [this]
 rfl

structure Spots (g : Form) (l : List size_spot) : Prop where
 mem : ∀ s ∈ l, 0 ≤ s.index ∧ s.index < g.Count ∧ cs g s.index ≠ [] ∧ s.place.first = fstT (cs g s.index) ∧ s.place.last = lstT (cs g s.index)
 all : ∀ j, 0 ≤ j → j < g.Count → cs g j ≠ [] → ∃ s ∈ l, s.index = j
 inc : l.Pairwise (fun a b => a.index < b.index)

theorem spots_ok {g : Form} (hs : Shape g) : Spots g (Z1Q g) := by
 have hcnt := hs.count
 have hcs : ∀ j : Nat, j < g.Core.length → cs g j = g.Core.getD j [] := fun j hj => by
  rw [Z2M (by omega) (by omega)]; rfl
 refine ⟨?_, ?_, ?_⟩
 ·intro s hs'
  obtain ⟨j, hj, hjs⟩ := List.mem_filterMap.1 hs'
  have hj := List.mem_range.1 hj
  unfold Z65 at hjs
  split at hjs
  ·cases hjs
  ·rename_i hne
   cases hjs
   refine ⟨by simp only; omega, by simp only; omega, ?_, ?_, ?_⟩ <;> simp only <;> rw [hcs j hj]
   exact hne
 ·intro j h0 h1 hne
  have hj : j.toNat < g.Core.length := by omega
  have e : ((j.toNat : Nat) : Int) = j := by omega
  have := hcs j.toNat hj
  rw [e] at this
  rw [this] at hne
  refine ⟨⟨(j.toNat : Int), ⟨fstT (g.Core.getD j.toNat []), lstT (g.Core.getD j.toNat [])⟩⟩, List.mem_filterMap.2 ⟨j.toNat, List.mem_range.2 hj, ?_⟩, e⟩
  unfold Z65
  rw [if_neg hne]
 ·unfold Z1Q Z5U
  rw [List.pairwise_filterMap]
  refine List.Pairwise.imp ?_ List.pairwise_lt_range
  intro a b hab x hx y hy
  unfold Z65 at hx hy
  split at hx <;> split at hy <;> simp_all
  subst hx hy
  simp only; omega

theorem Z50 {g : Form} (hs : Shape g) (ht : Turns g) (h0 : 0 < g.Count) {i k : Int} (hik : i < k) (ni : cs g i ≠ []) (nk : cs g k ≠ []) : lstT (cs g i) < fstT (cs g k) := by
 have := csz_order hs ht hik (by rw [Z36 h0]; exact ni) (by rw [Z36 h0]; exact nk)
 rwa [Z36 h0] at this
theorem Z2S {g : Form} (hs : Shape g) (h0 : 0 < g.Count) {j : Int} (j0 : 0 ≤ j) (j1 : j < g.Count) : RightL (cs g j) := by
 rw [Z2M j0 j1]
 have := hs.count
 have hj : j.toNat < g.Core.length := by omega
 rw [List.getD_eq_getElem?_getD, List.getElem?_eq_getElem hj]
 exact hs.core _ (List.getElem_mem hj)
theorem Z4S {g : Form} (h0 : 0 < g.Count) (i q : Int) : cs g (i + g.Count * q) = (cs g i).map (Zh (q * g.Period)) := Z4B (by omega) i q

def LastC (g : Form) (t i : Int) : Prop := cs g i ≠ [] ∧ fstT (cs g i) ≤ t ∧ ∀ k, i < k → cs g k ≠ [] → t < fstT (cs g k)
def FirstC (g : Form) (t i : Int) : Prop := cs g i ≠ [] ∧ t ≤ lstT (cs g i) ∧ ∀ k, k < i → cs g k ≠ [] → lstT (cs g k) < t

theorem at?_get {α : Type} {l : List α} {i : Int} (h0 : 0 ≤ i) (h1 : i < l.length) : ∃ x, at? l i = some x ∧ l[i.toNat]? = some x ∧ x ∈ l := by
 have h : i.toNat < l.length := by omega
 exact ⟨l[i.toNat], at?_lt h0 h1, List.getElem?_eq_getElem h, List.getElem_mem h⟩

theorem Z3u {g : Form} {l : List size_spot} (h : Spots g l) {a b : Nat} {x y : size_spot} (ha : l[a]? = some x) (hb : l[b]? = some y) (hab : a < b) : x.index < y.index := by
 have h1 := (List.getElem?_eq_some_iff.1 ha)
 have h2 := (List.getElem?_eq_some_iff.1 hb)
 obtain ⟨l1, e1⟩ := h1
 obtain ⟨l2, e2⟩ := h2
 have := List.pairwise_iff_getElem.1 h.inc a b l1 l2 hab
 rw [e1, e2] at this
 exact this

structure Fit (g : Form) : Prop where
 lim : Lim g
 shape : Shape g
 turns : Turns g
 few : g.Core.length ≤ 12
 odds : g.Odd.length ≤ 8

theorem Fit.per {g : Form} (h : Fit g) (h0 : 0 < g.Count) : 0 < g.Period := by
 have h1 := h.shape.per
 have h2 := h.shape.zero
 omega

def BigT (t : Int) : Prop := -4398046511104 ≤ t ∧ t ≤ 4398046511104

theorem Z4F {g : Form} (h0 : 0 < g.Count) (k : Int) : ∃ j q, 0 ≤ j ∧ j < g.Count ∧ k = j + g.Count * q ∧ cs g k = (cs g j).map (Zh (q * g.Period)) := by
 have e : k = k % g.Count + g.Count * (k / g.Count) := (Int.emod_add_mul_ediv k g.Count).symm
 refine ⟨k % g.Count, k / g.Count, Int.emod_nonneg k (by omega), Int.emod_lt_of_pos k h0, e, ?_⟩
 conv => lhs; rw [e]
 exact Z4S h0 _ _

theorem Z9t {n p : Int} (hp : 0 < p) (hn : -8796093022208 ≤ n ∧ n ≤ 8796093022208) : -8796093022208 ≤ n / p ∧ n / p ≤ 8796093022208 := by
 constructor
 ·have : -8796093022208 ≤ n / p ↔ -8796093022208 * p ≤ n := Int.le_ediv_iff_mul_le hp
  rw [this]
  have : -8796093022208 * p ≤ -8796093022208 * 1 := by omega
  omega
 ·by_cases h : 0 ≤ n
  ·have := Int.ediv_le_self p h; omega
  ·have := Int.ediv_neg_of_neg_of_pos (show n < 0 by omega) hp; omega

theorem ZA3 {q c : Int} (hq : -8796093022208 ≤ q ∧ q ≤ 8796093022208) (hc : 0 ≤ c ∧ c ≤ 12) : -105553116266496 ≤ q * c ∧ q * c ≤ 105553116266496 := by
 constructor
 ·have := Int.mul_le_mul_of_nonneg_right hq.1 hc.1
  omega
 ·have := Int.mul_le_mul_of_nonneg_right hq.2 hc.1
  omega

theorem Z7r {g : Form} (h : Fit g) (h0 : 0 < g.Count) {sp : List size_spot} (hsp : Spots g sp) (hn : sp ≠ []) (hln : sp.length ≤ 12) {t : Int} (ht : BigT t) :
  ∃ i, Z0C ⟨g, sp⟩ t false = some i ∧ LastC g t i ∧ -211106232532992 ≤ i ∧ i ≤ 211106232532992 := by
 unfold BigT at ht
 have hs := h.shape
 have hper := h.per h0
 have hper2 := hs.per
 have hcnt := hs.count
 have hfew := h.few
 have hlen : 0 < sp.length := List.length_pos_iff.2 hn
 obtain ⟨x5, a1, a2, a3⟩ := at?_get (l := sp) (i := 0) (by omega) (by omega)
 obtain ⟨b1, b2, b3, b4, b5⟩ := hsp.mem x5 a3
 have r5 := Z49 (Z2S hs h0 b1 b2) b3
 rw [← b4, ← b5] at r5
 unfold ZP at r5
 unfold Z0C
 rw [cond_false]
 simp only
 rw [a1]
 simp only [Option.bind_some]
 rw [ZQ (x := t - x5.place.first) (by omega), Z2j (by unfold In64; omega) (by unfold In64; omega), Z4G hper]
 simp only [Option.bind_some]
 have qb := Z9t hper (n := t - x5.place.first) (by omega)
 have qm := Int.emod_add_mul_ediv (t - x5.place.first) g.Period
 have q0 := Int.emod_nonneg (t - x5.place.first) (show g.Period ≠ 0 by omega)
 have q1 := Int.emod_lt_of_pos (t - x5.place.first) hper
 generalize (t - x5.place.first) / g.Period = q at *
 have qp : -10995116277760 ≤ q * g.Period ∧ q * g.Period ≤ 10995116277760 := by rw [Int.mul_comm]; omega
 obtain ⟨r, s1, s2, s3, s4, s5⟩ := Z8I (n := (sp.length : Int)) (by omega) (by omega)
  (f := fun z0 => Z1L z0 ⟨g, sp⟩ q t) (p := fun z => match sp[z.toNat]? with | some s => decide (s.place.first + q * g.Period > t) | none => true) (by
   intro z z0 z1
   obtain ⟨x, e1, e2, e3⟩ := at?_get (l := sp) z0 z1
   obtain ⟨c1, c2, c3, c4, c5⟩ := hsp.mem x e3
   have rx := Z49 (Z2S hs h0 c1 c2) c3
   rw [← c4, ← c5] at rx
   unfold ZP at rx
   unfold Z1L
   simp only
   rw [e1, e2]
   simp only [Option.bind_some]
   rw [ZQ (x := q * g.Period) (by omega), ZQ (by omega)]) (by
   intro a b a0 hab hb hp
   obtain ⟨x, e1, e2, e3⟩ := at?_get (l := sp) a0 (by omega)
   obtain ⟨y, f1, f2, f3⟩ := at?_get (l := sp) (show 0 ≤ b by omega) hb
   simp only [e2, f2, decide_eq_true_eq] at hp ⊢
   by_cases hne : a = b
   ·subst hne; rw [e2] at f2; cases f2; exact hp
   ·have hlt := Z3u hsp e2 f2 (by omega)
    obtain ⟨c1, c2, c3, c4, c5⟩ := hsp.mem x e3
    obtain ⟨d1, d2, d3, d4, d5⟩ := hsp.mem y f3
    have o1 := Z50 hs h.turns h0 hlt c3 d3
    have o2 := Z1k (Z2S hs h0 c1 c2) c3
    omega)
 rw [s1]
 simp only [Option.bind_some]
 have r1 : 1 ≤ r := by
  by_cases hr : 1 ≤ r
  ·exact hr
  ·have : r = 0 := by omega
   subst this
   have := s5 0 (by omega) (by omega)
   rw [show (0 : Int).toNat = 0 from rfl] at this
   rw [show (0 : Int).toNat = 0 from rfl] at a2
   simp only [a2, decide_eq_true_eq] at this
   rw [Int.mul_comm] at this
   omega
 rw [ZQ (x := r - 1) (by omega)]
 obtain ⟨x8, e1, e2, e3⟩ := at?_get (l := sp) (i := r - 1) (by omega) (by omega)
 rw [e1]
 simp only [Option.bind_some]
 obtain ⟨c1, c2, c3, c4, c5⟩ := hsp.mem x8 e3
 have hqc := ZA3 qb (c := g.Count) (by omega)
 rw [ZQ (x := q * g.Count) (by omega), ZQ (by omega)]
 refine ⟨_, rfl, ⟨?_, ?_, ?_⟩, by omega, by omega⟩
 ·rw [Int.mul_comm q, Z4S h0]; simpa using c3
 ·rw [Int.mul_comm q, Z4S h0, (Z0W _ c3).2, ← c4]
  have := s4 (r - 1) (by omega) (by omega)
  simp only [e2, decide_eq_false_iff_not] at this
  omega
 ·intro k hk hkn
  obtain ⟨j, q', j0, j1, rfl, ek⟩ := Z4F h0 k
  rw [ek] at hkn ⊢
  have hjn : cs g j ≠ [] := fun h => hkn (by rw [h]; rfl)
  rw [(Z0W _ hjn).2]
  obtain ⟨y, y1, rfl⟩ := hsp.all j j0 j1 hjn
  obtain ⟨d1, d2, d3, d4, d5⟩ := hsp.mem y y1
  obtain ⟨z, hz⟩ := List.getElem?_of_mem y1
  have hz2 := (List.getElem?_eq_some_iff.1 hz).1
  have fy : x5.place.first ≤ y.place.first := by
   by_cases hz0 : z = 0
   ·subst hz0
    rw [show (0 : Int).toNat = 0 from rfl] at a2
    rw [a2] at hz; cases hz; exact Int.le_refl _
   ·have hlt := Z3u hsp a2 hz (by omega)
    have o1 := Z50 hs h.turns h0 hlt b3 d3
    have o2 := Z1k (Z2S hs h0 b1 b2) b3
    omega
  rw [← d4]
  by_cases hqq : q' ≤ q
  ·have hqe : q' = q := by
    by_cases h' : q' = q
    ·exact h'
    ·have : g.Count * (q' + 1) ≤ g.Count * q := Int.mul_le_mul_of_nonneg_left (by omega) (by omega)
     rw [Int.mul_add, Int.mul_one] at this
     rw [Int.mul_comm q] at hk
     omega
   subst hqe
   rw [Int.mul_comm q'] at hk
   have hyi : x8.index < y.index := by omega
   have hzr : r ≤ (z : Int) := by
    by_cases h' : r ≤ (z : Int)
    ·exact h'
    ·by_cases h'' : z = (r - 1).toNat
     ·subst h''; rw [e2] at hz; cases hz; omega
     ·have := Z3u hsp hz e2 (by omega); omega
   have := s5 z hzr (by omega)
   rw [Int.toNat_natCast] at this
   simp only [hz, decide_eq_true_eq] at this
   omega
  ·have : g.Period * (q + 1) ≤ g.Period * q' := Int.mul_le_mul_of_nonneg_left (by omega) (by omega)
   rw [Int.mul_add, Int.mul_one] at this
   rw [Int.mul_comm q']
   omega

end Go.Dn

namespace Go.Dn
open Go

theorem ZA1 {g : Form} (h : Fit g) (h0 : 0 < g.Count) {sp : List size_spot} (hsp : Spots g sp) (hn : sp ≠ []) (hln : sp.length ≤ 12) {t : Int} (ht : BigT t) :
  ∃ i, Z0C ⟨g, sp⟩ t true = some i ∧ FirstC g t i ∧ -211106232532992 ≤ i ∧ i ≤ 211106232532992 := by
 unfold BigT at ht
 have hs := h.shape
 have hper := h.per h0
 have hper2 := hs.per
 have hcnt := hs.count
 have hfew := h.few
 have hlen : 0 < sp.length := List.length_pos_iff.2 hn
 obtain ⟨x5, a1, a2, a3⟩ := at?_get (l := sp) (i := (sp.length : Int) - 1) (by omega) (by omega)
 obtain ⟨b1, b2, b3, b4, b5⟩ := hsp.mem x5 a3
 have r5 := Z49 (Z2S hs h0 b1 b2) b3
 rw [← b4, ← b5] at r5
 unfold ZP at r5
 unfold Z0C
 rw [cond_true]
 simp only
 rw [ZQ (x := (sp.length : Int) - 1) (by omega), a1]
 simp only [Option.bind_some]
 rw [ZQ (x := x5.place.last - t) (by omega), Z2j (by unfold In64; omega) (by unfold In64; omega), Z4G hper]
 simp only [Option.bind_some]
 have qb := Z9t hper (n := x5.place.last - t) (by omega)
 have qm := Int.emod_add_mul_ediv (x5.place.last - t) g.Period
 have q0 := Int.emod_nonneg (x5.place.last - t) (show g.Period ≠ 0 by omega)
 have q1 := Int.emod_lt_of_pos (x5.place.last - t) hper
 generalize (x5.place.last - t) / g.Period = q at *
 have qp : -10995116277760 ≤ q * g.Period ∧ q * g.Period ≤ 10995116277760 := by rw [Int.mul_comm]; omega
 obtain ⟨r, s1, s2, s3, s4, s5⟩ := Z8I (n := (sp.length : Int)) (by omega) (by omega)
  (f := fun z0 => Z1J z0 ⟨g, sp⟩ q t) (p := fun z => match sp[z.toNat]? with | some s => decide (s.place.last - q * g.Period ≥ t) | none => true) (by
   intro z z0 z1
   obtain ⟨x, e1, e2, e3⟩ := at?_get (l := sp) z0 z1
   obtain ⟨c1, c2, c3, c4, c5⟩ := hsp.mem x e3
   have rx := Z49 (Z2S hs h0 c1 c2) c3
   rw [← c4, ← c5] at rx
   unfold ZP at rx
   unfold Z1J
   simp only
   rw [e1, e2]
   simp only [Option.bind_some]
   rw [ZQ (x := q * g.Period) (by omega), ZQ (by omega)]) (by
   intro a b a0 hab hb hp
   obtain ⟨x, e1, e2, e3⟩ := at?_get (l := sp) a0 (by omega)
   obtain ⟨y, f1, f2, f3⟩ := at?_get (l := sp) (show 0 ≤ b by omega) hb
   simp only [e2, f2, decide_eq_true_eq] at hp ⊢
   by_cases hne : a = b
   ·subst hne; rw [e2] at f2; cases f2; exact hp
   ·have hlt := Z3u hsp e2 f2 (by omega)
    obtain ⟨c1, c2, c3, c4, c5⟩ := hsp.mem x e3
    obtain ⟨d1, d2, d3, d4, d5⟩ := hsp.mem y f3
    have o1 := Z50 hs h.turns h0 hlt c3 d3
    have o2 := Z1k (Z2S hs h0 d1 d2) d3
    omega)
 rw [s1]
 simp only [Option.bind_some]
 have r1 : r < sp.length := by
  by_cases hr : r < sp.length
  ·exact hr
  ·have := s4 ((sp.length : Int) - 1) (by omega) (by omega)
   simp only [a2, decide_eq_false_iff_not] at this
   rw [Int.mul_comm] at this
   omega
 obtain ⟨x8, e1, e2, e3⟩ := at?_get (l := sp) (i := r) (by omega) (by omega)
 rw [e1]
 simp only [Option.bind_some]
 obtain ⟨c1, c2, c3, c4, c5⟩ := hsp.mem x8 e3
 have hqc := ZA3 qb (c := g.Count) (by omega)
 rw [ZQ (x := q * g.Count) (by omega), ZQ (by omega)]
 have ei : x8.index - q * g.Count = x8.index + g.Count * (-q) := by rw [Int.mul_neg, Int.mul_comm]; omega
 refine ⟨_, rfl, ⟨?_, ?_, ?_⟩, by omega, by omega⟩
 ·rw [ei, Z4S h0]; simpa using c3
 ·rw [ei, Z4S h0, (Z0W _ c3).1, ← c5]
  have := s5 r (by omega) (by omega)
  simp only [e2, decide_eq_true_eq] at this
  rw [Int.neg_mul]
  omega
 ·intro k hk hkn
  obtain ⟨j, q', j0, j1, rfl, ek⟩ := Z4F h0 k
  rw [ek] at hkn ⊢
  have hjn : cs g j ≠ [] := fun h => hkn (by rw [h]; rfl)
  rw [(Z0W _ hjn).1]
  obtain ⟨y, y1, rfl⟩ := hsp.all j j0 j1 hjn
  obtain ⟨d1, d2, d3, d4, d5⟩ := hsp.mem y y1
  obtain ⟨z, hz⟩ := List.getElem?_of_mem y1
  have hz2 := (List.getElem?_eq_some_iff.1 hz).1
  have fy : y.place.last ≤ x5.place.last := by
   by_cases hz0 : z = ((sp.length : Int) - 1).toNat
   ·subst hz0
    rw [a2] at hz; cases hz; exact Int.le_refl _
   ·have hlt := Z3u hsp hz a2 (by omega)
    have o1 := Z50 hs h.turns h0 hlt d3 b3
    have o2 := Z1k (Z2S hs h0 b1 b2) b3
    omega
  rw [← d5]
  by_cases hqq : -q ≤ q'
  ·have hqe : q' = -q := by
    by_cases h' : q' = -q
    ·exact h'
    ·have : g.Count * (-q + 1) ≤ g.Count * q' := Int.mul_le_mul_of_nonneg_left (by omega) (by omega)
     rw [Int.mul_add, Int.mul_one] at this
     rw [ei] at hk
     omega
   subst hqe
   rw [ei] at hk
   have hyi : y.index < x8.index := by omega
   have hzr : (z : Int) < r := by
    by_cases h' : (z : Int) < r
    ·exact h'
    ·by_cases h'' : z = r.toNat
     ·subst h''; rw [e2] at hz; cases hz; omega
     ·have := Z3u hsp e2 hz (by omega); omega
   have := s4 z (by omega) hzr
   rw [Int.toNat_natCast] at this
   simp only [hz, decide_eq_false_iff_not] at this
   rw [Int.neg_mul]
   omega
  ·have : g.Period * q' ≤ g.Period * (-q - 1) := Int.mul_le_mul_of_nonneg_left (by omega) (by omega)
   rw [Int.mul_sub, Int.mul_one, Int.mul_neg] at this
   rw [Int.mul_comm q']
   omega

def putB (b : Int × Bool) (n : Int) : Int × Bool := if b.2 = false ∨ n > b.1 then (n, true) else b
structure Best (S : Int → Prop) (b : Int × Bool) : Prop where
 yes : b.2 = true → S b.1 ∧ ∀ n, S n → n ≤ b.1
 no : b.2 = false → b.1 = 0 ∧ ∀ n, ¬ S n
theorem Best.put {S S' : Int → Prop} {b : Int × Bool} {n : Int} (h : Best S b) (hS : ∀ m, S' m ↔ S m ∨ m = n) : Best S' (putB b n) := by
 unfold putB
 split
 ·rename_i hc
  refine ⟨fun _ => ⟨(hS n).2 (.inr rfl), fun m hm => ?_⟩, fun h => by cases h⟩
  rcases (hS m).1 hm with h1 | h1
  ·cases hb : b.2 with
   | false => exact absurd h1 ((h.no hb).2 m)
   | true =>
    have := (h.yes hb).2 m h1
    rcases hc with h2 | h2
    ·rw [hb] at h2; cases h2
    ·simp only; omega
  ·subst h1; exact Int.le_refl _
 ·rename_i hc
  have hb : b.2 = true := by cases hb : b.2 <;> simp_all
  refine ⟨fun _ => ⟨(hS b.1).2 (.inl (h.yes hb).1), fun m hm => ?_⟩, fun h => by rw [hb] at h; cases h⟩
  rcases (hS m).1 hm with h1 | h1
  ·exact (h.yes hb).2 m h1
  ·subst h1
   have : ¬ (m > b.1) := fun h => hc (.inr h)
   omega
theorem Best.congr {S S' : Int → Prop} {b : Int × Bool} (h : Best S b) (hS : ∀ m, S' m ↔ S m) : Best S' b :=
 ⟨fun hb => ⟨(hS _).2 (h.yes hb).1, fun n hn => (h.yes hb).2 n ((hS n).1 hn)⟩, fun hb => ⟨(h.no hb).1, fun n hn => (h.no hb).2 n ((hS n).1 hn)⟩⟩
theorem Best.none {S : Int → Prop} (h : ∀ n, ¬ S n) : Best S (0, false) := ⟨fun h => by (cases h), fun _ => ⟨rfl, h⟩⟩
theorem Z5O (n b : Int) (c : Bool) : ZN (Z9.s1) (([n].length : Int), 0, [n], b, c) = some ([n], putB (b, c) n) := by
 rw [Z27]
 have e1 : Z9.s1 (([n].length : Int), 0, [n], b, c) = some (.inl (([n].length : Int), 1, [n], putB (b, c) n)) := by
  unfold Z9.s1
  simp only
  rw [Ze (show (0 : Int) < ([n].length : Int) by simp), cond_true, show at? [n] 0 = some n from rfl]
  simp only [Option.bind_some]
  unfold putB
  cases c with
  | false => rfl
  | true =>
   by_cases h : n > b
   ·simp only [h, decide_true, Bool.or_true, cond_true, or_true, if_true]; rfl
   ·simp only [h, decide_false, Bool.not_true, Bool.or_false, cond_false, Bool.true_eq_false, or_self, if_false]; rfl
 rw [e1]
 simp only
 rw [Z27]
 have e2 : Z9.s1 (([n].length : Int), 1, [n], putB (b, c) n) = some (.inr ([n], putB (b, c) n)) := by
  unfold Z9.s1
  simp only
  rw [Zm (show ¬ (1 : Int) < ([n].length : Int) by simp), cond_false]
 rw [e2]
theorem Z5N (n b : Int) (c : Bool) : ZN (Z9.s3) (([n].length : Int), 0, [n], b, c) = some ([n], putB (b, c) n) := by
 rw [Z27]
 have e1 : Z9.s3 (([n].length : Int), 0, [n], b, c) = some (.inl (([n].length : Int), 1, [n], putB (b, c) n)) := by
  unfold Z9.s3
  simp only
  rw [Ze (show (0 : Int) < ([n].length : Int) by simp), cond_true, show at? [n] 0 = some n from rfl]
  simp only [Option.bind_some]
  unfold putB
  cases c with
  | false => rfl
  | true =>
   by_cases h : n > b
   ·simp only [h, decide_true, Bool.or_true, cond_true, or_true, if_true]; rfl
   ·simp only [h, decide_false, Bool.not_true, Bool.or_false, cond_false, Bool.true_eq_false, or_self, if_false]; rfl
 rw [e1]
 simp only
 rw [Z27]
 have e2 : Z9.s3 (([n].length : Int), 1, [n], putB (b, c) n) = some (.inr ([n], putB (b, c) n)) := by
  unfold Z9.s3
  simp only
  rw [Zm (show ¬ (1 : Int) < ([n].length : Int) by simp), cond_false]
 rw [e2]
theorem Z9B (n b : Int) (c : Bool) : ZN (ZT.s1) (([n].length : Int), 0, [n], b, c) = some ([n], putB (b, c) n) := by
 rw [Z27]
 have e1 : ZT.s1 (([n].length : Int), 0, [n], b, c) = some (.inl (([n].length : Int), 1, [n], putB (b, c) n)) := by
  unfold ZT.s1
  simp only
  rw [Ze (show (0 : Int) < ([n].length : Int) by simp), cond_true, show at? [n] 0 = some n from rfl]
  simp only [Option.bind_some]
  unfold putB
  cases c with
  | false => rfl
  | true =>
   by_cases h : n > b
   ·simp only [h, decide_true, Bool.or_true, cond_true, or_true, if_true]; rfl
   ·simp only [h, decide_false, Bool.not_true, Bool.or_false, cond_false, Bool.true_eq_false, or_self, if_false]; rfl
 rw [e1]
 simp only
 rw [Z27]
 have e2 : ZT.s1 (([n].length : Int), 1, [n], putB (b, c) n) = some (.inr ([n], putB (b, c) n)) := by
  unfold ZT.s1
  simp only
  rw [Zm (show ¬ (1 : Int) < ([n].length : Int) by simp), cond_false]
 rw [e2]
theorem Z95 (n b : Int) (c : Bool) : ZN (ZT.s3) (([n].length : Int), 0, [n], b, c) = some ([n], putB (b, c) n) := by
 rw [Z27]
 have e1 : ZT.s3 (([n].length : Int), 0, [n], b, c) = some (.inl (([n].length : Int), 1, [n], putB (b, c) n)) := by
  unfold ZT.s3
  simp only
  rw [Ze (show (0 : Int) < ([n].length : Int) by simp), cond_true, show at? [n] 0 = some n from rfl]
  simp only [Option.bind_some]
  unfold putB
  cases c with
  | false => rfl
  | true =>
   by_cases h : n > b
   ·simp only [h, decide_true, Bool.or_true, cond_true, or_true, if_true]; rfl
   ·simp only [h, decide_false, Bool.not_true, Bool.or_false, cond_false, Bool.true_eq_false, or_self, if_false]; rfl
 rw [e1]
 simp only
 rw [Z27]
 have e2 : ZT.s3 (([n].length : Int), 1, [n], putB (b, c) n) = some (.inr ([n], putB (b, c) n)) := by
  unfold ZT.s3
  simp only
  rw [Zm (show ¬ (1 : Int) < ([n].length : Int) by simp), cond_false]
 rw [e2]
theorem Z8z (n b : Int) (c : Bool) : ZN (ZT.s4) (([n].length : Int), 0, [n], b, c) = some ([n], putB (b, c) n) := by
 rw [Z27]
 have e1 : ZT.s4 (([n].length : Int), 0, [n], b, c) = some (.inl (([n].length : Int), 1, [n], putB (b, c) n)) := by
  unfold ZT.s4
  simp only
  rw [Ze (show (0 : Int) < ([n].length : Int) by simp), cond_true, show at? [n] 0 = some n from rfl]
  simp only [Option.bind_some]
  unfold putB
  cases c with
  | false => rfl
  | true =>
   by_cases h : n > b
   ·simp only [h, decide_true, Bool.or_true, cond_true, or_true, if_true]; rfl
   ·simp only [h, decide_false, Bool.not_true, Bool.or_false, cond_false, Bool.true_eq_false, or_self, if_false]; rfl
 rw [e1]
 simp only
 rw [Z27]
 have e2 : ZT.s4 (([n].length : Int), 1, [n], putB (b, c) n) = some (.inr ([n], putB (b, c) n)) := by
  unfold ZT.s4
  simp only
  rw [Zm (show ¬ (1 : Int) < ([n].length : Int) by simp), cond_false]
 rw [e2]

end Go.Dn

namespace Go.Dn
open Go

theorem size_odd_eq {g : Form} {sp : List size_spot} (hl : Lim g) (hs : Shape g) (i : Int) : ∃ n, Z1g ⟨g, sp⟩ i = some n ∧ (0 ≤ n ↔ Z0H g i) := by
 obtain ⟨p, h1, h2, h3⟩ := Z9s (t := i) hl.odd hs.inc
 have e : Z5 g.Odd i (fun z0 z1 => some (Z26 z0 z1)) = some ((p : Int), decide (∃ x, g.Odd[p]? = some x ∧ x.Index = i)) := h3
 unfold Z1g
 simp only
 rw [e]
 simp only [Option.bind_some]
 by_cases hx : ∃ x, g.Odd[p]? = some x ∧ x.Index = i
 ·rw [Ze hx]
  refine ⟨(p : Int), rfl, fun _ => ?_, fun _ => by omega⟩
  obtain ⟨x, e1, e2⟩ := hx
  exact ⟨x, List.mem_of_getElem? e1, e2⟩
 ·rw [Zm hx]
  refine ⟨-1, rfl, fun h => by omega, ?_⟩
  rintro ⟨x, hx1, hx2⟩
  obtain ⟨k, hk⟩ := List.getElem?_of_mem hx1
  exfalso
  have hkp := h2 k x hk
  by_cases hkk : k = p
  ·subst hkk; exact hx ⟨x, hk, hx2⟩
  ·have : p < k := by omega
   have hlt := (List.getElem?_eq_some_iff.1 hk).1
   have hp : g.Odd[p]? = some (g.Odd[p]'(by omega)) := List.getElem?_eq_getElem (by omega)
   have q1 := h2 p _ hp
   have q2 := hs.inc p k _ x this hp hk
   omega

theorem has_eq {g : Form} {sp : List size_spot} (hl : Lim g) (hs : Shape g) (h0 : 0 < g.Count) {i : Int} (hi : In64 i) : Z2B ⟨g, sp⟩ i = some (decide (cs g i ≠ [])) := by
 unfold Z2B
 simp only
 rw [Z2j hi hl.count, Z4G h0]
 simp only [Option.bind_some]
 rw [(Z1i hs (by omega) i).1]
 simp only [Option.bind_some, Option.some.injEq, decide_eq_decide]
 unfold cs
 rw [ne_eq, List.map_eq_nil_iff]
 constructor
 ·intro h hn; rw [hn] at h; simp at h
 ·intro h; have := List.length_pos_iff.2 h; omega

theorem Z3z {g : Form} (h0 : 0 < g.Count) {i : Int} (h : ¬ Z0H g i) : ZY g i = cs g i := by rw [Z31 h, Z36 h0]

def byU (up : Bool) : Int := if up then 1 else -1
def sgU (up : Bool) : Int := if up then -1 else 1

theorem sg_w (up : Bool) {x : Int} (h : -4611686018427387904 ≤ x ∧ x ≤ 4611686018427387904) : w64 (w64 (0 - byU up) * x) = sgU up * x := by
 cases up
 ·show w64 (w64 (0 - (-1)) * x) = 1 * x
  rw [show w64 (0 - (-1)) = 1 from rfl, ZQ (by omega)]
 ·show w64 (w64 (0 - 1) * x) = -1 * x
  rw [show w64 (0 - 1) = -1 from rfl, ZQ (by omega)]
open Classical in
theorem walk_eq {g : Form} {sp : List size_spot} (h : Fit g) (h0 : 0 < g.Count) (hb : ¬ Bare g) (up : Bool) {i0 : Int} (hi : -211106232532992 ≤ i0 ∧ i0 ≤ 211106232532992) :
  ∃ i, ZN (Z9.s0 ⟨g, sp⟩ (byU up)) i0 = some i ∧ ¬ Z0H g i ∧ cs g i ≠ [] ∧ (if up then i0 ≤ i else i ≤ i0) ∧ -211106232533992 ≤ i ∧ i ≤ 211106232533992 ∧
   ∀ k, (if up then i0 ≤ k ∧ k < i else i < k ∧ k ≤ i0) → Z0H g k ∨ cs g k = [] := by
 have hs := h.shape
 have hcnt := hs.count
 have hfew := h.few
 obtain ⟨j, j1, j2, j3, j4⟩ := free_core hs hb h0 h.odds (if up then i0 else i0 - g.Count * 9 + 1)
 rw [Z3z h0 j3] at j4
 have hj : if up then i0 ≤ j ∧ j < i0 + 108 else j ≤ i0 ∧ i0 < j + 108 := by
  cases up
  ·simp only [Bool.false_eq_true, if_false] at j1 j2 ⊢; omega
  ·simp only [if_true] at j1 j2 ⊢; omega
 obtain ⟨r, q1, q2⟩ := Z1V (step := Z9.s0 ⟨g, sp⟩ (byU up))
  (fun i => (if up then i0 ≤ i ∧ i ≤ j else j ≤ i ∧ i ≤ i0) ∧ ∀ k, (if up then i0 ≤ k ∧ k < i else i < k ∧ k ≤ i0) → Z0H g k ∨ cs g k = [])
  (fun i => (if up then j - i else i - j).toNat)
  (fun i => (if up then i0 ≤ i ∧ i ≤ j else j ≤ i ∧ i ≤ i0) ∧ ¬ Z0H g i ∧ cs g i ≠ [] ∧ ∀ k, (if up then i0 ≤ k ∧ k < i else i < k ∧ k ≤ i0) → Z0H g k ∨ cs g k = []) (by
   rintro i ⟨a1, a2⟩
   have hi64 : -211106232533992 ≤ i ∧ i ≤ 211106232533992 := by
    cases up
    ·simp only [Bool.false_eq_true, if_false] at a1 hj; omega
    ·simp only [if_true] at a1 hj; omega
   unfold Z9.s0
   obtain ⟨n, n1, n2⟩ := size_odd_eq (sp := sp) h.lim hs i
   rw [n1]
   simp only [Option.bind_some]
   rw [has_eq h.lim hs h0 (by unfold In64; omega)]
   simp only [Option.bind_some]
   have hc : (bif decide (n ≥ 0) then some true else some (!decide (cs g i ≠ []))) = some (decide (Z0H g i ∨ cs g i = [])) := by
    by_cases ho : Z0H g i
    ·rw [Ze (n2.2 ho), cond_true, Ze (.inl ho)]
    ·rw [Zm (p := n ≥ 0) (fun h => ho (n2.1 h)), cond_false]
     by_cases he : cs g i = []
     ·rw [Ze (p := Z0H g i ∨ cs g i = []) (.inr he), Zm (p := cs g i ≠ []) (fun h => h he)]; rfl
     ·rw [Zm (p := Z0H g i ∨ cs g i = []) (fun h => h.elim ho he), Ze (p := cs g i ≠ []) he]; rfl
   rw [hc]
   simp only [Option.bind_some]
   by_cases hk : Z0H g i ∨ cs g i = []
   ·left
    rw [Ze hk, cond_true]
    have hij : i ≠ j := by
     rintro rfl
     exact hk.elim j3 j4
    have hw : w64 (i + byU up) = i + byU up := ZQ (by unfold byU; cases up <;> simp <;> omega)
    rw [hw]
    refine ⟨_, rfl, ⟨?_, ?_⟩, ?_⟩
    ·unfold byU
     cases up
     ·simp only [Bool.false_eq_true, if_false] at a1 ⊢; omega
     ·simp only [if_true] at a1 ⊢; omega
    ·intro k hkk
     by_cases hki : k = i
     ·subst hki; exact hk
     ·apply a2
      unfold byU at hkk
      cases up
      ·simp only [Bool.false_eq_true, if_false] at hkk ⊢; omega
      ·simp only [if_true] at hkk ⊢; omega
    ·unfold byU
     cases up
     ·simp only [Bool.false_eq_true, if_false] at a1 ⊢; omega
     ·simp only [if_true] at a1 ⊢; omega
   ·right
    rw [Zm hk, cond_false]
    exact ⟨_, rfl, a1, fun ho => hk (.inl ho), fun he => hk (.inr he), a2⟩) i0 ⟨by
     cases up
     ·simp only [Bool.false_eq_true, if_false] at hj ⊢; omega
     ·simp only [if_true] at hj ⊢; omega, fun k hk => by
     cases up
     ·simp only [Bool.false_eq_true, if_false] at hk; omega
     ·simp only [if_true] at hk; omega⟩
 refine ⟨r, q1, q2.2.1, q2.2.2.1, ?_, ?_, ?_, q2.2.2.2⟩ <;> have := q2.1 <;> cases up <;> simp only [Bool.false_eq_true, if_false, if_true] at this hj ⊢ <;> omega

def AtP (g : Form) (up : Bool) (t i : Int) : Prop := ZY g i ≠ [] ∧ (if up then t ≤ lstT (ZY g i) else fstT (ZY g i) ≤ t)

theorem hull_cond {l : List Span} {up : Bool} {t : Int} (hl : Len l) : ∃ x : Span × Bool, Z1l l = some x ∧ (x.2 && ((up && (decide (x.1.To ≥ t))) || ((!up) && (decide (x.1.From ≤ t))))) = decide (l ≠ [] ∧ (if up then t ≤ lstT l else fstT l ≤ t)) := by
 refine ⟨_, hull_eq hl, ?_⟩
 by_cases h : l = []
 ·rw [if_pos h]; simp [h]
 ·rw [if_neg h]
  cases up <;> simp [h]

open Classical in
theorem reach_loop {g : Form} {sp : List size_spot} (h : Fit g) (up : Bool) (t : Int) {b : Int × Bool} {S : Int → Prop} (hB : Best S b) :
  ∃ r, ZN (Z9.s2 ⟨g, sp⟩ t up (byU up)) (0, b.1, b.2) = some r ∧ Best (fun m => S m ∨ ∃ i, Z0H g i ∧ AtP g up t i ∧ m = sgU up * i) r := by
 have hs := h.shape
 have hl := h.lim
 have hodd := h.odds
 obtain ⟨r, q1, q2⟩ := Z1V (step := Z9.s2 ⟨g, sp⟩ t up (byU up))
  (fun s => ∃ (k : Nat) (c : Int × Bool), k ≤ g.Odd.length ∧ s = ((k : Int), c.1, c.2) ∧ Best (fun m => S m ∨ ∃ x ∈ g.Odd.take k, AtP g up t x.Index ∧ m = sgU up * x.Index) c)
  (fun s => g.Odd.length - s.1.toNat)
  (fun r => Best (fun m => S m ∨ ∃ i, Z0H g i ∧ AtP g up t i ∧ m = sgU up * i) r) (by
   rintro s ⟨k, c, hk, rfl, hc⟩
   unfold Z9.s2
   simp only
   by_cases hlt : k < g.Odd.length
   ·left
    have hm := List.getElem_mem hlt
    have htk : g.Odd.take (k + 1) = g.Odd.take k ++ [g.Odd[k]] := (List.take_append_getElem hlt).symm
    rw [Ze (show (k : Int) < g.Odd.length by omega), cond_true, at?_nat hlt]
    simp only [Option.bind_some]
    obtain ⟨x, x1, x2⟩ := hull_cond (l := g.Odd[k].Ticks) (up := up) (t := t) (hl.ticks _ hm).2.1
    rw [x1]
    simp only [Option.bind_some]
    rw [x2]
    have hset : ZY g g.Odd[k].Index = g.Odd[k].Ticks := Z14 hs.inc hm
    have hat : (g.Odd[k].Ticks ≠ [] ∧ (if up then t ≤ lstT g.Odd[k].Ticks else fstT g.Odd[k].Ticks ≤ t)) ↔ AtP g up t g.Odd[k].Index := by unfold AtP; rw [hset]
    have ht := (hs.odd _ hm).2
    unfold ZP at ht
    by_cases hcnd : AtP g up t g.Odd[k].Index
    ·rw [Ze (hat.2 hcnd), cond_true]
     have hw : w64 (w64 (0 - byU up) * g.Odd[k].Index) = sgU up * g.Odd[k].Index := sg_w up (by omega)
     rw [hw, Z5N]
     simp only [Option.bind_some]
     rw [ZQ (by omega)]
     refine ⟨_, rfl, ⟨k + 1, putB c (sgU up * g.Odd[k].Index), hlt, by push_cast; rfl, ?_⟩, by simp only; omega⟩
     refine hc.put fun m => ?_
     rw [htk]
     constructor
     ·rintro (h1 | ⟨y, hy, h1, h2⟩)
      ·exact .inl (.inl h1)
      ·rcases List.mem_append.1 hy with h3 | h3
       ·exact .inl (.inr ⟨y, h3, h1, h2⟩)
       ·rw [List.mem_singleton] at h3; subst h3; exact .inr h2
     ·rintro ((h1 | ⟨y, hy, h1, h2⟩) | h1)
      ·exact .inl h1
      ·exact .inr ⟨y, List.mem_append_left _ hy, h1, h2⟩
      ·exact .inr ⟨_, List.mem_append_right _ (List.mem_singleton.2 rfl), hcnd, h1⟩
    ·rw [Zm (fun h => hcnd (hat.1 h)), cond_false]
     simp only [Option.bind_some]
     rw [ZQ (by omega)]
     refine ⟨_, rfl, ⟨k + 1, c, hlt, by push_cast; rfl, ?_⟩, by simp only; omega⟩
     refine hc.congr fun m => ?_
     rw [htk]
     constructor
     ·rintro (h1 | ⟨y, hy, h1, h2⟩)
      ·exact .inl h1
      ·rcases List.mem_append.1 hy with h3 | h3
       ·exact .inr ⟨y, h3, h1, h2⟩
       ·rw [List.mem_singleton] at h3; subst h3; exact absurd h1 hcnd
     ·rintro (h1 | ⟨y, hy, h1, h2⟩)
      ·exact .inl h1
      ·exact .inr ⟨y, List.mem_append_left _ hy, h1, h2⟩
   ·right
    obtain rfl : k = g.Odd.length := by omega
    rw [Zm (by omega), cond_false]
    rw [List.take_length] at hc
    refine ⟨_, rfl, hc.congr fun m => ?_⟩
    constructor
    ·rintro (h1 | ⟨i, ⟨x, hx, rfl⟩, h1, h2⟩)
     ·exact .inl h1
     ·exact .inr ⟨x, hx, h1, h2⟩
    ·rintro (h1 | ⟨x, hx, h1, h2⟩)
     ·exact .inl h1
     ·exact .inr ⟨_, ⟨x, hx, rfl⟩, h1, h2⟩) (0, b.1, b.2) ⟨0, b, Nat.zero_le _, rfl, hB.congr fun m => by simp⟩
 exact ⟨r, q1, q2⟩

theorem spots_ne {g : Form} (hs : Shape g) (h0 : 0 < g.Count) (hb : ¬ Bare g) : Z1Q g ≠ [] := by
 obtain ⟨i, i1, i2, i3⟩ := cs_some hs hb h0 0
 obtain ⟨s, s1, s2⟩ := (spots_ok hs).all i i1 (by omega) i3
 exact List.ne_nil_of_mem s1

theorem sg_sg (up : Bool) (n : Int) : sgU up * (sgU up * n) = n := by unfold sgU; cases up <;> simp

theorem Z9S {g : Form} (h : Fit g) (hb : 0 < g.Count → ¬ Bare g) {t : Int} (ht : BigT t) (up : Bool) :
  ∃ n b, Z9 ⟨g, Z1Q g⟩ t up = some (n, b) ∧ Best (fun m => ∃ i, AtP g up t i ∧ m = sgU up * i) (sgU up * n, b) ∧ -300000000000000 ≤ n ∧ n ≤ 300000000000000 := by
 have hs := h.shape
 have hby : (bif up then some (1 : Int) else some (-1)) = some (byU up) := by unfold byU; cases up <;> rfl
 unfold Z9
 rw [hby]
 simp only [Option.bind_some]
 have key : ∃ b : Int × Bool, (bif (decide (g.Count > 0)) then
   (Z0C ⟨g, Z1Q g⟩ t up).bind fun x1 =>
   (ZN (Z9.s0 ⟨g, Z1Q g⟩ (byU up)) x1).bind fun (y3 : Int) =>
   (
    (ZN (Z9.s1) (([(w64 ((w64 (0 - (byU up))) * y3))].length : Int), 0, [(w64 ((w64 (0 - (byU up))) * y3))], 0, false)).bind fun (y6 : (List Int) × Int × Bool) =>
    some (y6.1, y6.2.1, y6.2.2)).bind fun (y5 : (List Int) × Int × Bool) =>
   some (y5.2.1, y5.2.2)
  else
   some (0, false)) = some b ∧ Best (fun m => ∃ i, ¬ Z0H g i ∧ AtP g up t i ∧ m = sgU up * i) b ∧ (b.2 = true → -211106232533992 ≤ b.1 ∧ b.1 ≤ 211106232533992) := by
  by_cases h0 : 0 < g.Count
  ·rw [Ze h0, cond_true]
   have hsp := spots_ok hs
   have hn := spots_ne hs h0 (hb h0)
   have hln : (Z1Q g).length ≤ 12 := Nat.le_trans (Z6E g _) h.few
   have hcore : ∃ i0, Z0C ⟨g, Z1Q g⟩ t up = some i0 ∧ (if up then FirstC g t i0 else LastC g t i0) ∧ -211106232532992 ≤ i0 ∧ i0 ≤ 211106232532992 := by
    cases up
    ·obtain ⟨i, e1, e2, e3⟩ := Z7r h h0 hsp hn hln ht
     exact ⟨i, e1, by simpa using e2, e3⟩
    ·obtain ⟨i, e1, e2, e3⟩ := ZA1 h h0 hsp hn hln ht
     exact ⟨i, e1, by simpa using e2, e3⟩
   obtain ⟨i0, c1, c2, c3⟩ := hcore
   obtain ⟨i, w1, w2, w3, w4, w5, w6, w7⟩ := walk_eq (sp := Z1Q g) h h0 (hb h0) up c3
   rw [c1]
   simp only [Option.bind_some]
   rw [w1]
   simp only [Option.bind_some]
   have hw : w64 (w64 (0 - byU up) * i) = sgU up * i := sg_w up (by omega)
   rw [hw, Z5O]
   simp only [Option.bind_some]
   refine ⟨_, rfl, ?_, ?_⟩
   ·show Best _ (sgU up * i, true)
    refine ⟨fun _ => ⟨⟨i, w2, ?_, rfl⟩, ?_⟩, fun h => by cases h⟩
    ·unfold AtP
     rw [Z3z h0 w2]
     refine ⟨w3, ?_⟩
     cases up
     ·simp only [Bool.false_eq_true, if_false] at c2 w4 ⊢
      by_cases hii : i = i0
      ·rw [hii]; exact c2.2.1
      ·have o1 := Z50 hs h.turns h0 (show i < i0 by omega) w3 c2.1
       obtain ⟨j, q, j0, j1, jk, ej⟩ := Z4F h0 i
       have hjn : cs g j ≠ [] := fun hh => w3 (by rw [ej, hh]; rfl)
       have o2 := Z1k (Z2S hs h0 j0 j1) hjn
       have o3 := Z0W (q * g.Period) hjn
       rw [← ej] at o3
       have := c2.2.1
       omega
     ·simp only [if_true] at c2 w4 ⊢
      by_cases hii : i = i0
      ·rw [hii]; exact c2.2.1
      ·have o1 := Z50 hs h.turns h0 (show i0 < i by omega) c2.1 w3
       obtain ⟨j, q, j0, j1, jk, ej⟩ := Z4F h0 i
       have hjn : cs g j ≠ [] := fun hh => w3 (by rw [ej, hh]; rfl)
       have o2 := Z1k (Z2S hs h0 j0 j1) hjn
       have o3 := Z0W (q * g.Period) hjn
       rw [← ej] at o3
       have := c2.2.1
       omega
    ·rintro m ⟨k, k1, k2, rfl⟩
     unfold AtP at k2
     rw [Z3z h0 k1] at k2
     cases up
     ·simp only [Bool.false_eq_true, if_false, sgU] at c2 w7 k2 ⊢
      by_cases hki : k ≤ i
      ·omega
      ·exfalso
       by_cases hk0 : k ≤ i0
       ·rcases w7 k ⟨by omega, hk0⟩ with h1 | h1
        ·exact k1 h1
        ·exact k2.1 h1
       ·have := c2.2.2 k (by omega) k2.1
        omega
     ·simp only [if_true, sgU] at c2 w7 k2 ⊢
      by_cases hki : i ≤ k
      ·omega
      ·exfalso
       by_cases hk0 : i0 ≤ k
       ·rcases w7 k ⟨hk0, by omega⟩ with h1 | h1
        ·exact k1 h1
        ·exact k2.1 h1
       ·have := c2.2.2 k (by omega) k2.1
        omega
   ·intro _
    show -211106232533992 ≤ sgU up * i ∧ sgU up * i ≤ 211106232533992
    unfold sgU
    cases up <;> simp only [Bool.false_eq_true, if_false, if_true] <;> omega
  ·rw [Zm h0, cond_false]
   refine ⟨_, rfl, Best.none ?_, fun h => by cases h⟩
   rintro n ⟨i, i1, i2, rfl⟩
   exact i2.1 (Z1j i1 (by have := hs.count; omega))
 obtain ⟨b, k1, k2, k3⟩ := key
 rw [k1]
 simp only [Option.bind_some]
 obtain ⟨r, r1, r2⟩ := reach_loop (sp := Z1Q g) h up t k2
 rw [r1]
 simp only [Option.bind_some]
 have hB : Best (fun m => ∃ i, AtP g up t i ∧ m = sgU up * i) r := r2.congr fun m => by
  constructor
  ·rintro ⟨i, i1, i2⟩
   by_cases ho : Z0H g i
   ·exact .inr ⟨i, ho, i1, i2⟩
   ·exact .inl ⟨i, ho, i1, i2⟩
  ·rintro (⟨i, i1, i2, i3⟩ | ⟨i, i1, i2, i3⟩)
   ·exact ⟨i, i2, i3⟩
   ·exact ⟨i, i2, i3⟩
 have hrb : -211106232533992 ≤ r.1 ∧ r.1 ≤ 211106232533992 := by
  cases hr : r.2 with
  | false => have := (r2.no hr).1; omega
  | true =>
   rcases (r2.yes hr).1 with h1 | ⟨i, ⟨x, hx, rfl⟩, i2, i3⟩
   ·cases hbb : b.2 with
    | false => exact absurd h1 ((k2.no hbb).2 _)
    | true =>
     have e1 := (k2.yes hbb).2 _ h1
     have e2 := (r2.yes hr).2 _ (.inl (k2.yes hbb).1)
     have := k3 hbb
     omega
   ·have := (hs.odd x hx).2
    unfold ZP at this
    rw [i3]
    unfold sgU
    cases up <;> simp only [Bool.false_eq_true, if_false, if_true] <;> omega
 have hw : w64 (w64 (0 - byU up) * r.1) = sgU up * r.1 := sg_w up (by omega)
 rw [hw]
 refine ⟨sgU up * r.1, r.2, rfl, ?_, ?_⟩
 ·rw [sg_sg]; exact hB
 ·unfold sgU
  cases up <;> simp only [Bool.false_eq_true, if_false, if_true] <;> omega

end Go.Dn

namespace Go.Dn
open Go

def CoreP (g : Form) (up : Bool) (d i j : Int) : Prop := cs g i ≠ [] ∧ cs g j ≠ [] ∧ (if up then d ≤ lstT (cs g j) - fstT (cs g i) else fstT (cs g j) - lstT (cs g i) ≤ d)
def Z11 (g : Form) (up : Bool) (d i j : Int) : Prop := ZY g i ≠ [] ∧ ZY g j ≠ [] ∧ (if up then d ≤ lstT (ZY g j) - fstT (ZY g i) else fstT (ZY g j) - lstT (ZY g i) ≤ d)

def BigI (n : Int) : Prop := -600000000000000 ≤ n ∧ n ≤ 600000000000000
theorem putB_big {b : Int × Bool} {n : Int} (hb : BigI b.1) (hn : BigI n) : BigI (putB b n).1 := by
 unfold putB; split
 ·exact hn
 ·exact hb
theorem sg_big {up : Bool} {n : Int} (h : BigI n) : BigI (sgU up * n) := by unfold BigI sgU at *; cases up <;> simp <;> omega
theorem Best.join {S W S' : Int → Prop} {b : Int × Bool} {m0 : Int} (h : Best S b) (hm : W m0) (hall : ∀ n, W n → n ≤ m0) (hS : ∀ m, S' m ↔ S m ∨ W m) : Best S' (putB b m0) := by
 have h1 := h.put (S' := fun m => S m ∨ m = m0) (n := m0) (fun m => Iff.rfl)
 refine ⟨fun hb => ⟨(hS _).2 ?_, fun n hn => ?_⟩, fun hb => ⟨(h1.no hb).1, fun n hn => ?_⟩⟩
 ·rcases (h1.yes hb).1 with h2 | h2
  ·exact .inl h2
  ·rw [h2]; exact .inr hm
 ·rcases (hS n).1 hn with h2 | h2
  ·exact (h1.yes hb).2 n (.inl h2)
  ·exact Int.le_trans (hall n h2) ((h1.yes hb).2 m0 (.inr rfl))
 ·exact (h1.no hb).2 m0 (.inr rfl)

theorem sgw2 (up : Bool) {x : Int} (h : BigI x) : w64 (sgU up * w64 x) = sgU up * x := by
 unfold BigI at h
 rw [ZQ (x := x) (by omega), ZQ]
 unfold sgU; cases up <;> simp <;> omega
theorem sg_le {up : Bool} {i n x : Int} (h : sgU up * i ≤ sgU up * n) : sgU up * (i - x) ≤ sgU up * (n - x) := by rw [Int.mul_sub, Int.mul_sub]; omega

theorem far_spots {g : Form} (h : Fit g) (hb : 0 < g.Count → ¬ Bare g) {d : Int} (hd : ZP d) (up : Bool) :
  ∃ r, ZN (ZT.s0 d up ⟨g, Z1Q g⟩ (sgU up)) (0, 0, false) = some r ∧ BigI r.1 ∧ Best (fun m => ∃ i j, 0 ≤ i ∧ i < g.Count ∧ CoreP g up d i j ∧ m = sgU up * (j - i)) r := by
 have hs := h.shape
 have hcnt := hs.count
 have hfew := h.few
 have hsp := spots_ok hs
 have hln : (Z1Q g).length ≤ 12 := Nat.le_trans (Z6E g _) h.few
 generalize Z1Q g = sp at *
 obtain ⟨r, q1, q2⟩ := Z1V (step := ZT.s0 d up ⟨g, sp⟩ (sgU up))
  (fun s => ∃ (k : Nat) (c : Int × Bool), k ≤ sp.length ∧ s = ((k : Int), c.1, c.2) ∧ BigI c.1 ∧ Best (fun m => ∃ x ∈ sp.take k, ∃ j, CoreP g up d x.index j ∧ m = sgU up * (j - x.index)) c)
  (fun s => sp.length - s.1.toNat)
  (fun r => BigI r.1 ∧ Best (fun m => ∃ i j, 0 ≤ i ∧ i < g.Count ∧ CoreP g up d i j ∧ m = sgU up * (j - i)) r) (by
   rintro s ⟨k, c, hk, rfl, hcb, hc⟩
   unfold ZT.s0
   simp only
   by_cases hlt : k < sp.length
   ·left
    have hm := List.getElem_mem hlt
    have htk : sp.take (k + 1) = sp.take k ++ [sp[k]] := (List.take_append_getElem hlt).symm
    obtain ⟨b1, b2, b3, b4, b5⟩ := hsp.mem _ hm
    have h0 : 0 < g.Count := by omega
    have rx := Z49 (Z2S hs h0 b1 b2) b3
    rw [← b4, ← b5] at rx
    unfold ZP at rx hd
    rw [Ze (show (k : Int) < sp.length by omega), cond_true, at?_nat hlt]
    simp only [Option.bind_some]
    have hy : (bif up then some sp[k].place.first else some sp[k].place.last) = some (if up then sp[k].place.first else sp[k].place.last) := by cases up <;> rfl
    rw [hy]
    simp only [Option.bind_some]
    have hyb : -1099511627776 ≤ (if up then sp[k].place.first else sp[k].place.last) ∧ (if up then sp[k].place.first else sp[k].place.last) ≤ 1099511627776 := by split <;> omega
    have hye : (if up then sp[k].place.first else sp[k].place.last) = if up then fstT (cs g sp[k].index) else lstT (cs g sp[k].index) := by rw [b4, b5]
    generalize (if up then sp[k].place.first else sp[k].place.last) = y at *
    rw [ZQ (x := y + d) (by omega)]
    have hn : sp ≠ [] := List.ne_nil_of_mem hm
    have hcore : ∃ i0, Z0C ⟨g, sp⟩ (y + d) up = some i0 ∧ (if up then FirstC g (y + d) i0 else LastC g (y + d) i0) ∧ -211106232532992 ≤ i0 ∧ i0 ≤ 211106232532992 := by
     cases up
     ·obtain ⟨i, e1, e2, e3⟩ := Z7r h h0 hsp hn hln (t := y + d) (by unfold BigT; omega)
      exact ⟨i, e1, by simpa using e2, e3⟩
     ·obtain ⟨i, e1, e2, e3⟩ := ZA1 h h0 hsp hn hln (t := y + d) (by unfold BigT; omega)
      exact ⟨i, e1, by simpa using e2, e3⟩
    obtain ⟨i0, c1, c2, c3⟩ := hcore
    rw [c1]
    simp only [Option.bind_some]
    have hbi : BigI (i0 - sp[k].index) := by unfold BigI; omega
    rw [sgw2 up hbi, Z9B]
    simp only [Option.bind_some]
    rw [ZQ (by omega)]
    refine ⟨_, rfl, ⟨k + 1, putB c (sgU up * (i0 - sp[k].index)), hlt, by push_cast; rfl, putB_big hcb (sg_big hbi), ?_⟩, by simp only; omega⟩
    refine hc.join (W := fun m => ∃ j, CoreP g up d sp[k].index j ∧ m = sgU up * (j - sp[k].index)) ?_ ?_ ?_
    ·refine ⟨i0, ⟨b3, ?_⟩, rfl⟩
     cases up
     ·simp only [Bool.false_eq_true, if_false] at c2 hye ⊢
      exact ⟨c2.1, by have := c2.2.1; omega⟩
     ·simp only [if_true] at c2 hye ⊢
      exact ⟨c2.1, by have := c2.2.1; omega⟩
    ·rintro n ⟨j, j1, rfl⟩
     apply sg_le
     cases up
     ·simp only [Bool.false_eq_true, if_false, sgU] at c2 hye ⊢
      by_cases hji : j ≤ i0
      ·omega
      ·have := c2.2.2 j (by omega) j1.2.1
       have j2 := j1.2.2
       simp only [Bool.false_eq_true, if_false] at j2
       omega
     ·simp only [if_true, sgU] at c2 hye ⊢
      by_cases hji : i0 ≤ j
      ·omega
      ·have := c2.2.2 j (by omega) j1.2.1
       have j2 := j1.2.2
       simp only [if_true] at j2
       omega
    ·intro m
     rw [htk]
     constructor
     ·rintro ⟨x, hx, j, j1, j2⟩
      rcases List.mem_append.1 hx with h3 | h3
      ·exact .inl ⟨x, h3, j, j1, j2⟩
      ·rw [List.mem_singleton] at h3; subst h3; exact .inr ⟨j, j1, j2⟩
     ·rintro (⟨x, hx, j, j1, j2⟩ | ⟨j, j1, j2⟩)
      ·exact ⟨x, List.mem_append_left _ hx, j, j1, j2⟩
      ·exact ⟨_, List.mem_append_right _ (List.mem_singleton.2 rfl), j, j1, j2⟩
   ·right
    obtain rfl : k = sp.length := by omega
    rw [Zm (by omega), cond_false]
    rw [List.take_length] at hc
    refine ⟨_, rfl, hcb, hc.congr fun m => ?_⟩
    constructor
    ·rintro ⟨i, j, i0, i1, hp, e⟩
     obtain ⟨x, hx, rfl⟩ := hsp.all i i0 i1 hp.1
     exact ⟨x, hx, j, hp, e⟩
    ·rintro ⟨x, hx, j, hp, e⟩
     obtain ⟨b1, b2, _⟩ := hsp.mem x hx
     exact ⟨x.index, j, b1, b2, hp, e⟩) (0, 0, false) ⟨0, (0, false), Nat.zero_le _, rfl, by unfold BigI; simp, Best.none (by simp)⟩
 exact ⟨r, q1, q2⟩

theorem pair_at {g : Form} {up : Bool} {d i j : Int} : Z11 g up d i j ↔ ZY g i ≠ [] ∧ AtP g up ((if up then fstT (ZY g i) else lstT (ZY g i)) + d) j := by
 unfold Z11 AtP
 cases up
 ·simp only [Bool.false_eq_true, if_false]
  exact ⟨fun h => ⟨h.1, h.2.1, by omega⟩, fun h => ⟨h.1, h.2.1, by omega⟩⟩
 ·simp only [if_true]
  exact ⟨fun h => ⟨h.1, h.2.1, by omega⟩, fun h => ⟨h.1, h.2.1, by omega⟩⟩
theorem pair_to {g : Form} {up : Bool} {d i j : Int} : Z11 g up d i j ↔ ZY g j ≠ [] ∧ AtP g (!up) ((if up then lstT (ZY g j) else fstT (ZY g j)) - d) i := by
 unfold Z11 AtP
 cases up
 ·simp only [Bool.false_eq_true, if_false, Bool.not_false, if_true]
  exact ⟨fun h => ⟨h.2.1, h.1, by omega⟩, fun h => ⟨h.2.1, h.1, by omega⟩⟩
 ·simp only [if_true, Bool.not_true, Bool.false_eq_true, if_false]
  exact ⟨fun h => ⟨h.2.1, h.1, by omega⟩, fun h => ⟨h.2.1, h.1, by omega⟩⟩
theorem sg_not (up : Bool) (n : Int) : sgU (!up) * n = -(sgU up * n) := by unfold sgU; cases up <;> simp

theorem far_odds {g : Form} (h : Fit g) (hb : 0 < g.Count → ¬ Bare g) {d : Int} (hd : ZP d) (up : Bool) {b : Int × Bool} {S : Int → Prop} (hbb : BigI b.1) (hB : Best S b) :
  ∃ r, ZN (ZT.s2 d up ⟨g, Z1Q g⟩ (sgU up)) (0, b.1, b.2) = some r ∧ BigI r.1 ∧ Best (fun m => S m ∨ ∃ i j, (Z0H g i ∨ Z0H g j) ∧ Z11 g up d i j ∧ m = sgU up * (j - i)) r := by
 have hs := h.shape
 have hl := h.lim
 have hodd := h.odds
 obtain ⟨r, q1, q2⟩ := Z1V (step := ZT.s2 d up ⟨g, Z1Q g⟩ (sgU up))
  (fun s => ∃ (k : Nat) (c : Int × Bool), k ≤ g.Odd.length ∧ s = ((k : Int), c.1, c.2) ∧ BigI c.1 ∧ Best (fun m => S m ∨ ∃ x ∈ g.Odd.take k, ∃ i j, (x.Index = i ∨ x.Index = j) ∧ Z11 g up d i j ∧ m = sgU up * (j - i)) c)
  (fun s => g.Odd.length - s.1.toNat)
  (fun r => BigI r.1 ∧ Best (fun m => S m ∨ ∃ i j, (Z0H g i ∨ Z0H g j) ∧ Z11 g up d i j ∧ m = sgU up * (j - i)) r) (by
   rintro s ⟨k, c, hk, rfl, hcb, hc⟩
   unfold ZT.s2
   simp only
   by_cases hlt : k < g.Odd.length
   ·left
    have hm := List.getElem_mem hlt
    have htk : g.Odd.take (k + 1) = g.Odd.take k ++ [g.Odd[k]] := (List.take_append_getElem hlt).symm
    have hset : ZY g g.Odd[k].Index = g.Odd[k].Ticks := Z14 hs.inc hm
    have hti := (hs.odd _ hm).2
    have hrt := (hs.odd _ hm).1
    rw [Ze (show (k : Int) < g.Odd.length by omega), cond_true, at?_nat hlt]
    simp only [Option.bind_some]
    rw [hull_eq (hl.ticks _ hm).2.1]
    simp only [Option.bind_some]
    by_cases hne : g.Odd[k].Ticks = []
    ·rw [if_pos hne]
     simp only [Bool.not_false, cond_true, Option.bind_some, Jx.elim]
     rw [ZQ (by omega)]
     refine ⟨_, rfl, ⟨k + 1, c, hlt, by push_cast; rfl, hcb, ?_⟩, by simp only; omega⟩
     refine hc.congr fun m => ?_
     rw [htk]
     constructor
     ·rintro (h1 | ⟨x, hx, i, j, h1, h2, h3⟩)
      ·exact .inl h1
      ·rcases List.mem_append.1 hx with h4 | h4
       ·exact .inr ⟨x, h4, i, j, h1, h2, h3⟩
       ·rw [List.mem_singleton] at h4; subst h4
        rcases h1 with rfl | rfl
        ·exact absurd (hset.trans hne) h2.1
        ·exact absurd (hset.trans hne) h2.2.1
     ·rintro (h1 | ⟨x, hx, h1⟩)
      ·exact .inl h1
      ·exact .inr ⟨x, List.mem_append_left _ hx, h1⟩
    ·rw [if_neg hne]
     have rx := Z49 hrt hne
     unfold ZP at rx hd hti
     simp only [Bool.not_true, cond_false]
     have hy : (bif up then some (lstT g.Odd[k].Ticks, fstT g.Odd[k].Ticks) else some (fstT g.Odd[k].Ticks, lstT g.Odd[k].Ticks)) = some ((if up then lstT g.Odd[k].Ticks else fstT g.Odd[k].Ticks), (if up then fstT g.Odd[k].Ticks else lstT g.Odd[k].Ticks)) := by cases up <;> rfl
     rw [hy]
     simp only [Option.bind_some]
     have hyb : -1099511627776 ≤ (if up then lstT g.Odd[k].Ticks else fstT g.Odd[k].Ticks) ∧ (if up then lstT g.Odd[k].Ticks else fstT g.Odd[k].Ticks) ≤ 1099511627776 := by split <;> omega
     have hzb : -1099511627776 ≤ (if up then fstT g.Odd[k].Ticks else lstT g.Odd[k].Ticks) ∧ (if up then fstT g.Odd[k].Ticks else lstT g.Odd[k].Ticks) ≤ 1099511627776 := by split <;> omega
     have pa : ∀ j, Z11 g up d g.Odd[k].Index j ↔ AtP g up ((if up then fstT g.Odd[k].Ticks else lstT g.Odd[k].Ticks) + d) j := fun j => by
      rw [pair_at, hset]; exact ⟨fun h => h.2, fun h => ⟨hne, h⟩⟩
     have pt : ∀ i, Z11 g up d i g.Odd[k].Index ↔ AtP g (!up) ((if up then lstT g.Odd[k].Ticks else fstT g.Odd[k].Ticks) - d) i := fun i => by
      rw [pair_to, hset]; exact ⟨fun h => h.2, fun h => ⟨hne, h⟩⟩
     generalize (if up then fstT g.Odd[k].Ticks else lstT g.Odd[k].Ticks) = z at *
     generalize (if up then lstT g.Odd[k].Ticks else fstT g.Odd[k].Ticks) = y at *
     rw [ZQ (x := z + d) (by omega), ZQ (x := y - d) (by omega)]
     obtain ⟨n1, p1, r1, t1, u1, v1⟩ := Z9S h hb (t := z + d) (by unfold BigT; omega) up
     obtain ⟨n2, p2, r2, t2, u2, v2⟩ := Z9S h hb (t := y - d) (by unfold BigT; omega) (!up)
     rw [r1, r2]
     simp only [Option.bind_some]
     have hb1 : BigI (n1 - g.Odd[k].Index) := by unfold BigI; omega
     have hb2 : BigI (g.Odd[k].Index - n2) := by unfold BigI; omega
     have first : ∃ c1 : Int × Bool, (bif p1 then
       (
        (ZN (ZT.s3) (([(w64 (sgU up * (w64 (n1 - g.Odd[k].Index))))].length : Int), 0, [(w64 (sgU up * (w64 (n1 - g.Odd[k].Index))))], c.1, c.2)).bind fun (y16 : (List Int) × Int × Bool) =>
        some (y16.1, y16.2.1, y16.2.2)).bind fun (y15 : (List Int) × Int × Bool) =>
       some (y15.2.1, y15.2.2)
      else
       some (c.1, c.2)) = some c1 ∧ BigI c1.1 ∧ Best (fun m => (S m ∨ ∃ x ∈ g.Odd.take k, ∃ i j, (x.Index = i ∨ x.Index = j) ∧ Z11 g up d i j ∧ m = sgU up * (j - i)) ∨ ∃ j, Z11 g up d g.Odd[k].Index j ∧ m = sgU up * (j - g.Odd[k].Index)) c1 := by
      cases hp : p1 with
      | true =>
       subst hp
       rw [cond_true, sgw2 up hb1, Z95]
       obtain ⟨⟨i, i1, i2⟩, hall⟩ := t1.yes rfl
       have ei : i = n1 := by
        have := congrArg (fun x => sgU up * x) i2
        simp only [sg_sg] at this
        exact this.symm
       subst ei
       refine ⟨_, rfl, putB_big hcb (sg_big hb1), ?_⟩
       refine hc.join (W := fun m => ∃ j, Z11 g up d g.Odd[k].Index j ∧ m = sgU up * (j - g.Odd[k].Index)) ⟨i, (pa i).2 i1, rfl⟩ ?_ (fun m => Iff.rfl)
       rintro n ⟨j, j1, rfl⟩
       exact sg_le (hall _ ⟨j, (pa j).1 j1, rfl⟩)
      | false =>
       subst hp
       rw [cond_false]
       refine ⟨_, rfl, hcb, hc.congr fun m => ⟨?_, .inl⟩⟩
       rintro (h1 | ⟨j, j1, j2⟩)
       ·exact h1
       ·exact absurd ⟨j, (pa j).1 j1, rfl⟩ ((t1.no rfl).2 (sgU up * j))
     obtain ⟨c1, f1, f2, f3⟩ := first
     rw [f1]
     simp only [Option.bind_some]
     have second : ∃ c2 : Int × Bool, (bif p2 then
      (
       (ZN (ZT.s4) (([(w64 (sgU up * (w64 (g.Odd[k].Index - n2))))].length : Int), 0, [(w64 (sgU up * (w64 (g.Odd[k].Index - n2))))], c1.1, c1.2)).bind fun (y20 : (List Int) × Int × Bool) =>
       some (y20.1, y20.2.1, y20.2.2)).bind fun (y19 : (List Int) × Int × Bool) =>
      some (Jx.go (y19.2.1, y19.2.2))
     else
      some (Jx.go (c1.1, c1.2)) : Option (Jx (Int × Bool) Unit)) = some (.go c2) ∧ BigI c2.1 ∧ Best (fun m => ((S m ∨ ∃ x ∈ g.Odd.take k, ∃ i j, (x.Index = i ∨ x.Index = j) ∧ Z11 g up d i j ∧ m = sgU up * (j - i)) ∨ ∃ j, Z11 g up d g.Odd[k].Index j ∧ m = sgU up * (j - g.Odd[k].Index)) ∨ ∃ i, Z11 g up d i g.Odd[k].Index ∧ m = sgU up * (g.Odd[k].Index - i)) c2 := by
      cases hp : p2 with
      | true =>
       subst hp
       rw [cond_true, sgw2 up hb2, Z8z]
       obtain ⟨⟨i, i1, i2⟩, hall⟩ := t2.yes rfl
       have ei : i = n2 := by
        have := congrArg (fun x => sgU (!up) * x) i2
        simp only [sg_sg] at this
        exact this.symm
       subst ei
       refine ⟨_, rfl, putB_big f2 (sg_big hb2), ?_⟩
       refine f3.join (W := fun m => ∃ i, Z11 g up d i g.Odd[k].Index ∧ m = sgU up * (g.Odd[k].Index - i)) ⟨i, (pt i).2 i1, rfl⟩ ?_ (fun m => Iff.rfl)
       rintro n ⟨j, j1, rfl⟩
       have := hall _ ⟨j, (pt j).1 j1, rfl⟩
       rw [sg_not, sg_not] at this
       rw [Int.mul_sub, Int.mul_sub]
       omega
      | false =>
       subst hp
       rw [cond_false]
       refine ⟨_, rfl, f2, f3.congr fun m => ⟨?_, .inl⟩⟩
       rintro (h1 | ⟨j, j1, j2⟩)
       ·exact h1
       ·exact absurd ⟨j, (pt j).1 j1, rfl⟩ ((t2.no rfl).2 (sgU (!up) * j))
     obtain ⟨c2, g1, g2, g3⟩ := second
     rw [g1]
     simp only [Option.bind_some, Jx.elim]
     rw [ZQ (by omega)]
     refine ⟨_, rfl, ⟨k + 1, c2, hlt, by push_cast; rfl, g2, ?_⟩, by simp only; omega⟩
     refine g3.congr fun m => ?_
     rw [htk]
     constructor
     ·rintro (h1 | ⟨x, hx, i, j, h1, h2, h3⟩)
      ·exact .inl (.inl (.inl h1))
      ·rcases List.mem_append.1 hx with h4 | h4
       ·exact .inl (.inl (.inr ⟨x, h4, i, j, h1, h2, h3⟩))
       ·rw [List.mem_singleton] at h4; subst h4
        rcases h1 with rfl | rfl
        ·exact .inl (.inr ⟨j, h2, h3⟩)
        ·exact .inr ⟨i, h2, h3⟩
     ·rintro (((h1 | ⟨x, hx, h1⟩) | ⟨j, j1, j2⟩) | ⟨i, i1, i2⟩)
      ·exact .inl h1
      ·exact .inr ⟨x, List.mem_append_left _ hx, h1⟩
      ·exact .inr ⟨_, List.mem_append_right _ (List.mem_singleton.2 rfl), _, j, .inl rfl, j1, j2⟩
      ·exact .inr ⟨_, List.mem_append_right _ (List.mem_singleton.2 rfl), i, _, .inr rfl, i1, i2⟩
   ·right
    obtain rfl : k = g.Odd.length := by omega
    rw [Zm (by omega), cond_false]
    rw [List.take_length] at hc
    refine ⟨_, rfl, hcb, hc.congr fun m => ?_⟩
    constructor
    ·rintro (h1 | ⟨i, j, h1, h2, h3⟩)
     ·exact .inl h1
     ·rcases h1 with ⟨x, hx, hxi⟩ | ⟨x, hx, hxi⟩
      ·exact .inr ⟨x, hx, i, j, .inl hxi, h2, h3⟩
      ·exact .inr ⟨x, hx, i, j, .inr hxi, h2, h3⟩
    ·rintro (h1 | ⟨x, hx, i, j, h1, h2, h3⟩)
     ·exact .inl h1
     ·rcases h1 with h1 | h1
      ·exact .inr ⟨i, j, .inl ⟨x, hx, h1⟩, h2, h3⟩
      ·exact .inr ⟨i, j, .inr ⟨x, hx, h1⟩, h2, h3⟩) (0, b.1, b.2) ⟨0, b, Nat.zero_le _, rfl, hbb, hB.congr fun m => by simp⟩
 exact ⟨r, q1, q2⟩

theorem Z9N {g : Form} (h : Fit g) (h0 : 0 < g.Count) {up : Bool} {d i j : Int} (hp : CoreP g up d i j) : ∃ i' j', Z11 g up d i' j' ∧ j' - i' = j - i := by
 obtain ⟨k, hk, hn⟩ := pigeon (g.Odd.map (·.Index) ++ g.Odd.map (fun x => x.Index - (j - i))) (fun k => i + g.Count * k) (fun a b hab => by
  have h4 : g.Count * (a : Int) = g.Count * b := by omega
  have := Int.eq_of_mul_eq_mul_left (by omega) h4
  omega)
 rw [List.mem_append, not_or] at hn
 have o1 : ¬ Z0H g (i + g.Count * k) := by
  rintro ⟨x, hx, e⟩
  exact hn.1 (List.mem_map.2 ⟨x, hx, e⟩)
 have o2 : ¬ Z0H g (j + g.Count * k) := by
  rintro ⟨x, hx, e⟩
  exact hn.2 (List.mem_map.2 ⟨x, hx, by rw [e]; omega⟩)
 refine ⟨i + g.Count * k, j + g.Count * k, ?_, by omega⟩
 obtain ⟨p1, p2, p3⟩ := hp
 unfold Z11
 rw [Z3z h0 o1, Z3z h0 o2, Z4S h0, Z4S h0, (Z0W _ p1).1, (Z0W _ p1).2, (Z0W _ p2).1, (Z0W _ p2).2]
 refine ⟨by simpa using p1, by simpa using p2, ?_⟩
 cases up
 ·simp only [Bool.false_eq_true, if_false] at p3 ⊢; omega
 ·simp only [if_true] at p3 ⊢; omega

theorem Z9a {g : Form} (h : Fit g) {up : Bool} {d i j : Int} (hi : ¬ Z0H g i) (hj : ¬ Z0H g j) (hp : Z11 g up d i j) : 0 < g.Count ∧ ∃ i' j', 0 ≤ i' ∧ i' < g.Count ∧ CoreP g up d i' j' ∧ j' - i' = j - i := by
 have hc := h.shape.count
 have h0 : 0 < g.Count := by
  by_cases h0 : 0 < g.Count
  ·exact h0
  ·exact absurd (Z1j hi (by omega)) hp.1
 refine ⟨h0, ?_⟩
 unfold Z11 at hp
 rw [Z3z h0 hi, Z3z h0 hj] at hp
 obtain ⟨s, q, s0, s1, rfl, es⟩ := Z4F h0 i
 have ej : cs g j = (cs g (j - g.Count * q)).map (Zh (q * g.Period)) := by
  have := Z4S h0 (j - g.Count * q) q
  rwa [show j - g.Count * q + g.Count * q = j by omega] at this
 rw [es, ej] at hp
 obtain ⟨p1, p2, p3⟩ := hp
 have n1 : cs g s ≠ [] := by simpa using p1
 have n2 : cs g (j - g.Count * q) ≠ [] := by simpa using p2
 rw [(Z0W _ n1).1, (Z0W _ n1).2, (Z0W _ n2).1, (Z0W _ n2).2] at p3
 refine ⟨s, j - g.Count * q, s0, s1, ⟨n1, n2, ?_⟩, by omega⟩
 cases up
 ·simp only [Bool.false_eq_true, if_false] at p3 ⊢; omega
 ·simp only [if_true] at p3 ⊢; omega

theorem far_eq {f g : Form} (hg : Zl f = some g) (h : Fit g) (hb : 0 < g.Count → ¬ Bare g) {d : Int} (hd : ZP d) (up : Bool) :
  ∃ n b, ZT f d up = some (n, b, 0) ∧ BigI n ∧ Best (fun m => ∃ i j, Z11 g up d i j ∧ m = sgU up * (j - i)) (sgU up * n, b) := by
 unfold ZT
 have hr : Z19 d = true := by unfold Z19; unfold ZP at hd; simp; omega
 rw [hr, Bool.not_true, cond_false, made_eq hg h.lim h.few]
 simp only [Option.bind_some]
 have hy : (bif up then some (-1 : Int) else some 1) = some (sgU up) := by unfold sgU; cases up <;> rfl
 rw [hy]
 simp only [Option.bind_some]
 obtain ⟨r1, a1, a2, a3⟩ := far_spots h hb hd up
 rw [a1]
 simp only [Option.bind_some]
 obtain ⟨r2, b1, b2, b3⟩ := far_odds h hb hd up a2 a3
 rw [b1]
 simp only [Option.bind_some]
 have hw : w64 (sgU up * r2.1) = sgU up * r2.1 := by
  have := sg_big (up := up) b2
  unfold BigI at this
  exact ZQ (by omega)
 rw [hw]
 refine ⟨_, _, rfl, sg_big b2, ?_⟩
 rw [sg_sg]
 refine b3.congr fun m => ?_
 constructor
 ·rintro ⟨i, j, p, e⟩
  by_cases hi : Z0H g i
  ·exact .inr ⟨i, j, .inl hi, p, e⟩
  ·by_cases hj : Z0H g j
   ·exact .inr ⟨i, j, .inr hj, p, e⟩
   ·obtain ⟨h0, i', j', i0, i1, hp, e'⟩ := Z9a h hi hj p
    exact .inl ⟨i', j', i0, i1, hp, by rw [e, e']⟩
 ·rintro (⟨i, j, i0, i1, hp, e⟩ | ⟨i, j, ho, p, e⟩)
  ·obtain ⟨i', j', p, e'⟩ := Z9N h (by omega) hp
   exact ⟨i', j', p, by rw [e, e']⟩
  ·exact ⟨i, j, p, e⟩
end Go.Dn

namespace Go.Dn
open Go

theorem Z9J {f : Form} (hl : Lim f) : ∃ b, Z0y f = some b ∧ (b = true ↔ SmallF f ∧ RightF f) := by
 unfold Z0y
 obtain ⟨b, hb, hbs⟩ := Z6X hl
 rw [hb]
 simp only [Option.bind_some]
 cases b with
 | false => exact ⟨false, rfl, fun h => (by cases h), fun h => by have := hbs.2 h.1; cases this⟩
 | true =>
  have hsm := hbs.1 rfl
  have hnl : ¬ LongF f := by unfold LongF; have := hsm.1; have := hsm.2.1; have := hsm.2.2; omega
  rw [cond_true]
  rcases Z6l hl with ⟨h, _⟩ | ⟨_, h1, h2⟩ | ⟨_, h1, h2⟩
  ·exact absurd h hnl
  ·rw [h2]; exact ⟨true, rfl, fun _ => ⟨hsm, h1⟩, fun _ => rfl⟩
  ·rw [h2]; exact ⟨false, rfl, fun h => (by cases h), fun h => absurd h.2 h1⟩

def FewF (f : Form) : Prop := f.Core.length ≤ 12 ∧ f.Odd.length ≤ 8
theorem SmallF.few {f : Form} (h : SmallF f) : FewF f := ⟨h.1, h.2.1⟩

theorem small_canon {f : Form} (hl : Lim f) (hr : RightF f) (hsm : FewF f) : ∃ g, Zl f = some g ∧ Fit g ∧ (0 < g.Count → ¬ Bare g) ∧ ZY g = ZY f := by
 have hs := hr.shape
 obtain ⟨c, hc, hf⟩ := canon_Form_eq hl hs
 have hs' := Z5T hs hc
 have hr' := canonF_right hr hc
 have hcl := coreOf_le hs hc
 refine ⟨_, hf, ⟨canonF_lim hl hs hc, hs', hr'.turns, Nat.le_trans hcl.2.2.1 hsm.1, Nat.le_trans (List.length_filter_le _ _) hsm.2⟩, ?_, Z7U hs hc⟩
 intro h0 hb
 have ez := Z5c hs hc
 have hz : ∀ i, csz f i = [] := fun i => by rw [← ez]; exact csz_bare hs' hb i
 rcases hc with ⟨h1, rfl⟩ | ⟨h1, h2, _⟩
 ·exact absurd h0 (by show ¬ (0 : Int) < 0; omega)
 ·obtain ⟨i, i1, i2, i3⟩ := cs_some hs h1 h2 0
  have := hz i
  rw [Z36 h2] at this
  exact i3 this

structure DownS (f : Form) (d : Int) (r : Int × Bool) : Prop where
 yes : r.2 = true → (∃ i j, Z11 f false d i j ∧ r.1 = j - i) ∧ ∀ i j, Z11 f false d i j → j - i ≤ r.1
 no : r.2 = false → ∀ i j, ¬ Z11 f false d i j
structure UpS (f : Form) (d : Int) (r : Int × Bool) : Prop where
 yes : r.2 = true → (∃ i j, Z11 f true d i j ∧ r.1 = j - i) ∧ ∀ i j, Z11 f true d i j → r.1 ≤ j - i
 no : r.2 = false → ∀ i j, ¬ Z11 f true d i j

theorem Z5J {f g : Form} (h : ZY g = ZY f) {up : Bool} {d i j : Int} : Z11 g up d i j ↔ Z11 f up d i j := by unfold Z11; rw [h]

theorem size_Down_eq {f : Form} (hl : Lim f) (hr : RightF f) (hsm : FewF f) {d : Int} (hd : ZP d) : ∃ n b, Z30 f d = some (n, b, 0) ∧ BigI n ∧ DownS f d (n, b) := by
 obtain ⟨g, g1, g2, g3, g4⟩ := small_canon hl hr hsm
 obtain ⟨n, b, e1, e2, e3⟩ := far_eq g1 g2 g3 hd false
 unfold Z30
 rw [e1]
 refine ⟨n, b, rfl, e2, ⟨fun hb => ?_, fun hb i j hp => ?_⟩⟩
 ·obtain ⟨⟨i, j, p, e⟩, hall⟩ := e3.yes hb
  simp only [sgU, Bool.false_eq_true, if_false, Int.one_mul] at e hall
  refine ⟨⟨i, j, (Z5J g4).1 p, e⟩, fun i' j' hp => ?_⟩
  exact hall _ ⟨i', j', (Z5J g4).2 hp, rfl⟩
 ·exact (e3.no hb).2 _ ⟨i, j, (Z5J g4).2 hp, rfl⟩
theorem down_mono {f : Form} {d d' i j : Int} (h : Z11 f false d i j) (hd : d ≤ d') : Z11 f false d' i j := by
 unfold Z11 at *
 simp only [Bool.false_eq_true, if_false] at *
 exact ⟨h.1, h.2.1, by omega⟩
noncomputable def bad (low high : Bound) : Bool := (((!(ZS low)) || (!(ZS high))) || (low.Inf == 1)) || (high.Inf == (-1))
structure RangeS (f : Form) (low high : Bound) (r : Range) (ok : Bool) : Prop where
 none : ok = false → r = Range.mk 0 0 false false
 hi : ok = true → (r.HasHigh = true ↔ high.Inf = 0 ∧ high.N ≤ 1099511627776)
 lo : ok = true → (r.HasLow = true ↔ low.Inf = 0 ∧ -1099511627776 ≤ low.N)
 atH : ok = true → r.HasHigh = true → DownS f (max high.N (-1099511627776)) (r.High, true)
 atL : ok = true → r.HasLow = true → UpS f (min low.N 1099511627776) (r.Low, true)
 nhi : ok = true → r.HasHigh = false → r.High = 0
 nlo : ok = true → r.HasLow = false → r.Low = 0
 not : ok = false → (high.Inf = 0 ∧ high.N ≤ 1099511627776 ∧ ∀ i j, ¬ Z11 f false (max high.N (-1099511627776)) i j) ∨ (low.Inf = 0 ∧ -1099511627776 ≤ low.N ∧ ∀ i j, ¬ Z11 f true (min low.N 1099511627776) i j)

def Near (f : Form) (m d : Int) : Prop := ∃ i j, Z11 f false d i j ∧ m ≤ j - i
theorem Near.mono {f : Form} {m m' d d' : Int} (h : Near f m d) (hm : m' ≤ m) (hd : d ≤ d') : Near f m' d' := by
 obtain ⟨i, j, h1, h2⟩ := h
 exact ⟨i, j, down_mono h1 hd, by omega⟩
def farI (m : Int) : Int := min (max m (-4611686018427387904)) 4611686018427387904
theorem farI_eq (m : Int) : iMin (iMax m (-4611686018427387904)) 4611686018427387904 = farI m := by rw [iMax_eq, iMin_eq]; rfl
def LowD (f : Form) (m d : Int) : Prop := -1099511627776 ≤ d ∧ d ≤ 1099511627776 ∧ (∀ z, -1099511627776 ≤ z → z < d → ¬ Near f m z) ∧ (d < 1099511627776 → Near f m d)
def Z7w (d : Int) : Bound := if d = -1099511627776 then ⟨-1, 0⟩ else ⟨0, d⟩

open Classical in
theorem Z3q {f : Form} (hl : Lim f) (hr : RightF f) (hsm : FewF f) (m : Int) : ∃ d, Z0c f m = some (Z7w d) ∧ LowD f (farI m) d := by
 unfold Z0c
 rw [farI_eq]
 obtain ⟨r, s1, s2, s3, s4, s5⟩ := Z8I (n := 2199023255553) (by omega) (by omega) (f := fun z0 => Z0Z (carry_asked.mk f (farI m)) z0) (p := fun z => decide (Near f (farI m) (z - 1099511627776))) (by
   intro z z0 z1
   unfold Z0Z
   simp only
   rw [ZQ (x := z - 1099511627776) (by omega)]
   obtain ⟨n, b, e1, e2, e3⟩ := size_Down_eq hl hr hsm (d := z - 1099511627776) (by unfold ZP; omega)
   rw [e1]
   simp only [Option.bind_some, beq_self_eq_true, Bool.and_true, Option.some.injEq]
   cases b with
   | false =>
    rw [Bool.false_and]; symm; apply Zm
    rintro ⟨i, j, h1, h2⟩
    exact e3.no rfl i j h1
   | true =>
    rw [Bool.true_and, decide_eq_decide]
    obtain ⟨⟨i, j, h1, h2⟩, hall⟩ := e3.yes rfl
    constructor
    ·intro h; exact ⟨i, j, h1, by simp only at h2; omega⟩
    ·rintro ⟨i', j', h3, h4⟩
     have := hall i' j' h3
     simp only at this; omega) (by
   intro a b a0 hab hb hp
   simp only [decide_eq_true_eq] at hp ⊢
   exact hp.mono (Int.le_refl _) (by omega))
 rw [s1]
 simp only [Option.bind_some]
 rw [iMin_eq, ZQ (by omega)]
 refine ⟨min r 2199023255552 - 1099511627776, ?_, by omega, by omega, ?_, ?_⟩
 ·unfold Z7w
  by_cases h : min r 2199023255552 - 1099511627776 = -1099511627776
  ·rw [beq_t h, cond_true, if_pos h]
  ·rw [beq_f h, cond_false, if_neg h]
 ·intro z z0 z1
  have := s4 (z + 1099511627776) (by omega) (by omega)
  simp only [decide_eq_false_iff_not] at this
  rwa [show z + 1099511627776 - 1099511627776 = z by omega] at this
 ·intro hlt
  have := s5 r (Int.le_refl _) (by omega)
  simp only [decide_eq_true_eq] at this
  rwa [show min r 2199023255552 = r by omega]

theorem LowD.mono {f : Form} {m m' d d' : Int} (h : LowD f m d) (h' : LowD f m' d') (hm : m ≤ m') : d ≤ d' := by
 obtain ⟨a1, a2, a3, a4⟩ := h
 obtain ⟨b1, b2, b3, b4⟩ := h'
 by_cases hd : d ≤ d'
 ·exact hd
 ·exact absurd ((b4 (by omega)).mono hm (Int.le_refl _)) (a3 d' b1 (by omega))
def boundH (d : Int) : Bound := if d = -1099511627776 then ⟨1, 0⟩ else ⟨0, -d⟩
def goodB (x : Bound) : Prop := ZS x = true ∧ x.N ≤ 1099511627776 ∧ -1099511627776 ≤ x.N
end Go.Dn

namespace Go.Dn
open Go

theorem near_same {f g : Form} (h : ZY f = ZY g) {m z : Int} : Near f m z ↔ Near g m z := by
 unfold Near
 simp only [Z5J h]

theorem lowD_uniq {f g : Form} {m d d' : Int} (h : LowD f m d) (h' : LowD g m d') (hn : ∀ z, Near f m z ↔ Near g m z) : d = d' := by
 rcases Int.lt_trichotomy d d' with hlt | heq | hgt
 ·exfalso
  have b := h'.2.1
  exact h'.2.2.1 d h.1 hlt ((hn d).1 (h.2.2.2 (by omega)))
 ·exact heq
 ·exfalso
  have b := h.2.1
  exact h.2.2.1 d' h'.1 hgt ((hn d').2 (h'.2.2.2 (by omega)))

theorem minus_zero {d : Int} (h : -1099511627776 ≤ d ∧ d ≤ 1099511627776) : (ZE (Z7w d)).2 = 0 := by
 unfold Z7w
 by_cases h0 : d = -1099511627776
 ·rw [if_pos h0]; decide
 ·rw [if_neg h0]
  unfold ZE
  have hr : ZS ⟨0, d⟩ = true := rfl
  rw [hr, Bool.not_true, cond_false]
  have hs : Z07 0 d = (-d, 0) := by
   unfold Z07
   rw [ZQ (x := 0 - d) (by omega)]
   have : ((decide (0 - d < 0) != decide (d > 0)) && d != 0) = false := by
    by_cases hp : d > 0
    ·rw [Ze hp, Ze (show 0 - d < 0 by omega)]; rfl
    ·rw [Zm hp, Zm (show ¬ 0 - d < 0 by omega)]; rfl
   rw [this, cond_false]
   simp
  rw [hs]
  rfl

theorem turn_inner {f : Form} {l : List Span} (hr : RightL l) (hl : Len l) (hp : 0 ≤ f.Period ∧ f.Period ≤ 1048576) : ZN (ZZ.s1 f l) (0, []) = some (l.map (Zh f.Period)) := by
 have hlen : (l.length : Int) < 4611686018427387904 := by have := Z18; unfold Len at hl; omega
 refine Z1K (I := fun s r => r = l.map (Zh f.Period) ∧ ∃ k : Nat, s = ((k : Int), (l.take k).map (Zh f.Period)) ∧ k ≤ l.length) (fun s => l.length - s.1.toNat) ?_ ⟨rfl, 0, rfl, Nat.zero_le _⟩
 rintro s r ⟨rfl, k, rfl, hk⟩
 unfold ZZ.s1
 simp only
 by_cases hlt : k < l.length
 ·left
  rw [Ze (show (k : Int) < l.length by omega), cond_true, at?_nat hlt]
  simp only [Option.bind_some]
  obtain ⟨t1, t2, _⟩ := hr.ok k _ (List.getElem?_eq_getElem hlt)
  unfold ZP at t1 t2
  rw [ZQ (x := l[k].From + f.Period) (by omega), ZQ (x := l[k].To + f.Period) (by omega), app?_ok (by
   have := Z4V
   have := Z18
   unfold Len at hl
   simp only [List.length_map, List.length_take, List.length_singleton]
   omega)]
  simp only [Option.bind_some]
  have hw : w64 ((k : Int) + 1) = ((k + 1 : Nat) : Int) := by rw [ZQ (by omega)]; push_cast; rfl
  refine ⟨_, rfl, ⟨by trivial, k + 1, ?_, hlt⟩, by simp only [hw]; omega⟩
  rw [hw, List.take_add_one, List.getElem?_eq_getElem hlt, List.map_append]
  rfl
 ·right
  have : k = l.length := by omega
  subst this
  rw [Zm (by omega), cond_false, List.take_length]

theorem turn_outer {f : Form} (hl : Lim f) (hs : Shape f) (h6 : f.Core.length ≤ 6) (hp : f.Period ≤ 1048576) (a b : Int) : ZN (ZZ.s0 f) (0, a, b, f.Core) = some (a, b, f.Core ++ f.Core.map (fun l => l.map (Zh f.Period))) := by
 refine Z1K (I := fun s r => r = (a, b, f.Core ++ f.Core.map (fun l => l.map (Zh f.Period))) ∧ ∃ k : Nat, s = ((k : Int), a, b, f.Core ++ (f.Core.take k).map (fun l => l.map (Zh f.Period))) ∧ k ≤ f.Core.length) (fun s => f.Core.length - s.1.toNat) ?_ ⟨rfl, 0, by simp, Nat.zero_le _⟩
 rintro s r ⟨rfl, k, rfl, hk⟩
 unfold ZZ.s0
 simp only
 by_cases hlt : k < f.Core.length
 ·left
  rw [Ze (show (k : Int) < f.Core.length by omega), cond_true, at?_nat hlt]
  simp only [Option.bind_some]
  have hm : f.Core[k] ∈ f.Core := List.getElem_mem hlt
  rw [turn_inner (hs.core _ hm) (hl.sets _ hm).1 ⟨hs.per.1, hp⟩]
  simp only [Option.bind_some]
  rw [app?_ok (by
   have := Z4V
   simp only [List.length_append, List.length_map, List.length_take, List.length_singleton]
   omega)]
  simp only [Option.bind_some]
  have hw : w64 ((k : Int) + 1) = ((k + 1 : Nat) : Int) := by rw [ZQ (by omega)]; push_cast; rfl
  refine ⟨_, rfl, ⟨by trivial, k + 1, ?_, hlt⟩, by simp only [hw]; omega⟩
  rw [hw, List.take_add_one, List.getElem?_eq_getElem hlt, List.map_append, List.append_assoc]
  rfl
 ·right
  have : k = f.Core.length := by omega
  subst this
  rw [Zm (by omega), cond_false, List.take_length]

theorem Z9C (f : Form) (n : Int) (hf : f.ok) (hn : okI .i64 n) : ZZ f n = some true := by
 have hl := Form.lim hf
 unfold ZZ
 obtain ⟨b, e1, i1⟩ := Z9J hl
 rw [e1]
 simp only [Option.bind_some]
 cases b with
 | false => rfl
 | true =>
 obtain ⟨sf, rf⟩ := i1.1 rfl
 have hs := rf.shape
 by_cases h6 : (f.Core.length : Int) > 6
 ·rw [Ze h6]; rfl
 by_cases hp : f.Period > 1048576
 ·rw [Zm h6, Ze hp]; rfl
 rw [Zm h6, Zm hp]
 simp only [Bool.not_true, Bool.or_self, cond_false]
 have hk : -1099511627776 < n.tmod 1099511627776 ∧ n.tmod 1099511627776 < 1099511627776 := by
  have h1 : (n.tmod 1099511627776).natAbs < 1099511627776 := by
   rw [Int.natAbs_tmod]
   exact Nat.mod_lt _ (by decide)
  omega
 generalize n.tmod 1099511627776 = k at *
 rw [ZQ (x := 0 - k) (by omega), Int.zero_sub]
 have high : ∀ {g : Form} {d : Int}, Z0c g (-k) = some (Z7w d) → Z0h g k = some ((ZE (Z7w d)).1) := fun h => by
  unfold Z0h
  rw [iMax_eq, show max k (-4611686018427387904) = k by omega, ZQ (x := 0 - k) (by omega), Int.zero_sub, h]
  rfl
 obtain ⟨d1, l1, s1⟩ := Z3q hl rf sf.few (-k)
 rw [l1]
 simp only [Option.bind_some]
 rw [minus_zero ⟨s1.1, s1.2.1⟩, high l1]
 simp only [bne_self_eq_false, cond_false, Option.bind_some, beq_self_eq_true, Bool.and_self, Bool.not_true]
 by_cases ho : (f.Odd.length : Int) > 0
 ·rw [Ze ho]; rfl
 rw [Zm ho]
 by_cases h0 : f.Count = 0
 ·rw [beq_t h0]; rfl
 rw [beq_f h0]
 simp only [Bool.or_self, cond_false]
 have hodd : f.Odd = [] := List.eq_nil_of_length_eq_zero (by omega)
 rw [app?_ok (by have := Z4V; simp only [List.length_nil]; omega)]
 simp only [Option.bind_some, List.nil_append]
 have hcnt := hs.count
 have hper := hs.per
 rw [ZQ (x := 2 * f.Period) (by omega), ZQ (x := 2 * f.Count) (by omega), turn_outer hl hs (by omega) (by omega)]
 simp only [Option.bind_some]
 generalize hT : Form.mk (2 * f.Period) (2 * f.Count) (f.Core ++ f.Core.map (fun l => l.map (Zh f.Period))) [] = T
 have hrep : repC f 2 = f.Core ++ f.Core.map (fun l => l.map (Zh f.Period)) := by
  show repC f 1 ++ _ = _
  rw [repC_one]
  simp
 have hTeq : T = Form.mk (f.Period * (2 : Nat)) (f.Count * (2 : Nat)) (repC f 2) [] := by
  rw [← hT, hrep]
  congr 1 <;> push_cast <;> omega
 have limT : Lim T := by
  rw [← hT]
  refine ⟨?_, fun l hm => ?_, by simp, by simp, ?_, ?_⟩
  ·have := Z18
   simp only [List.length_append, List.length_map]
   omega
  ·rcases List.mem_append.1 hm with hm | hm
   ·exact hl.sets l hm
   ·obtain ⟨m, hm', rfl⟩ := List.mem_map.1 hm
    refine ⟨by unfold Len; rw [List.length_map]; exact (hl.sets m hm').1, fun s hs' => ?_⟩
    obtain ⟨t, ht, rfl⟩ := List.mem_map.1 hs'
    obtain ⟨j, hj, rfl⟩ := List.getElem_of_mem ht
    obtain ⟨t1, t2, _⟩ := (hs.core m hm').ok j _ (List.getElem?_eq_getElem hj)
    unfold ZP at t1 t2
    unfold In64 Zh
    simp only
    omega
  ·unfold In64; simp only; omega
  ·unfold In64; simp only; omega
 have hset : ZY T = ZY f := by
  funext i
  have n1 : ¬ Z0H T i := by rw [← hT]; unfold Z0H; simp
  have n2 : ¬ Z0H f i := by unfold Z0H; rw [hodd]; simp
  rw [Z31 n1, Z31 n2, hTeq, turned_csz hs (n := 2) (by omega)]
 rcases Z6l limT with ⟨_, h⟩ | ⟨_, rT, h⟩ | ⟨_, _, h⟩
 ·rw [h]; rfl
 ·rw [h]
  simp only [Option.bind_some, bne_self_eq_false, cond_false]
  have fT : FewF T := by
   rw [← hT]
   refine ⟨?_, by simp⟩
   simp only [List.length_append, List.length_map]
   omega
  obtain ⟨d2, l2, s2⟩ := Z3q limT rT fT k
  obtain ⟨d3, l3, s3⟩ := Z3q hl rf sf.few k
  obtain ⟨d4, l4, s4⟩ := Z3q limT rT fT (-k)
  have e23 : d2 = d3 := lowD_uniq s2 s3 (fun z => near_same hset)
  have e41 : d4 = d1 := lowD_uniq s4 s1 (fun z => near_same hset)
  subst e23 e41
  rw [l2, l3, high l4]
  simp
  rfl
 ·rw [h]; rfl

end Go.Dn
