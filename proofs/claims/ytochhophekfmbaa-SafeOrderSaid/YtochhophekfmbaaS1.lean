/- The package safe: what its functions answer. -/
import Derived.Test.YtochhophekfmbaaD18
import Derived.Test.YtochhophekfmbaaProg
import Derived.KernelRfl
set_option linter.unusedSimpArgs false
set_option linter.unusedVariables false
namespace Go.Dn
open Go Go.Proofs

/-- What is said of the program's functions without a look into them. -/
noncomputable def gcdV : List PV → Option PV
  | [.v (.int .u64 a), .v (.int .u64 b)] => if (0 ≤ a ∧ a ≤ 18446744073709551615) ∧ 0 ≤ b ∧ b ≤ 18446744073709551615 then some (.v (.int .u64 (Int.gcd a b))) else none
  | _ => none

noncomputable def CX : Ctx := { P := Try.prog, glob := fun _ => none, intr := fun f args => if f = 52 then gcdV args else none, opn := fun _ => false, keep := fun _ => false }

abbrev lo64 : Int := -9223372036854775808
abbrev hi64 : Int := 9223372036854775807

def In64 (a : Int) : Prop := -9223372036854775808 ≤ a ∧ a ≤ 9223372036854775807
def InU64 (a : Int) : Prop := 0 ≤ a ∧ a ≤ 18446744073709551615

theorem wrap_i64 (a : Int) : IntKind.i64.wrap a = (a + 9223372036854775808) % 18446744073709551616 - 9223372036854775808 := by
  simp [IntKind.wrap, IntKind.bits, IntKind.signed]
  split <;> omega
theorem wrap_u64 (a : Int) : IntKind.u64.wrap a = a % 18446744073709551616 := by
  simp [IntKind.wrap, IntKind.bits, IntKind.signed]

def fitS (a : Int) : Int × Int := if -9223372036854775808 ≤ a ∧ a ≤ 9223372036854775807 then (a, 0) else (0, 10)

abbrev int64 (a : Int) : PV := .v (.int .i64 a)
abbrev uint64 (a : Int) : PV := .v (.int .u64 a)
abbrev two64 (p : Int × Int) : PV := .tup [.v (.int .i64 p.1), .v (.int .i64 p.2)]

theorem two64_of {x y : Int} {p : Int × Int} (h : (x, y) = p) : PV.tup [.v (.int .i64 x), .v (.int .i64 y)] = two64 p := by rw [← h]
theorem uint64_of {x y : Int} (h : x = y) : PV.v (.int .u64 x) = uint64 y := by rw [h]

set_option maxRecDepth 100000 in
theorem add_fn (a b : Int) (ha : In64 a) (hb : In64 b) : Fn CX 17 [int64 a, int64 b] (two64 (fitS (a + b))) := by
  refine Fn.ends Try.func17 rfl rfl rfl rfl rfl rfl ?_
  repeat' first
    | (apply Ops.moveV; exact rfl; exact rfl)
    | (apply Ops.int; exact rfl; exact rfl; exact rfl; exact rfl; exact rfl)
    | (apply Ops.assignV; exact rfl; exact rfl)
    | apply Runs.then
    | (apply Runs.region; exact rfl)
    | apply Ops.nil
    | (apply Ops.extract; exact rfl; exact rfl; exact rfl)
    | (apply Ops.moveT; exact rfl; exact rfl)
    | (apply Ops.moveA; exact rfl; exact rfl)
    | (apply Ops.assignA; exact rfl; exact rfl)
    | (apply Ops.not; exact rfl; exact rfl)
    | (apply Ops.neg; exact rfl; exact rfl)
    | (apply Ops.conv; exact rfl; exact rfl; exact rfl; exact rfl)
    | (apply Ops.shr; exact rfl; exact rfl; decide; exact rfl)
    | (apply Ops.shl; exact rfl; exact rfl; decide; exact rfl)
    | (apply Ops.neB; exact rfl; exact rfl; exact rfl; exact rfl)
    | (apply Ops.eqB; exact rfl; exact rfl; exact rfl; exact rfl)
    | (apply Ops.pickTV; exact rfl; exact rfl; exact rfl)
    | (apply Ops.pickFV; exact rfl; exact rfl; exact rfl)
    | (apply Ops.want; exact rfl; exact rfl)
    | (apply Ops.pass; exact rfl; exact rfl; exact rfl)
    | (apply Ops.passU; exact rfl; exact rfl; exact rfl)
    | (apply Runs.drawn; kernel_rfl; exact rfl)
    | apply Runs.inBlock
    | (apply Ops.knownT; exact rfl; exact rfl; assumption)
    | (apply Ops.knownF; exact rfl; exact rfl; assumption)
    | (refine Ops.split rfl rfl ?_ ?_ <;> intro _)
    | (apply Runs.yes; exact rfl)
    | (apply Runs.no; exact rfl)
    | (apply Runs.yesB; exact rfl; assumption)
    | (apply Runs.noB; exact rfl; assumption)
    | (refine Runs.whether rfl ?_ ?_ <;> intro _)
    | apply Runs.skip
    | apply Runs.ret
    | apply Runs.exit
    | (apply Ends.ret; exact rfl; exact rfl)
    | (apply Ends.normal; exact rfl; exact rfl)
  all_goals (refine two64_of ?_; simp only [wrap_i64, fitS, In64, bne_iff_ne, beq_iff_eq, ne_eq, decide_eq_decide, bne_eq_false_iff_eq] at *; split <;> simp only [Prod.mk.injEq, and_true, true_and] <;> omega)

set_option maxRecDepth 100000 in
theorem sub_fn (a b : Int) (ha : In64 a) (hb : In64 b) : Fn CX 21 [int64 a, int64 b] (two64 (fitS (a - b))) := by
  refine Fn.ends Try.func21 rfl rfl rfl rfl rfl rfl ?_
  repeat' first
    | (apply Ops.moveV; exact rfl; exact rfl)
    | (apply Ops.int; exact rfl; exact rfl; exact rfl; exact rfl; exact rfl)
    | (apply Ops.assignV; exact rfl; exact rfl)
    | apply Runs.then
    | (apply Runs.region; exact rfl)
    | apply Ops.nil
    | (apply Ops.extract; exact rfl; exact rfl; exact rfl)
    | (apply Ops.moveT; exact rfl; exact rfl)
    | (apply Ops.moveA; exact rfl; exact rfl)
    | (apply Ops.assignA; exact rfl; exact rfl)
    | (apply Ops.not; exact rfl; exact rfl)
    | (apply Ops.neg; exact rfl; exact rfl)
    | (apply Ops.conv; exact rfl; exact rfl; exact rfl; exact rfl)
    | (apply Ops.shr; exact rfl; exact rfl; decide; exact rfl)
    | (apply Ops.shl; exact rfl; exact rfl; decide; exact rfl)
    | (apply Ops.neB; exact rfl; exact rfl; exact rfl; exact rfl)
    | (apply Ops.eqB; exact rfl; exact rfl; exact rfl; exact rfl)
    | (apply Ops.pickTV; exact rfl; exact rfl; exact rfl)
    | (apply Ops.pickFV; exact rfl; exact rfl; exact rfl)
    | (apply Ops.want; exact rfl; exact rfl)
    | (apply Ops.pass; exact rfl; exact rfl; exact rfl)
    | (apply Ops.passU; exact rfl; exact rfl; exact rfl)
    | (apply Runs.drawn; kernel_rfl; exact rfl)
    | apply Runs.inBlock
    | (apply Ops.knownT; exact rfl; exact rfl; assumption)
    | (apply Ops.knownF; exact rfl; exact rfl; assumption)
    | (refine Ops.split rfl rfl ?_ ?_ <;> intro _)
    | (apply Runs.yes; exact rfl)
    | (apply Runs.no; exact rfl)
    | (apply Runs.yesB; exact rfl; assumption)
    | (apply Runs.noB; exact rfl; assumption)
    | (refine Runs.whether rfl ?_ ?_ <;> intro _)
    | apply Runs.skip
    | apply Runs.ret
    | apply Runs.exit
    | (apply Ends.ret; exact rfl; exact rfl)
    | (apply Ends.normal; exact rfl; exact rfl)
  all_goals (refine two64_of ?_; simp only [wrap_i64, fitS, In64, bne_iff_ne, beq_iff_eq, ne_eq, decide_eq_decide, bne_eq_false_iff_eq] at *; split <;> simp only [Prod.mk.injEq, and_true, true_and] <;> omega)

set_option maxRecDepth 100000 in
theorem size_fn (a : Int) (ha : In64 a) : Fn CX 50 [int64 a] (uint64 a.natAbs) := by
  refine Fn.ends Try.func50 rfl rfl rfl rfl rfl rfl ?_
  repeat' first
    | (apply Ops.moveV; exact rfl; exact rfl)
    | (apply Ops.int; exact rfl; exact rfl; exact rfl; exact rfl; exact rfl)
    | (apply Ops.assignV; exact rfl; exact rfl)
    | apply Runs.then
    | (apply Runs.region; exact rfl)
    | apply Ops.nil
    | (apply Ops.extract; exact rfl; exact rfl; exact rfl)
    | (apply Ops.moveT; exact rfl; exact rfl)
    | (apply Ops.moveA; exact rfl; exact rfl)
    | (apply Ops.assignA; exact rfl; exact rfl)
    | (apply Ops.not; exact rfl; exact rfl)
    | (apply Ops.neg; exact rfl; exact rfl)
    | (apply Ops.conv; exact rfl; exact rfl; exact rfl; exact rfl)
    | (apply Ops.shr; exact rfl; exact rfl; decide; exact rfl)
    | (apply Ops.shl; exact rfl; exact rfl; decide; exact rfl)
    | (apply Ops.neB; exact rfl; exact rfl; exact rfl; exact rfl)
    | (apply Ops.eqB; exact rfl; exact rfl; exact rfl; exact rfl)
    | (apply Ops.pickTV; exact rfl; exact rfl; exact rfl)
    | (apply Ops.pickFV; exact rfl; exact rfl; exact rfl)
    | (apply Ops.want; exact rfl; exact rfl)
    | (apply Ops.pass; exact rfl; exact rfl; exact rfl)
    | (apply Ops.passU; exact rfl; exact rfl; exact rfl)
    | (apply Runs.drawn; kernel_rfl; exact rfl)
    | apply Runs.inBlock
    | (apply Ops.knownT; exact rfl; exact rfl; assumption)
    | (apply Ops.knownF; exact rfl; exact rfl; assumption)
    | (refine Ops.split rfl rfl ?_ ?_ <;> intro _)
    | (apply Runs.yes; exact rfl)
    | (apply Runs.no; exact rfl)
    | (apply Runs.yesB; exact rfl; assumption)
    | (apply Runs.noB; exact rfl; assumption)
    | (refine Runs.whether rfl ?_ ?_ <;> intro _)
    | apply Runs.skip
    | apply Runs.ret
    | apply Runs.exit
    | (apply Ends.ret; exact rfl; exact rfl)
    | (apply Ends.normal; exact rfl; exact rfl)
  all_goals (refine uint64_of ?_; simp only [wrap_u64, In64, decide_eq_true_eq, decide_eq_false_iff_not] at *; omega)

def signedS (n : Int) (minus : Bool) : Int × Int := fitS (if minus then -n else n)

set_option maxRecDepth 100000 in
theorem signed_fn (n : Int) (m : Bool) (hn : InU64 n) : Fn CX 51 [uint64 n, .v (.bool m)] (two64 (signedS n m)) := by
  refine Fn.ends Try.func51 rfl rfl rfl rfl rfl rfl ?_
  repeat' first
    | (apply Ops.moveV; exact rfl; exact rfl)
    | (apply Ops.int; exact rfl; exact rfl; exact rfl; exact rfl; exact rfl)
    | (apply Ops.assignV; exact rfl; exact rfl)
    | apply Runs.then
    | (apply Runs.region; exact rfl)
    | apply Ops.nil
    | (apply Ops.extract; exact rfl; exact rfl; exact rfl)
    | (apply Ops.moveT; exact rfl; exact rfl)
    | (apply Ops.moveA; exact rfl; exact rfl)
    | (apply Ops.assignA; exact rfl; exact rfl)
    | (apply Ops.not; exact rfl; exact rfl)
    | (apply Ops.neg; exact rfl; exact rfl)
    | (apply Ops.conv; exact rfl; exact rfl; exact rfl; exact rfl)
    | (apply Ops.shr; exact rfl; exact rfl; decide; exact rfl)
    | (apply Ops.shl; exact rfl; exact rfl; decide; exact rfl)
    | (apply Ops.neB; exact rfl; exact rfl; exact rfl; exact rfl)
    | (apply Ops.eqB; exact rfl; exact rfl; exact rfl; exact rfl)
    | (apply Ops.pickTV; exact rfl; exact rfl; exact rfl)
    | (apply Ops.pickFV; exact rfl; exact rfl; exact rfl)
    | (apply Ops.want; exact rfl; exact rfl)
    | (apply Ops.pass; exact rfl; exact rfl; exact rfl)
    | (apply Ops.passU; exact rfl; exact rfl; exact rfl)
    | (apply Runs.drawn; kernel_rfl; exact rfl)
    | apply Runs.inBlock
    | (apply Ops.knownT; exact rfl; exact rfl; assumption)
    | (apply Ops.knownF; exact rfl; exact rfl; assumption)
    | (refine Ops.split rfl rfl ?_ ?_ <;> intro _)
    | (apply Runs.yes; exact rfl)
    | (apply Runs.no; exact rfl)
    | (apply Runs.yesB; exact rfl; assumption)
    | (apply Runs.noB; exact rfl; assumption)
    | (refine Runs.whether rfl ?_ ?_ <;> intro _)
    | apply Runs.skip
    | apply Runs.ret
    | apply Runs.exit
    | (apply Ends.ret; exact rfl; exact rfl)
    | (apply Ends.normal; exact rfl; exact rfl)
  all_goals (refine two64_of ?_; simp only [wrap_i64, wrap_u64, signedS, fitS, InU64, decide_eq_true_eq, decide_eq_false_iff_not, Bool.not_eq_true', Bool.not_eq_false'] at *; subst_vars; first | contradiction | (simp only [Bool.false_eq_true, if_true, if_false]; split <;> simp only [Prod.mk.injEq, and_true, true_and] <;> omega) | trace_state)

theorem and32 (x : Int) (h : InU64 x) : (((BitVec.ofInt 64 x &&& BitVec.ofInt 64 4294967295).toNat : Nat) : Int) = x % 4294967296 := by
  obtain ⟨n, rfl⟩ := Int.eq_ofNat_of_zero_le h.1
  have hn : n < 2 ^ 64 := by have := h.2; omega
  have h1 : (BitVec.ofInt 64 (n : Int)).toNat = n := by simp [BitVec.toNat_ofInt]; omega
  have h2 : (BitVec.ofInt 64 4294967295).toNat = 2 ^ 32 - 1 := by decide
  rw [BitVec.toNat_and, h1, h2, Nat.and_two_pow_sub_one_eq_mod]
  omega

theorem mul64_fact {x y : Int} (hx : InU64 x) (hy : InU64 y) :
    (x / 4294967296 * (y / 4294967296) + (x / 4294967296 * (y % 4294967296) + x % 4294967296 * (y % 4294967296) / 4294967296) / 4294967296 +
      ((x / 4294967296 * (y % 4294967296) + x % 4294967296 * (y % 4294967296) / 4294967296) % 4294967296 + x % 4294967296 * (y / 4294967296)) / 4294967296) = x * y / 18446744073709551616 ∧
    0 ≤ x % 4294967296 * (y % 4294967296) ∧ x % 4294967296 * (y % 4294967296) ≤ 18446744065119617025 ∧
    0 ≤ x / 4294967296 * (y % 4294967296) ∧ x / 4294967296 * (y % 4294967296) ≤ 18446744065119617025 ∧
    0 ≤ x % 4294967296 * (y / 4294967296) ∧ x % 4294967296 * (y / 4294967296) ≤ 18446744065119617025 ∧
    0 ≤ x / 4294967296 * (y / 4294967296) ∧ x / 4294967296 * (y / 4294967296) ≤ 18446744065119617025 := by
  have b : ∀ {u v : Int}, 0 ≤ u → u ≤ 4294967295 → 0 ≤ v → v ≤ 4294967295 → 0 ≤ u * v ∧ u * v ≤ 18446744065119617025 := by
    intro u v h1 h2 h3 h4
    exact ⟨Int.mul_nonneg h1 h3, Int.le_trans (Int.mul_le_mul h2 h4 h3 (by omega)) (by decide)⟩
  obtain ⟨hx1, hx2⟩ := hx
  obtain ⟨hy1, hy2⟩ := hy
  obtain ⟨a1, a2⟩ := b (u := x % 4294967296) (v := y % 4294967296) (by omega) (by omega) (by omega) (by omega)
  obtain ⟨b1, b2⟩ := b (u := x / 4294967296) (v := y % 4294967296) (by omega) (by omega) (by omega) (by omega)
  obtain ⟨c1, c2⟩ := b (u := x % 4294967296) (v := y / 4294967296) (by omega) (by omega) (by omega) (by omega)
  obtain ⟨d1, d2⟩ := b (u := x / 4294967296) (v := y / 4294967296) (by omega) (by omega) (by omega) (by omega)
  refine ⟨?_, a1, a2, b1, b2, c1, c2, d1, d2⟩
  have e : x * y = x / 4294967296 * (y / 4294967296) * 18446744073709551616 + (x / 4294967296 * (y % 4294967296) + x % 4294967296 * (y / 4294967296)) * 4294967296 + x % 4294967296 * (y % 4294967296) := by
    have ex : x = x / 4294967296 * 4294967296 + x % 4294967296 := by omega
    have ey : y = y / 4294967296 * 4294967296 + y % 4294967296 := by omega
    clear a1 a2 b1 b2 c1 c2 d1 d2 b hx1 hx2 hy1 hy2
    generalize x / 4294967296 = x1 at *
    generalize x % 4294967296 = x0 at *
    generalize y / 4294967296 = y1 at *
    generalize y % 4294967296 = y0 at *
    subst ex ey
    simp only [Int.add_mul, Int.mul_add]
    have h1 : x1 * 4294967296 * (y1 * 4294967296) = x1 * y1 * 18446744073709551616 := by
      rw [Int.mul_assoc, Int.mul_comm 4294967296, Int.mul_assoc y1, ← Int.mul_assoc]
      rfl
    have h2 : x1 * 4294967296 * y0 = x1 * y0 * 4294967296 := by rw [Int.mul_assoc, Int.mul_comm 4294967296, ← Int.mul_assoc]
    have h3 : x0 * (y1 * 4294967296) = x0 * y1 * 4294967296 := by rw [← Int.mul_assoc]
    rw [h1, h2, h3]
    omega
  rw [e]
  generalize x / 4294967296 * (y / 4294967296) = d at *
  generalize x / 4294967296 * (y % 4294967296) = b' at *
  generalize x % 4294967296 * (y / 4294967296) = c at *
  generalize x % 4294967296 * (y % 4294967296) = a at *
  omega

set_option maxRecDepth 100000 in
theorem mul64_fn (x y : Int) (hx : InU64 x) (hy : InU64 y) : Fn CX 49 [uint64 x, uint64 y] (.tup [uint64 (x * y / 18446744073709551616), uint64 (x * y % 18446744073709551616)]) := by
  refine Fn.ends Try.func49 rfl rfl rfl rfl rfl rfl ?_
  repeat' first
    | (apply Ops.moveV; exact rfl; exact rfl)
    | (apply Ops.int; exact rfl; exact rfl; exact rfl; exact rfl; exact rfl)
    | (apply Ops.assignV; exact rfl; exact rfl)
    | apply Runs.then
    | (apply Runs.region; exact rfl)
    | apply Ops.nil
    | (apply Ops.extract; exact rfl; exact rfl; exact rfl)
    | (apply Ops.moveT; exact rfl; exact rfl)
    | (apply Ops.moveA; exact rfl; exact rfl)
    | (apply Ops.assignA; exact rfl; exact rfl)
    | (apply Ops.not; exact rfl; exact rfl)
    | (apply Ops.neg; exact rfl; exact rfl)
    | (apply Ops.conv; exact rfl; exact rfl; exact rfl; exact rfl)
    | (apply Ops.shr; exact rfl; exact rfl; decide; exact rfl)
    | (apply Ops.shl; exact rfl; exact rfl; decide; exact rfl)
    | (apply Ops.neB; exact rfl; exact rfl; exact rfl; exact rfl)
    | (apply Ops.eqB; exact rfl; exact rfl; exact rfl; exact rfl)
    | (apply Ops.pickTV; exact rfl; exact rfl; exact rfl)
    | (apply Ops.pickFV; exact rfl; exact rfl; exact rfl)
    | (apply Ops.want; exact rfl; exact rfl)
    | (apply Ops.pass; exact rfl; exact rfl; exact rfl)
    | (apply Ops.passU; exact rfl; exact rfl; exact rfl)
    | (apply Runs.drawn; kernel_rfl; exact rfl)
    | apply Runs.inBlock
    | (apply Ops.knownT; exact rfl; exact rfl; assumption)
    | (apply Ops.knownF; exact rfl; exact rfl; assumption)
    | (refine Ops.split rfl rfl ?_ ?_ <;> intro _)
    | (apply Runs.yes; exact rfl)
    | (apply Runs.no; exact rfl)
    | (apply Runs.yesB; exact rfl; assumption)
    | (apply Runs.noB; exact rfl; assumption)
    | (refine Runs.whether rfl ?_ ?_ <;> intro _)
    | apply Runs.skip
    | apply Runs.ret
    | apply Runs.exit
    | (apply Ends.ret; exact rfl; exact rfl)
    | (apply Ends.normal; exact rfl; exact rfl)
  show PV.tup [PV.v (.int .u64 _), PV.v (.int .u64 _)] = _
  have hb : ∀ z : Int, z.fdiv (2 ^ min (Int.toNat 32) IntKind.u64.bits) = z / 4294967296 := fun z => Int.fdiv_eq_ediv_of_nonneg z (by decide)
  have hm : (IntKind.u64.bits) = 64 := rfl
  obtain ⟨h1, h2, h3, h4, h5, h6, h7, h8, h9⟩ := mul64_fact hx hy
  have hw : ∀ z : Int, 0 ≤ z → z ≤ 18446744073709551615 → IntKind.u64.wrap z = z := fun z q1 q2 => by rw [wrap_u64]; omega
  simp only [hb]
  rw [hm, and32 x hx, and32 y hy]
  have x0 : 0 ≤ x % 4294967296 ∧ x % 4294967296 < 4294967296 := by omega
  have y0 : 0 ≤ y % 4294967296 ∧ y % 4294967296 < 4294967296 := by omega
  rw [hw (x % 4294967296) (by omega) (by omega), hw (y % 4294967296) (by omega) (by omega), hw _ h2 (by omega), hw _ h4 (by omega), hw _ h6 (by omega), hw _ h8 (by omega)]
  rw [hw (x / 4294967296 * (y % 4294967296) + x % 4294967296 * (y % 4294967296) / 4294967296) (by omega) (by omega)]
  rw [and32 _ ⟨by omega, by omega⟩]
  have t0 : 0 ≤ (x / 4294967296 * (y % 4294967296) + x % 4294967296 * (y % 4294967296) / 4294967296) % 4294967296 ∧ (x / 4294967296 * (y % 4294967296) + x % 4294967296 * (y % 4294967296) / 4294967296) % 4294967296 < 4294967296 := by omega
  rw [hw ((x / 4294967296 * (y % 4294967296) + x % 4294967296 * (y % 4294967296) / 4294967296) % 4294967296) (by omega) (by omega)]
  rw [hw ((x / 4294967296 * (y % 4294967296) + x % 4294967296 * (y % 4294967296) / 4294967296) % 4294967296 + x % 4294967296 * (y / 4294967296)) (by omega) (by omega)]
  rw [hw (x / 4294967296 * (y / 4294967296) + (x / 4294967296 * (y % 4294967296) + x % 4294967296 * (y % 4294967296) / 4294967296) / 4294967296) (by omega) (by omega)]
  rw [hw _ (by omega) (by omega), h1, wrap_u64]

end Go.Dn
