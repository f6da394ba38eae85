/- The package safe: products, quotients, divisors. -/
import Derived.Test.YtochhophekfmbaaS1
set_option linter.unusedSimpArgs false
set_option linter.unusedVariables false
namespace Go.Dn
open Go Go.Proofs

theorem in64_0 : In64 0 := ⟨by decide, by decide⟩
theorem inU_abs {a : Int} (h : In64 a) : InU64 a.natAbs := by unfold In64 at h; unfold InU64; omega
theorem inU_div {a : Int} (h : InU64 a) {b : Int} (hb : InU64 b) : InU64 (a / b) := ⟨Int.ediv_nonneg h.1 hb.1, Int.le_trans (Int.ediv_le_self _ h.1) h.2⟩
theorem inU_mod (a : Int) : InU64 (a % 18446744073709551616) := by unfold InU64; omega
theorem fitS_in (a : Int) : In64 (fitS a).1 := by unfold fitS In64; split <;> simp <;> omega

theorem natAbs_prod (a b : Int) : (a.natAbs : Int) * b.natAbs = (a * b).natAbs := by rw [Int.natAbs_mul]; simp

set_option maxRecDepth 100000 in
theorem mul_fn (a b : Int) (ha : In64 a) (hb : In64 b) : Fn CX 16 [int64 a, int64 b] (two64 (fitS (a * b))) := by
  refine Fn.ends Try.func16 rfl rfl rfl rfl rfl rfl ?_
  repeat' first
    | (apply Ops.moveV; exact rfl; exact rfl)
    | (apply Ops.int; exact rfl; exact rfl; exact rfl; exact rfl; exact rfl)
    | (apply Ops.assignV; exact rfl; exact rfl)
    | apply Runs.then
    | (apply Runs.region; exact rfl)
    | apply Ops.nil
    | (apply Ops.extract; exact rfl; exact rfl; exact rfl)
    | (apply Ops.moveT; exact rfl; exact rfl)
    | (apply Ops.moveA; exact rfl; exact rfl)
    | (apply Ops.assignA; exact rfl; exact rfl)
    | (apply Ops.not; exact rfl; exact rfl)
    | (apply Ops.neg; exact rfl; exact rfl)
    | (apply Ops.conv; exact rfl; exact rfl; exact rfl; exact rfl)
    | (apply Ops.shr; exact rfl; exact rfl; decide; exact rfl)
    | (apply Ops.shl; exact rfl; exact rfl; decide; exact rfl)
    | (apply Ops.neB; exact rfl; exact rfl; exact rfl; exact rfl)
    | (apply Ops.eqB; exact rfl; exact rfl; exact rfl; exact rfl)
    | (apply Ops.pickTV; exact rfl; exact rfl; exact rfl)
    | (apply Ops.pickFV; exact rfl; exact rfl; exact rfl)
    | (apply Ops.want; exact rfl; exact rfl)
    | (apply Ops.pass; exact rfl; exact rfl; exact rfl)
    | (apply Ops.passU; exact rfl; exact rfl; exact rfl)
    | (apply Runs.drawn; kernel_rfl; exact rfl)
    | apply Runs.inBlock
    | refine Ops.call rfl (size_fn _ (by assumption)) rfl ?_
    | refine Ops.call rfl (mul64_fn _ _ (inU_abs (by assumption)) (inU_abs (by assumption))) rfl ?_
    | refine Ops.call rfl (signed_fn _ _ (inU_mod _)) rfl ?_
    | (apply Ops.knownT; exact rfl; exact rfl; assumption)
    | (apply Ops.knownF; exact rfl; exact rfl; assumption)
    | (refine Ops.split rfl rfl ?_ ?_ <;> intro _)
    | (apply Runs.yes; exact rfl)
    | (apply Runs.no; exact rfl)
    | (apply Runs.yesB; exact rfl; assumption)
    | (apply Runs.noB; exact rfl; assumption)
    | (refine Runs.whether rfl ?_ ?_ <;> intro _)
    | apply Runs.skip
    | apply Runs.ret
    | apply Runs.exit
    | (apply Ends.ret; exact rfl; exact rfl)
    | (apply Ends.normal; exact rfl; exact rfl)
  · rename_i h
    refine two64_of ?_
    rw [natAbs_prod] at h
    simp only [bne_iff_ne, ne_eq, fitS] at h ⊢
    rw [if_neg]
    omega
  · rename_i h
    refine two64_of ?_
    rw [natAbs_prod] at h ⊢
    simp only [bne_eq_false_iff_eq] at h
    have e : ((a * b).natAbs : Int) % 18446744073709551616 = (a * b).natAbs := by omega
    rw [e]
    refine congrArg fitS ?_
    by_cases h1 : a < 0 <;> by_cases h2 : b < 0 <;> simp only [h1, h2, decide_true, decide_false]
    · have := Int.mul_nonneg_of_nonpos_of_nonpos (Int.le_of_lt h1) (Int.le_of_lt h2)
      simp; omega
    · have := Int.mul_nonpos_of_nonpos_of_nonneg (Int.le_of_lt h1) (Int.not_lt.1 h2)
      simp; omega
    · have := Int.mul_nonpos_of_nonneg_of_nonpos (Int.not_lt.1 h1) (Int.le_of_lt h2)
      simp; omega
    · have := Int.mul_nonneg (Int.not_lt.1 h1) (Int.not_lt.1 h2)
      simp; omega

def floorS (a b : Int) : Int × Int × Int := if b = 0 then (0, 0, 11) else if b = -1 ∧ a = -9223372036854775808 then (0, 0, 10) else (a.fdiv b, a.fmod b, 0)
abbrev three64 (p : Int × Int × Int) : PV := .tup [.v (.int .i64 p.1), .v (.int .i64 p.2.1), .v (.int .i64 p.2.2)]
theorem three64_of {x y z : Int} {p : Int × Int × Int} (h : (x, y, z) = p) : PV.tup [.v (.int .i64 x), .v (.int .i64 y), .v (.int .i64 z)] = three64 p := by rw [← h]

theorem floor_up {a b : Int} (hb : b ≠ 0) (h1 : a.tmod b ≠ 0) (h2 : ¬(a.tmod b < 0 ↔ b < 0)) : a.fdiv b = a.tdiv b - 1 ∧ a.fmod b = a.tmod b + b := by
  have q1 := Int.emod_nonneg a hb
  have q2 := Int.emod_lt a hb
  have hd : b ∣ a ↔ a % b = 0 := Int.dvd_iff_emod_eq_zero
  rw [Int.fdiv_eq_ediv, Int.fmod_eq_emod, Int.tdiv_eq_ediv]
  rw [Int.tmod_eq_emod] at h1 h2 ⊢
  simp only [hd] at h1 h2 ⊢
  rcases Int.lt_or_gt_of_ne hb with h | h
  · rw [Int.sign_eq_neg_one_of_neg h]
    split at h1 <;> split <;> simp_all <;> omega
  · rw [Int.sign_eq_one_of_pos h]
    split at h1 <;> split <;> simp_all <;> omega

theorem floor_same {a b : Int} (hb : b ≠ 0) (h : a.tmod b = 0 ∨ (a.tmod b < 0 ↔ b < 0)) : a.fdiv b = a.tdiv b ∧ a.fmod b = a.tmod b := by
  have q1 := Int.emod_nonneg a hb
  have q2 := Int.emod_lt a hb
  have hd : b ∣ a ↔ a % b = 0 := Int.dvd_iff_emod_eq_zero
  rw [Int.fdiv_eq_ediv, Int.fmod_eq_emod, Int.tdiv_eq_ediv]
  rw [Int.tmod_eq_emod] at h ⊢
  simp only [hd] at h ⊢
  rcases Int.lt_or_gt_of_ne hb with hh | hh
  · rw [Int.sign_eq_neg_one_of_neg hh]
    split at h <;> split <;> simp_all <;> omega
  · rw [Int.sign_eq_one_of_pos hh]
    split at h <;> split <;> simp_all <;> omega

theorem tdiv_in {a b : Int} (ha : In64 a) (hb : b ≠ 0) (hn : ¬(b = -1 ∧ a = -9223372036854775808)) : In64 (a.tdiv b) := by
  have h : (a.tdiv b).natAbs = a.natAbs / b.natAbs := Int.natAbs_tdiv a b
  obtain ⟨h1, h2⟩ := ha
  by_cases hb1 : b = 1
  · subst hb1; rw [Int.tdiv_one]; exact ⟨h1, h2⟩
  · by_cases hb2 : b = -1
    · have ha' : a ≠ -9223372036854775808 := fun e => hn ⟨hb2, e⟩
      have : a.natAbs / b.natAbs ≤ a.natAbs := Nat.div_le_self _ _
      unfold In64; omega
    · have h3 : a.natAbs / b.natAbs ≤ a.natAbs / 2 := Nat.div_le_div_left (by omega) (by omega)
      unfold In64; omega

theorem tdiv_in1 {a b : Int} (ha : In64 a) (hb : b ≠ 0) (h1 : a.tmod b ≠ 0) : In64 (a.tdiv b - 1) := by
  have h : (a.tdiv b).natAbs = a.natAbs / b.natAbs := Int.natAbs_tdiv a b
  obtain ⟨h2, h3⟩ := ha
  by_cases hb1 : b = 1
  · subst hb1; simp at h1
  · by_cases hb2 : b = -1
    · subst hb2; simp at h1
    · have h3 : a.natAbs / b.natAbs ≤ a.natAbs / 2 := Nat.div_le_div_left (by omega) (by omega)
      unfold In64; omega

theorem tmod_in {a b : Int} (hb : In64 b) (hb0 : b ≠ 0) : In64 (a.tmod b) := by
  have h : (a.tmod b).natAbs = a.natAbs % b.natAbs := Int.natAbs_tmod a b
  have : a.natAbs % b.natAbs < b.natAbs := Nat.mod_lt _ (by omega)
  unfold In64 at *; omega

theorem wrap_in {a : Int} (h : In64 a) : IntKind.i64.wrap a = a := by rw [wrap_i64]; unfold In64 at h; omega

theorem fmod_in {a b : Int} (hb : In64 b) (hb0 : b ≠ 0) : In64 (a.fmod b) := by
  have q1 := Int.emod_nonneg a hb0
  have q2 := Int.emod_lt a hb0
  rw [Int.fmod_eq_emod]
  unfold In64 at *
  split <;> omega

theorem floor_leaf1 {a b : Int} (ha : In64 a) (hb : In64 b) (h0 : b ≠ 0) (hn : ¬(b = -1 ∧ a = -9223372036854775808)) (h1 : a.tmod b ≠ 0) (h2 : ¬(a.tmod b < 0 ↔ b < 0)) :
    (IntKind.i64.wrap (IntKind.i64.wrap (a.tdiv b) - 1), IntKind.i64.wrap (a.tmod b + b), (0 : Int)) = floorS a b := by
  obtain ⟨e1, e2⟩ := floor_up h0 h1 h2
  rw [floorS, if_neg h0, if_neg hn, e1, e2, wrap_in (tdiv_in ha h0 hn), wrap_in (tdiv_in1 ha h0 h1), wrap_in (by rw [← e2]; exact fmod_in hb h0)]

theorem floor_leaf2 {a b : Int} (ha : In64 a) (hb : In64 b) (h0 : b ≠ 0) (hn : ¬(b = -1 ∧ a = -9223372036854775808)) (h : a.tmod b = 0 ∨ (a.tmod b < 0 ↔ b < 0)) :
    (IntKind.i64.wrap (a.tdiv b), a.tmod b, (0 : Int)) = floorS a b := by
  obtain ⟨e1, e2⟩ := floor_same h0 h
  rw [floorS, if_neg h0, if_neg hn, e1, e2, wrap_in (tdiv_in ha h0 hn)]

set_option maxRecDepth 100000 in
theorem floor_fn (a b : Int) (ha : In64 a) (hb : In64 b) : Fn CX 14 [int64 a, int64 b] (three64 (floorS a b)) := by
  refine Fn.ends Try.func14 rfl rfl rfl rfl rfl rfl ?_
  by_cases h0 : b = 0
  · subst h0
    repeat' first
      | (apply Ops.moveV; exact rfl; exact rfl)
      | (apply Ops.int; exact rfl; exact rfl; exact rfl; exact rfl; exact rfl)
      | (apply Ops.assignV; exact rfl; exact rfl)
      | apply Runs.then
      | (apply Runs.region; exact rfl)
      | apply Ops.nil
      | (apply Ops.extract; exact rfl; exact rfl; exact rfl)
      | (apply Ops.moveT; exact rfl; exact rfl)
      | (apply Ops.moveA; exact rfl; exact rfl)
      | (apply Ops.assignA; exact rfl; exact rfl)
      | (apply Ops.not; exact rfl; exact rfl)
      | (apply Ops.neg; exact rfl; exact rfl)
      | (apply Ops.conv; exact rfl; exact rfl; exact rfl; exact rfl)
      | (apply Ops.shr; exact rfl; exact rfl; decide; exact rfl)
      | (apply Ops.shl; exact rfl; exact rfl; decide; exact rfl)
      | (apply Ops.neB; exact rfl; exact rfl; exact rfl; exact rfl)
      | (apply Ops.eqB; exact rfl; exact rfl; exact rfl; exact rfl)
      | (apply Ops.pickTV; exact rfl; exact rfl; exact rfl)
      | (apply Ops.pickFV; exact rfl; exact rfl; exact rfl)
      | (apply Ops.want; exact rfl; exact rfl)
      | (apply Ops.pass; exact rfl; exact rfl; exact rfl)
      | (apply Ops.passU; exact rfl; exact rfl; exact rfl)
      | (apply Runs.drawn; kernel_rfl; exact rfl)
      | apply Runs.inBlock
      | (apply Ops.knownT; exact rfl; exact rfl; assumption)
      | (apply Ops.knownF; exact rfl; exact rfl; assumption)
      | (refine Ops.split rfl rfl ?_ ?_ <;> intro _)
      | (apply Runs.yes; exact rfl)
      | (apply Runs.no; exact rfl)
      | (apply Runs.yesB; exact rfl; assumption)
      | (apply Runs.noB; exact rfl; assumption)
      | (refine Runs.whether rfl ?_ ?_ <;> intro _)
      | apply Runs.skip
      | apply Runs.ret
      | apply Runs.exit
      | (apply Ends.ret; exact rfl; exact rfl)
      | (apply Ends.normal; exact rfl; exact rfl)
    all_goals first | (rename_i h; exact absurd h (by decide)) | exact three64_of rfl
  · refine id ?_
    repeat' first
      | (apply Ops.moveV; exact rfl; exact rfl)
      | (apply Ops.int; exact rfl; exact rfl; exact rfl; exact rfl; exact rfl)
      | (apply Ops.assignV; exact rfl; exact rfl)
      | apply Runs.then
      | (apply Runs.region; exact rfl)
      | apply Ops.nil
      | (apply Ops.extract; exact rfl; exact rfl; exact rfl)
      | (apply Ops.moveT; exact rfl; exact rfl)
      | (apply Ops.moveA; exact rfl; exact rfl)
      | (apply Ops.assignA; exact rfl; exact rfl)
      | (apply Ops.not; exact rfl; exact rfl)
      | (apply Ops.neg; exact rfl; exact rfl)
      | (apply Ops.conv; exact rfl; exact rfl; exact rfl; exact rfl)
      | (apply Ops.shr; exact rfl; exact rfl; decide; exact rfl)
      | (apply Ops.shl; exact rfl; exact rfl; decide; exact rfl)
      | (apply Ops.neB; exact rfl; exact rfl; exact rfl; exact rfl)
      | (apply Ops.eqB; exact rfl; exact rfl; exact rfl; exact rfl)
      | (apply Ops.pickTV; exact rfl; exact rfl; exact rfl)
      | (apply Ops.pickFV; exact rfl; exact rfl; exact rfl)
      | (apply Ops.want; exact rfl; exact rfl)
      | (apply Ops.pass; exact rfl; exact rfl; exact rfl)
      | (apply Ops.passU; exact rfl; exact rfl; exact rfl)
      | (apply Runs.drawn; kernel_rfl; exact rfl)
      | apply Runs.inBlock
      | refine Ops.quo rfl rfl h0 rfl ?_
      | refine Ops.rem rfl rfl h0 rfl ?_
      | (apply Ops.knownT; exact rfl; exact rfl; assumption)
      | (apply Ops.knownF; exact rfl; exact rfl; assumption)
      | (refine Ops.split rfl rfl ?_ ?_ <;> intro _)
      | (apply Runs.yes; exact rfl)
      | (apply Runs.no; exact rfl)
      | (apply Runs.yesB; exact rfl; assumption)
      | (apply Runs.noB; exact rfl; assumption)
      | (refine Runs.whether rfl ?_ ?_ <;> intro _)
      | apply Runs.skip
      | apply Runs.ret
      | apply Runs.exit
      | (apply Ends.ret; exact rfl; exact rfl)
      | (apply Ends.normal; exact rfl; exact rfl)
    all_goals refine three64_of ?_
    all_goals simp only [beq_iff_eq, beq_eq_false_iff_ne, bne_iff_ne, bne_eq_false_iff_eq, ne_eq, decide_eq_decide] at *
    · rename_i h; exact absurd h h0
    · rename_i h1 h2 h3
      rw [floorS, if_neg h0, if_pos ⟨h2, h3⟩]
    · rename_i h1 h2 h3 h4 h5; exact floor_leaf1 ha hb h0 (fun h => h3 h.2) h4 h5
    · rename_i h1 h2 h3 h4 h5; exact floor_leaf2 ha hb h0 (fun h => h3 h.2) (.inr h5)
    · rename_i h1 h2 h3 h4; exact floor_leaf2 ha hb h0 (fun h => h3 h.2) (.inl h4)
    · rename_i h1 h2 h3 h4; exact floor_leaf1 ha hb h0 (fun h => h2 h.1) h3 h4
    · rename_i h1 h2 h3 h4; exact floor_leaf2 ha hb h0 (fun h => h2 h.1) (.inr h4)
    · rename_i h1 h2 h3; exact floor_leaf2 ha hb h0 (fun h => h2 h.1) (.inl h3)

theorem gcd_fn (a b : Int) (ha : InU64 a) (hb : InU64 b) : Fn CX 52 [uint64 a, uint64 b] (uint64 (Int.gcd a b)) :=
  Fn.intr (by simp only [CX, gcdV, if_true]; rw [if_pos ⟨ha, hb⟩]) rfl rfl rfl

theorem gcd_le {a b : Int} (ha : InU64 a) (hb : InU64 b) : InU64 (Int.gcd a b) := by
  refine ⟨by omega, ?_⟩
  by_cases h : a = 0
  · subst h; rw [Int.gcd_zero_left]; have := hb.2; have := hb.1; omega
  · have := Int.gcd_le_natAbs_left b h
    have := ha.2; have := ha.1
    omega

def gcdS (a b : Int) : Int × Int := fitS (Int.gcd a b)

set_option maxRecDepth 100000 in
theorem Gcd_fn (a b : Int) (ha : In64 a) (hb : In64 b) : Fn CX 18 [int64 a, int64 b] (two64 (gcdS a b)) := by
  refine Fn.ends Try.func18 rfl rfl rfl rfl rfl rfl ?_
  repeat' first
    | (apply Ops.moveV; exact rfl; exact rfl)
    | (apply Ops.int; exact rfl; exact rfl; exact rfl; exact rfl; exact rfl)
    | (apply Ops.assignV; exact rfl; exact rfl)
    | apply Runs.then
    | (apply Runs.region; exact rfl)
    | apply Ops.nil
    | (apply Ops.extract; exact rfl; exact rfl; exact rfl)
    | (apply Ops.moveT; exact rfl; exact rfl)
    | (apply Ops.moveA; exact rfl; exact rfl)
    | (apply Ops.assignA; exact rfl; exact rfl)
    | (apply Ops.not; exact rfl; exact rfl)
    | (apply Ops.neg; exact rfl; exact rfl)
    | (apply Ops.conv; exact rfl; exact rfl; exact rfl; exact rfl)
    | (apply Ops.shr; exact rfl; exact rfl; decide; exact rfl)
    | (apply Ops.shl; exact rfl; exact rfl; decide; exact rfl)
    | (apply Ops.neB; exact rfl; exact rfl; exact rfl; exact rfl)
    | (apply Ops.eqB; exact rfl; exact rfl; exact rfl; exact rfl)
    | (apply Ops.pickTV; exact rfl; exact rfl; exact rfl)
    | (apply Ops.pickFV; exact rfl; exact rfl; exact rfl)
    | (apply Ops.want; exact rfl; exact rfl)
    | (apply Ops.pass; exact rfl; exact rfl; exact rfl)
    | (apply Ops.passU; exact rfl; exact rfl; exact rfl)
    | (apply Runs.drawn; kernel_rfl; exact rfl)
    | apply Runs.inBlock
    | refine Ops.call rfl (size_fn _ (by assumption)) rfl ?_
    | refine Ops.call rfl (gcd_fn _ _ (inU_abs (by assumption)) (inU_abs (by assumption))) rfl ?_
    | refine Ops.call rfl (signed_fn _ _ (gcd_le (inU_abs (by assumption)) (inU_abs (by assumption)))) rfl ?_
    | (apply Ops.knownT; exact rfl; exact rfl; assumption)
    | (apply Ops.knownF; exact rfl; exact rfl; assumption)
    | (refine Ops.split rfl rfl ?_ ?_ <;> intro _)
    | (apply Runs.yes; exact rfl)
    | (apply Runs.no; exact rfl)
    | (apply Runs.yesB; exact rfl; assumption)
    | (apply Runs.noB; exact rfl; assumption)
    | (refine Runs.whether rfl ?_ ?_ <;> intro _)
    | apply Runs.skip
    | apply Runs.ret
    | apply Runs.exit
    | (apply Ends.ret; exact rfl; exact rfl)
    | (apply Ends.normal; exact rfl; exact rfl)
  refine two64_of ?_
  simp only [signedS, Bool.false_eq_true, if_false, gcdS]
  rfl

def lcmS (a b : Int) : Int × Int := fitS (Int.lcm a b)

theorem lcm_part {a b : Int} (ha : In64 a) (h : (a.natAbs : Int) ≠ 0) : (Int.gcd (a.natAbs : Int) (b.natAbs : Int) : Int) ≠ 0 ∧
    InU64 (IntKind.u64.wrap ((a.natAbs : Int).tdiv (Int.gcd (a.natAbs : Int) (b.natAbs : Int)))) ∧
    IntKind.u64.wrap ((a.natAbs : Int).tdiv (Int.gcd (a.natAbs : Int) (b.natAbs : Int))) * b.natAbs = (Int.lcm a b : Int) := by
  have hg : Int.gcd (a.natAbs : Int) (b.natAbs : Int) = Nat.gcd a.natAbs b.natAbs := by simp [Int.gcd]
  have h0 : a.natAbs ≠ 0 := by omega
  have hgp : 0 < Nat.gcd a.natAbs b.natAbs := Nat.gcd_pos_of_pos_left _ (by omega)
  have e : (a.natAbs : Int).tdiv (Nat.gcd a.natAbs b.natAbs : Nat) = ((a.natAbs / Nat.gcd a.natAbs b.natAbs : Nat) : Int) := by
    rw [Int.tdiv_eq_ediv_of_nonneg (by omega)]
    simp
  have hle : a.natAbs / Nat.gcd a.natAbs b.natAbs ≤ a.natAbs := Nat.div_le_self _ _
  have hq : a.natAbs / Nat.gcd a.natAbs b.natAbs * b.natAbs = Nat.lcm a.natAbs b.natAbs := by
    rw [Nat.lcm, Nat.div_mul_right_comm (Nat.gcd_dvd_left _ _)]
  rw [hg, e]
  refine ⟨by omega, ?_⟩
  have hl : (Int.lcm a b : Int) = (Nat.lcm a.natAbs b.natAbs : Nat) := rfl
  rw [hl, ← hq]
  clear hq hl e hg
  generalize a.natAbs / Nat.gcd a.natAbs b.natAbs = q at *
  have ew : IntKind.u64.wrap (q : Int) = q := by
    rw [wrap_u64]
    unfold In64 at ha
    omega
  rw [ew]
  exact ⟨⟨by omega, by unfold In64 at ha; omega⟩, by rw [Int.natCast_mul]⟩

set_option maxRecDepth 100000 in
theorem Lcm_fn (a b : Int) (ha : In64 a) (hb : In64 b) : Fn CX 19 [int64 a, int64 b] (two64 (lcmS a b)) := by
  refine Fn.ends Try.func19 rfl rfl rfl rfl rfl rfl ?_
  by_cases h : (a.natAbs : Int) = 0
  · refine id ?_
    repeat' first
      | exact absurd h (ne_of_beq_false (by assumption))
      | (apply Ops.moveV; exact rfl; exact rfl)
      | (apply Ops.int; exact rfl; exact rfl; exact rfl; exact rfl; exact rfl)
      | (apply Ops.assignV; exact rfl; exact rfl)
      | apply Runs.then
      | (apply Runs.region; exact rfl)
      | apply Ops.nil
      | (apply Ops.extract; exact rfl; exact rfl; exact rfl)
      | (apply Ops.moveT; exact rfl; exact rfl)
      | (apply Ops.moveA; exact rfl; exact rfl)
      | (apply Ops.assignA; exact rfl; exact rfl)
      | (apply Ops.not; exact rfl; exact rfl)
      | (apply Ops.neg; exact rfl; exact rfl)
      | (apply Ops.conv; exact rfl; exact rfl; exact rfl; exact rfl)
      | (apply Ops.shr; exact rfl; exact rfl; decide; exact rfl)
      | (apply Ops.shl; exact rfl; exact rfl; decide; exact rfl)
      | (apply Ops.neB; exact rfl; exact rfl; exact rfl; exact rfl)
      | (apply Ops.eqB; exact rfl; exact rfl; exact rfl; exact rfl)
      | (apply Ops.pickTV; exact rfl; exact rfl; exact rfl)
      | (apply Ops.pickFV; exact rfl; exact rfl; exact rfl)
      | (apply Ops.want; exact rfl; exact rfl)
      | (apply Ops.pass; exact rfl; exact rfl; exact rfl)
      | (apply Ops.passU; exact rfl; exact rfl; exact rfl)
      | (apply Runs.drawn; kernel_rfl; exact rfl)
      | apply Runs.inBlock
      | refine Ops.call rfl (size_fn _ (by assumption)) rfl ?_
      | (apply Ops.knownT; exact rfl; exact rfl; assumption)
      | (apply Ops.knownF; exact rfl; exact rfl; assumption)
      | (refine Ops.split rfl rfl ?_ ?_ <;> intro _)
      | (apply Runs.yes; exact rfl)
      | (apply Runs.no; exact rfl)
      | (apply Runs.yesB; exact rfl; assumption)
      | (apply Runs.noB; exact rfl; assumption)
      | (refine Runs.whether rfl ?_ ?_ <;> intro _)
      | apply Runs.skip
      | apply Runs.ret
      | apply Runs.exit
      | (apply Ends.ret; exact rfl; exact rfl)
      | (apply Ends.normal; exact rfl; exact rfl)
    all_goals refine two64_of ?_
    have : a = 0 := by omega
    subst this
    simp [lcmS, fitS]
  · obtain ⟨g0, g1, g2⟩ := lcm_part (b := b) ha h
    repeat' first
      | exact absurd (eq_of_beq (by assumption)) h
      | (apply Ops.moveV; exact rfl; exact rfl)
      | (apply Ops.int; exact rfl; exact rfl; exact rfl; exact rfl; exact rfl)
      | (apply Ops.assignV; exact rfl; exact rfl)
      | apply Runs.then
      | (apply Runs.region; exact rfl)
      | apply Ops.nil
      | (apply Ops.extract; exact rfl; exact rfl; exact rfl)
      | (apply Ops.moveT; exact rfl; exact rfl)
      | (apply Ops.moveA; exact rfl; exact rfl)
      | (apply Ops.assignA; exact rfl; exact rfl)
      | (apply Ops.not; exact rfl; exact rfl)
      | (apply Ops.neg; exact rfl; exact rfl)
      | (apply Ops.conv; exact rfl; exact rfl; exact rfl; exact rfl)
      | (apply Ops.shr; exact rfl; exact rfl; decide; exact rfl)
      | (apply Ops.shl; exact rfl; exact rfl; decide; exact rfl)
      | (apply Ops.neB; exact rfl; exact rfl; exact rfl; exact rfl)
      | (apply Ops.eqB; exact rfl; exact rfl; exact rfl; exact rfl)
      | (apply Ops.pickTV; exact rfl; exact rfl; exact rfl)
      | (apply Ops.pickFV; exact rfl; exact rfl; exact rfl)
      | (apply Ops.want; exact rfl; exact rfl)
      | (apply Ops.pass; exact rfl; exact rfl; exact rfl)
      | (apply Ops.passU; exact rfl; exact rfl; exact rfl)
      | (apply Runs.drawn; kernel_rfl; exact rfl)
      | apply Runs.inBlock
      | refine Ops.call rfl (size_fn _ (by assumption)) rfl ?_
      | refine Ops.call rfl (gcd_fn _ _ (inU_abs (by assumption)) (inU_abs (by assumption))) rfl ?_
      | refine Ops.quo rfl rfl g0 rfl ?_
      | refine Ops.call rfl (mul64_fn _ _ g1 (inU_abs (by assumption))) rfl ?_
      | refine Ops.call rfl (signed_fn _ _ (inU_mod _)) rfl ?_
      | (apply Ops.knownT; exact rfl; exact rfl; assumption)
      | (apply Ops.knownF; exact rfl; exact rfl; assumption)
      | (refine Ops.split rfl rfl ?_ ?_ <;> intro _)
      | (apply Runs.yes; exact rfl)
      | (apply Runs.no; exact rfl)
      | (apply Runs.yesB; exact rfl; assumption)
      | (apply Runs.noB; exact rfl; assumption)
      | (refine Runs.whether rfl ?_ ?_ <;> intro _)
      | apply Runs.skip
      | apply Runs.ret
      | apply Runs.exit
      | (apply Ends.ret; exact rfl; exact rfl)
      | (apply Ends.normal; exact rfl; exact rfl)
    all_goals refine two64_of ?_
    all_goals rw [lcmS]
    · rename_i h2
      have hb0 : b = 0 := by have := eq_of_beq h2; omega
      subst hb0
      simp [fitS]
    · rename_i h1 h2 h3
      rw [g2] at h3
      simp only [bne_iff_ne, ne_eq] at h3
      rw [fitS, if_neg]
      omega
    · rename_i h1 h2 h3
      rw [g2] at h3 ⊢
      simp only [bne_eq_false_iff_eq] at h3
      simp only [signedS, Bool.false_eq_true, if_false]
      have e : (Int.lcm a b : Int) % 18446744073709551616 = Int.lcm a b := by omega
      rw [e]

theorem awake_fn : Fn CX 15 [] (.v (.bool true)) := Fn.run 30 (fun σ => by kernel_rfl) rfl rfl rfl

end Go.Dn
