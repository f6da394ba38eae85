/- The greatest common divisor: a loop by goto. -/
import Derived.Test.YtochhophekfmbaaS1
import Derived.Test.YtochhophekfmbaaD19
import Derived.ScopeJumps
set_option linter.unusedSimpArgs false
set_option linter.unusedVariables false
namespace Go.Dn
open Go Go.Proofs

/-- The same program, nothing said. -/
noncomputable def C0 : Ctx := { P := Try.prog, glob := fun _ => none, intr := fun _ _ => none, opn := fun _ => false, keep := fun _ => false }

theorem prog_ok : ProgOK Try.prog := by
  refine ⟨fun f fn h => ?_, by kernel_rfl⟩
  have hall : Try.prog.funcs.all (fun fn => !(fn.name == "runtime.NumGoroutine")) = true := by kernel_rfl
  have := Array.all_eq_true_iff_forall_mem.1 hall fn (Array.mem_of_getElem? h)
  simpa using this

theorem c0_ok : CtxOK C0 := ⟨prog_ok, fun f args r h => by cases h⟩

def uOf : Value → Nat | .int _ q => q.toNat | _ => 0

/-- What holds at each jump. -/
def gcdJ (s0 : St) (a0 : Act) (g : Nat) (a : Act) (w : World) : Prop := ∃ (e : Env) (σ : Heap) (ι : Nat → Nat) (x y : Int), Aft s0 12 a0 (set (set e 0 (uint64 x)) 1 (uint64 y)) σ a w ι ∧ InU64 x ∧ InU64 y ∧ Int.gcd x y = g

theorem gcd_step {x y : Int} (hx : 0 ≤ x) (hy : 0 ≤ y) : Int.gcd y (x.tmod y) = Int.gcd x y := by
  obtain ⟨m, rfl⟩ := Int.eq_ofNat_of_zero_le hx
  obtain ⟨k, rfl⟩ := Int.eq_ofNat_of_zero_le hy
  have : ((m : Int).tmod (k : Int)) = ((m % k : Nat) : Int) := rfl
  rw [this]
  show Nat.gcd k (m % k) = Nat.gcd m k
  rw [Nat.gcd_comm m k, Nat.gcd_rec k m, Nat.gcd_comm]

theorem gcd_loop {s0 : St} {a0 : Act} {g : Nat} {A B : Code} {Q : Exit → Act → World → Prop}
    (hA : ∀ (e : Env) (x y : Int) (m : Nat) (ent : Nat → Ent), Runs C0 12 52 A (set (set e 0 (uint64 x)) 1 (uint64 y)) ⟨m, ent⟩ fun ex e' σ' => (y = 0 ∧ ex = .ret ∧ e' 4 = uint64 x) ∨ (y ≠ 0 ∧ ex = .normal ∧ e' 0 = uint64 x ∧ e' 1 = uint64 y))
    (hB : ∀ (e : Env) (x y : Int) (m : Nat) (ent : Nat → Ent), y ≠ 0 → Runs C0 12 52 B (set (set e 0 (uint64 x)) 1 (uint64 y)) ⟨m, ent⟩ fun ex e' σ' => ex = .normal ∧ e' 0 = uint64 y ∧ e' 1 = uint64 (x.tmod y))
    (hQ : ∀ e σ a w ι, Aft s0 12 a0 e σ a w ι → e 4 = uint64 g → Q .ret a w) :
    ∀ a w, gcdJ s0 a0 g a w → (Code.seq A (.seq B (.goto 0))).wp Try.prog (Exit.jump 0 (fun a' w' => gcdJ s0 a0 g a' w' ∧ uOf (a'.tmps.getD 1 Go.undef) < uOf (a.tmps.getD 1 Go.undef)) Q) a w := by
  rintro a w ⟨e, σ, ι, x, y, h0, hx, hy, hg⟩
  refine wp_seq ?_
  have hG : GlobOK C0 ⟨w, s0.Y, σ, ι⟩ := fun g cells hg => by cases hg
  have h1 := code_wp c0_ok (fn := 52) hG h0.inv h0.env (c := A) (hA e x y σ.nx σ.ent)
  refine wp_mono h1 fun ex a1 w1 hh => ?_
  obtain ⟨x1, e1, σ1, ι1, hq, rfl, ht⟩ := hh
  have ht1 := h0.trans ht
  rcases hq with ⟨rfl, rfl, h4⟩ | ⟨hy0, rfl, k0, k1⟩
  · refine hQ e1 σ1 a1 w1 ι1 ht1 ?_
    rw [h4, ← hg]
    have : ((Int.gcd x 0 : Nat) : Int) = x := by rw [Int.gcd_zero_right]; have := hx.1; omega
    rw [this]
  · simp only [Ex.out, Exit.then]
    refine wp_seq ?_
    have he1 : EnvR ⟨w1, s0.Y, σ1, ι1⟩ 12 (set (set e1 0 (uint64 x)) 1 (uint64 y)) a1 := by
      rw [← set_norm k0, ← set_norm k1]
      exact ht.env
    have hG1 : GlobOK C0 ⟨w1, s0.Y, σ1, ι1⟩ := fun g cells hg => by cases hg
    have h2 := code_wp c0_ok (fn := 52) hG1 ht.inv he1 (c := B) (hB e1 x y σ1.nx σ1.ent hy0)
    refine wp_mono h2 fun ex a2 w2 hh => ?_
    obtain ⟨x2, e2, σ2, ι2, ⟨rfl, j0, j1⟩, rfl, ht2⟩ := hh
    have ht3 := ht1.trans ht2
    have hm1 : 0 ≤ x.tmod y := Int.tmod_nonneg y hx.1
    have hm2 : x.tmod y < y := Int.tmod_lt_of_pos x (by have := hy.1; omega)
    simp only [Ex.out, Exit.then]
    refine wp_goto ⟨rfl, ⟨e2, σ2, ι2, y, x.tmod y, ?_, hy, ⟨hm1, by have := hy.2; omega⟩, ?_⟩, ?_⟩
    · rw [← set_norm j0, ← set_norm j1]
      exact ht3
    · rw [← hg]
      exact gcd_step hx.1 hy.1
    · have u1 := ht2.env.2 1
      rw [j1] at u1
      have u2 := h0.env.2 1
      rw [int_val u1, int_val u2]
      simp only [uOf]
      omega

set_option maxRecDepth 100000 in
theorem gcd_calls {s : St} (hi : Inv s) {a b : Int} (ha : InU64 a) (hb : InU64 b) : Calls Try.prog 52 #[.int .u64 a, .int .u64 b] s.w fun en w' => ∃ v, en = .returned v ∧ ∃ σ', Post s.under (uint64 (Int.gcd a b)) σ' v w' := by
  have hv : PVRs s.under [uint64 a, uint64 b] #[.int .u64 a, .int .u64 b] := by
    refine ⟨rfl, fun i x hx => ?_⟩
    match i with
    | 0 => simp at hx; subst hx; exact .v (.int _ _)
    | 1 => simp at hx; subst hx; exact .v (.int _ _)
    | i + 2 => simp at hx
  have he := env_of (s := s.under) (k := 12) hv
  have hiu := under_inv hi
  have hG : GlobOK C0 s.under := fun g cells hg => by cases hg
  refine (callsIn_wide (n := 0)).1 (callsIn_of_wp_marks Try.func52 rfl trivial ?_ rfl)
  refine wpIn_wide.2 ?_
  have hQ : ∀ e σ a' w ι, Aft s.under 12 { tmps := #[Value.int .u64 a, Value.int .u64 b] ++ Array.replicate (12 - 2) undef, defers := [] } e σ a' w ι → e 4 = uint64 (Int.gcd a b) →
      bodyPostM Fence.wide 0 Try.prog Try.f52 (fun en w' => ∃ v, en = .returned v ∧ ∃ σ', Post s.under (uint64 (Int.gcd a b)) σ' v w') .ret a' w := by
    intro e σ a' w ι ht h4
    exact leaves_ok (X := C0) (fu := Try.f52) (xs := [e 4]) rfl ht rfl fun v w' hp => ⟨v, rfl, σ, by rw [← h4]; exact hp⟩
  refine wp_seq ?_
  refine wp_mono (code_wp (X := C0) (s := s.under) c0_ok (fn := 52) hG hiu he (Q := fun ex e' σ' => ex = .normal ∧ e' 0 = uint64 a ∧ e' 1 = uint64 b) ?_) ?_
  · show Runs C0 12 52 _ _ ⟨0, fun _ => .none⟩ _
    repeat' first
      | (apply Ops.moveV; exact rfl; exact rfl)
      | (apply Ops.int; exact rfl; exact rfl; exact rfl; exact rfl; exact rfl)
      | (apply Ops.assignV; exact rfl; exact rfl)
      | apply Runs.then
      | (apply Runs.region; exact rfl)
      | apply Ops.nil
      | (apply Ops.extract; exact rfl; exact rfl; exact rfl)
      | (apply Ops.moveT; exact rfl; exact rfl)
      | (apply Ops.moveA; exact rfl; exact rfl)
      | (apply Ops.assignA; exact rfl; exact rfl)
      | (apply Ops.not; exact rfl; exact rfl)
      | (apply Ops.neg; exact rfl; exact rfl)
      | (apply Ops.conv; exact rfl; exact rfl; exact rfl; exact rfl)
      | (apply Ops.shr; exact rfl; exact rfl; decide; exact rfl)
      | (apply Ops.shl; exact rfl; exact rfl; decide; exact rfl)
      | (apply Ops.neB; exact rfl; exact rfl; exact rfl; exact rfl)
      | (apply Ops.eqB; exact rfl; exact rfl; exact rfl; exact rfl)
      | (apply Ops.pickTV; exact rfl; exact rfl; exact rfl)
      | (apply Ops.pickFV; exact rfl; exact rfl; exact rfl)
      | (apply Ops.want; exact rfl; exact rfl)
      | (apply Ops.pass; exact rfl; exact rfl; exact rfl)
      | (apply Ops.passU; exact rfl; exact rfl; exact rfl)
      | (apply Runs.drawn; kernel_rfl; exact rfl)
      | apply Runs.inBlock
      | (apply Ops.knownT; exact rfl; exact rfl; assumption)
      | (apply Ops.knownF; exact rfl; exact rfl; assumption)
      | (refine Ops.split rfl rfl ?_ ?_ <;> intro _)
      | (apply Runs.yes; exact rfl)
      | (apply Runs.no; exact rfl)
      | (apply Runs.yesB; exact rfl; assumption)
      | (apply Runs.noB; exact rfl; assumption)
      | (refine Runs.whether rfl ?_ ?_ <;> intro _)
      | apply Runs.skip
      | apply Runs.ret
      | apply Runs.exit
      | (apply Ends.ret; exact rfl; exact rfl)
      | (apply Ends.normal; exact rfl; exact rfl)
    all_goals exact ⟨rfl, rfl, rfl⟩
  rintro ex a1 w1 ⟨x1, e1, σ1, ι1, ⟨rfl, k0, k1⟩, rfl, ht⟩
  have ht' : Aft s.under 12 { tmps := #[Value.int .u64 a, Value.int .u64 b] ++ Array.replicate (12 - 2) undef, defers := [] } (set (set e1 0 (uint64 a)) 1 (uint64 b)) σ1 a1 w1 ι1 := by
    rw [← set_norm k0, ← set_norm k1]
    exact ht
  simp only [Ex.out, Exit.then]
  refine wp_scope_jumps 0 (gcdJ s.under { tmps := #[Value.int .u64 a, Value.int .u64 b] ++ Array.replicate (12 - 2) undef, defers := [] } (Int.gcd a b)) (fun a' _ => uOf (a'.tmps.getD 1 Go.undef)) rfl ?_ ?_
  · refine wp_seq (wp_label ?_)
    refine wp_mono (gcd_loop ?_ ?_ hQ a1 w1 ⟨e1, σ1, ι1, a, b, ht', ha, hb, rfl⟩) fun ex a2 w2 hh => ?_
    · intro e x y m ent
      repeat' first
        | (apply Ops.moveV; exact rfl; exact rfl)
        | (apply Ops.int; exact rfl; exact rfl; exact rfl; exact rfl; exact rfl)
        | (apply Ops.assignV; exact rfl; exact rfl)
        | apply Runs.then
        | (apply Runs.region; exact rfl)
        | apply Ops.nil
        | (apply Ops.extract; exact rfl; exact rfl; exact rfl)
        | (apply Ops.moveT; exact rfl; exact rfl)
        | (apply Ops.moveA; exact rfl; exact rfl)
        | (apply Ops.assignA; exact rfl; exact rfl)
        | (apply Ops.not; exact rfl; exact rfl)
        | (apply Ops.neg; exact rfl; exact rfl)
        | (apply Ops.conv; exact rfl; exact rfl; exact rfl; exact rfl)
        | (apply Ops.shr; exact rfl; exact rfl; decide; exact rfl)
        | (apply Ops.shl; exact rfl; exact rfl; decide; exact rfl)
        | (apply Ops.neB; exact rfl; exact rfl; exact rfl; exact rfl)
        | (apply Ops.eqB; exact rfl; exact rfl; exact rfl; exact rfl)
        | (apply Ops.pickTV; exact rfl; exact rfl; exact rfl)
        | (apply Ops.pickFV; exact rfl; exact rfl; exact rfl)
        | (apply Ops.want; exact rfl; exact rfl)
        | (apply Ops.pass; exact rfl; exact rfl; exact rfl)
        | (apply Ops.passU; exact rfl; exact rfl; exact rfl)
        | (apply Runs.drawn; kernel_rfl; exact rfl)
        | apply Runs.inBlock
        | (apply Ops.knownT; exact rfl; exact rfl; assumption)
        | (apply Ops.knownF; exact rfl; exact rfl; assumption)
        | (refine Ops.split rfl rfl ?_ ?_ <;> intro _)
        | (apply Runs.yes; exact rfl)
        | (apply Runs.no; exact rfl)
        | (apply Runs.yesB; exact rfl; assumption)
        | (apply Runs.noB; exact rfl; assumption)
        | (refine Runs.whether rfl ?_ ?_ <;> intro _)
        | apply Runs.skip
        | apply Runs.ret
        | apply Runs.exit
        | (apply Ends.ret; exact rfl; exact rfl)
        | (apply Ends.normal; exact rfl; exact rfl)
      · rename_i h
        exact .inl ⟨eq_of_beq h, rfl, rfl⟩
      · rename_i h
        exact .inr ⟨ne_of_beq_false h, rfl, rfl, rfl⟩
    · intro e x y m ent hy
      repeat' first
        | (apply Ops.moveV; exact rfl; exact rfl)
        | (apply Ops.int; exact rfl; exact rfl; exact rfl; exact rfl; exact rfl)
        | (apply Ops.assignV; exact rfl; exact rfl)
        | apply Runs.then
        | (apply Runs.region; exact rfl)
        | apply Ops.nil
        | (apply Ops.extract; exact rfl; exact rfl; exact rfl)
        | (apply Ops.moveT; exact rfl; exact rfl)
        | (apply Ops.moveA; exact rfl; exact rfl)
        | (apply Ops.assignA; exact rfl; exact rfl)
        | (apply Ops.not; exact rfl; exact rfl)
        | (apply Ops.neg; exact rfl; exact rfl)
        | (apply Ops.conv; exact rfl; exact rfl; exact rfl; exact rfl)
        | (apply Ops.shr; exact rfl; exact rfl; decide; exact rfl)
        | (apply Ops.shl; exact rfl; exact rfl; decide; exact rfl)
        | (apply Ops.neB; exact rfl; exact rfl; exact rfl; exact rfl)
        | (apply Ops.eqB; exact rfl; exact rfl; exact rfl; exact rfl)
        | (apply Ops.pickTV; exact rfl; exact rfl; exact rfl)
        | (apply Ops.pickFV; exact rfl; exact rfl; exact rfl)
        | (apply Ops.want; exact rfl; exact rfl)
        | (apply Ops.pass; exact rfl; exact rfl; exact rfl)
        | (apply Ops.passU; exact rfl; exact rfl; exact rfl)
        | (apply Runs.drawn; kernel_rfl; exact rfl)
        | apply Runs.inBlock
        | refine Ops.rem rfl rfl hy rfl ?_
        | (apply Ops.knownT; exact rfl; exact rfl; assumption)
        | (apply Ops.knownF; exact rfl; exact rfl; assumption)
        | (refine Ops.split rfl rfl ?_ ?_ <;> intro _)
        | (apply Runs.yes; exact rfl)
        | (apply Runs.no; exact rfl)
        | (apply Runs.yesB; exact rfl; assumption)
        | (apply Runs.noB; exact rfl; assumption)
        | (refine Runs.whether rfl ?_ ?_ <;> intro _)
        | apply Runs.skip
        | apply Runs.ret
        | apply Runs.exit
        | (apply Ends.ret; exact rfl; exact rfl)
        | (apply Ends.normal; exact rfl; exact rfl)
      all_goals exact ⟨rfl, rfl, rfl⟩
    · cases ex <;> first | exact hh | exact ⟨hh.1, hh.2.1⟩
  · intro a2 w2 hj
    refine wp_seq (wp_skip ?_)
    refine gcd_loop ?_ ?_ hQ a2 w2 hj
    · intro e x y m ent
      repeat' first
        | (apply Ops.moveV; exact rfl; exact rfl)
        | (apply Ops.int; exact rfl; exact rfl; exact rfl; exact rfl; exact rfl)
        | (apply Ops.assignV; exact rfl; exact rfl)
        | apply Runs.then
        | (apply Runs.region; exact rfl)
        | apply Ops.nil
        | (apply Ops.extract; exact rfl; exact rfl; exact rfl)
        | (apply Ops.moveT; exact rfl; exact rfl)
        | (apply Ops.moveA; exact rfl; exact rfl)
        | (apply Ops.assignA; exact rfl; exact rfl)
        | (apply Ops.not; exact rfl; exact rfl)
        | (apply Ops.neg; exact rfl; exact rfl)
        | (apply Ops.conv; exact rfl; exact rfl; exact rfl; exact rfl)
        | (apply Ops.shr; exact rfl; exact rfl; decide; exact rfl)
        | (apply Ops.shl; exact rfl; exact rfl; decide; exact rfl)
        | (apply Ops.neB; exact rfl; exact rfl; exact rfl; exact rfl)
        | (apply Ops.eqB; exact rfl; exact rfl; exact rfl; exact rfl)
        | (apply Ops.pickTV; exact rfl; exact rfl; exact rfl)
        | (apply Ops.pickFV; exact rfl; exact rfl; exact rfl)
        | (apply Ops.want; exact rfl; exact rfl)
        | (apply Ops.pass; exact rfl; exact rfl; exact rfl)
        | (apply Ops.passU; exact rfl; exact rfl; exact rfl)
        | (apply Runs.drawn; kernel_rfl; exact rfl)
        | apply Runs.inBlock
        | (apply Ops.knownT; exact rfl; exact rfl; assumption)
        | (apply Ops.knownF; exact rfl; exact rfl; assumption)
        | (refine Ops.split rfl rfl ?_ ?_ <;> intro _)
        | (apply Runs.yes; exact rfl)
        | (apply Runs.no; exact rfl)
        | (apply Runs.yesB; exact rfl; assumption)
        | (apply Runs.noB; exact rfl; assumption)
        | (refine Runs.whether rfl ?_ ?_ <;> intro _)
        | apply Runs.skip
        | apply Runs.ret
        | apply Runs.exit
        | (apply Ends.ret; exact rfl; exact rfl)
        | (apply Ends.normal; exact rfl; exact rfl)
      · rename_i h
        exact .inl ⟨eq_of_beq h, rfl, rfl⟩
      · rename_i h
        exact .inr ⟨ne_of_beq_false h, rfl, rfl, rfl⟩
    · intro e x y m ent hy
      repeat' first
        | (apply Ops.moveV; exact rfl; exact rfl)
        | (apply Ops.int; exact rfl; exact rfl; exact rfl; exact rfl; exact rfl)
        | (apply Ops.assignV; exact rfl; exact rfl)
        | apply Runs.then
        | (apply Runs.region; exact rfl)
        | apply Ops.nil
        | (apply Ops.extract; exact rfl; exact rfl; exact rfl)
        | (apply Ops.moveT; exact rfl; exact rfl)
        | (apply Ops.moveA; exact rfl; exact rfl)
        | (apply Ops.assignA; exact rfl; exact rfl)
        | (apply Ops.not; exact rfl; exact rfl)
        | (apply Ops.neg; exact rfl; exact rfl)
        | (apply Ops.conv; exact rfl; exact rfl; exact rfl; exact rfl)
        | (apply Ops.shr; exact rfl; exact rfl; decide; exact rfl)
        | (apply Ops.shl; exact rfl; exact rfl; decide; exact rfl)
        | (apply Ops.neB; exact rfl; exact rfl; exact rfl; exact rfl)
        | (apply Ops.eqB; exact rfl; exact rfl; exact rfl; exact rfl)
        | (apply Ops.pickTV; exact rfl; exact rfl; exact rfl)
        | (apply Ops.pickFV; exact rfl; exact rfl; exact rfl)
        | (apply Ops.want; exact rfl; exact rfl)
        | (apply Ops.pass; exact rfl; exact rfl; exact rfl)
        | (apply Ops.passU; exact rfl; exact rfl; exact rfl)
        | (apply Runs.drawn; kernel_rfl; exact rfl)
        | apply Runs.inBlock
        | refine Ops.rem rfl rfl hy rfl ?_
        | (apply Ops.knownT; exact rfl; exact rfl; assumption)
        | (apply Ops.knownF; exact rfl; exact rfl; assumption)
        | (refine Ops.split rfl rfl ?_ ?_ <;> intro _)
        | (apply Runs.yes; exact rfl)
        | (apply Runs.no; exact rfl)
        | (apply Runs.yesB; exact rfl; assumption)
        | (apply Runs.noB; exact rfl; assumption)
        | (refine Runs.whether rfl ?_ ?_ <;> intro _)
        | apply Runs.skip
        | apply Runs.ret
        | apply Runs.exit
        | (apply Ends.ret; exact rfl; exact rfl)
        | (apply Ends.normal; exact rfl; exact rfl)
      all_goals exact ⟨rfl, rfl, rfl⟩

theorem prog_call (f : FuncId) (fu : Func) (vs : Array Value) (w : World) (hf : Try.prog.funcs[f]? = some fu) (hb : fu.body.isSome = true) : (callFunc f vs).run Try.prog w = .ok (.enter f vs) w := by
  have hp : (program).run Try.prog w = .ok Try.prog w := rfl
  simp only [callFunc, Sem.run_bind, hp, Result.andThen_ok, hf, prog_ok.names f fu hf]
  cases hc : fu.body with
  | none => rw [hc] at hb; cases hb
  | some c => simp

theorem cx_ok : CtxOK CX := by
  refine ⟨prog_ok, fun f args r h s hi hG vs hv hp => ?_⟩
  simp only [CX] at h
  split at h
  · rename_i hf
    subst hf
    refine ⟨prog_call 52 _ _ _ Try.func52 rfl, ?_⟩
    unfold gcdV at h
    split at h
    · rename_i a b
      split at h
      · rename_i hab
        cases h
        obtain ⟨v0, v1, rfl, h0, h1⟩ := pvrs_two hv
        obtain rfl := int_inv h0
        obtain rfl := int_inv h1
        exact intr_under hi rfl (gcd_calls hi hab.1 hab.2)
      · cases h
    · cases h
  · cases h

end Go.Dn
