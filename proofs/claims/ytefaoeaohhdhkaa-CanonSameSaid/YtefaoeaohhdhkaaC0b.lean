/- What is said of functions without a look into them, and that it is so. -/
import Derived.Test.YtefaoeaohhdhkaaD25
import Derived.Test.YtefaoeaohhdhkaaProg
import Derived.KernelRfl
set_option linter.unusedVariables false
set_option linter.unusedSimpArgs false
namespace Go.Dn
open Go Go.Proofs
def cloneV (sz by_ : Nat) : List PV → Option PV
  | [.v (.sl xs)] => if (xs.all fun y => y.length == sz) = true ∧ xs.length * by_ ≤ room then some (.v (.sl xs)) else none
  | _ => none
noncomputable def CA : Ctx := { P := Try.prog, glob := fun _ => none, intr := fun f args => if f = 45 then cloneV 1 24 args else if f = 46 then cloneV 2 32 args else if f = 47 then cloneV 2 16 args else none, opn := fun f => f == 65, keep := fun _ => false, lit := true }
noncomputable def C0 : Ctx := { P := Try.prog, glob := fun _ => none, intr := fun _ _ => none, opn := fun _ => false, keep := fun _ => false }
theorem prog_ok : ProgOK Try.prog := by
  refine ⟨fun f fn h => ?_, by kernel_rfl⟩
  have hall : Try.prog.funcs.all (fun fn => !(fn.name == "runtime.NumGoroutine")) = true := by kernel_rfl
  have := Array.all_eq_true_iff_forall_mem.1 hall fn (Array.mem_of_getElem? h)
  simpa using this
theorem c0_ok : CtxOK C0 := ⟨prog_ok, fun f args r h => by cases h⟩
theorem prog_call (f : FuncId) (fu : Func) (vs : Array Value) (w : World) (hf : Try.prog.funcs[f]? = some fu) (hb : fu.body.isSome = true) : (callFunc f vs).run Try.prog w = .ok (.enter f vs) w := by
  have hp : (program).run Try.prog w = .ok Try.prog w := rfl
  simp only [callFunc, Sem.run_bind, hp, Result.andThen_ok, hf, prog_ok.names f fu hf]
  cases hc : fu.body with
  | none => rw [hc] at hb; cases hb
  | some c => simp
theorem cloneT45 : CloneT Try.prog 22 31 1 24 [.nils] := ⟨rfl, rfl, rfl, rfl, rfl⟩
theorem cloneT46 : CloneT Try.prog 23 45 2 32 [.v (.int .i64 0), .nils] := ⟨rfl, rfl, rfl, rfl, rfl⟩
theorem cloneT47 : CloneT Try.prog 31 43 2 16 [.v (.int .i64 0), .v (.int .i64 0)] := ⟨rfl, rfl, rfl, rfl, rfl⟩
theorem pvrs_one' {s : St} {x : PV} {vs : Array Value} (h : PVRs s [x] vs) : ∃ v, vs = #[v] ∧ PVR s x v := by
  obtain ⟨hl, hx⟩ := h
  have : vs.size = 1 := hl.symm
  refine ⟨vs.getD 0 Go.undef, ?_, hx 0 x rfl⟩
  apply Array.ext
  · simpa using this
  · intro i h1 h2
    have : i = 0 := by simp at h2; omega
    subst this
    simp [Array.getD, h1]
theorem ca_ok : CtxOK CA := by
  refine ⟨prog_ok, fun f args r h s hi hG vs hv hp => ?_⟩
  simp only [CA] at h
  split at h
  · rename_i hf
    subst hf
    refine ⟨prog_call 45 _ _ _ Try.func45 rfl, ?_⟩
    unfold cloneV at h
    split at h
    · split at h
      · rename_i xs hx
        cases h
        obtain ⟨v, rfl, hv1⟩ := pvrs_one' hv
        exact clone_calls (X := C0) (b := 4) c0_ok Try.func45 rfl rfl rfl (fun _ => rfl) cloneT45 hi hx.1 hx.2 hv1
      · cases h
    · cases h
  split at h
  · rename_i hf
    subst hf
    refine ⟨prog_call 46 _ _ _ Try.func46 rfl, ?_⟩
    unfold cloneV at h
    split at h
    · split at h
      · rename_i xs hx
        cases h
        obtain ⟨v, rfl, hv1⟩ := pvrs_one' hv
        exact clone_calls (X := C0) (b := 4) c0_ok Try.func46 rfl rfl rfl (fun _ => rfl) cloneT46 hi hx.1 hx.2 hv1
      · cases h
    · cases h
  split at h
  · rename_i hf
    subst hf
    refine ⟨prog_call 47 _ _ _ Try.func47 rfl, ?_⟩
    unfold cloneV at h
    split at h
    · split at h
      · rename_i xs hx
        cases h
        obtain ⟨v, rfl, hv1⟩ := pvrs_one' hv
        exact clone_calls (X := C0) (b := 4) c0_ok Try.func47 rfl rfl rfl (fun _ => rfl) cloneT47 hi hx.1 hx.2 hv1
      · cases h
    · cases h
  cases h
def awakeV : List PV → Option PV
  | [] => some (.v (.bool true))
  | _ => none
theorem awake26 (σ : Heap) : callD CA 60 (.fn 26) [] σ = some (.v (.bool true), σ) := by kernel_rfl
noncomputable def CX : Ctx := { P := Try.prog, glob := fun _ => none, intr := fun f args => if f = 26 then awakeV args else CA.intr f args, opn := fun f => f == 65, keep := fun _ => false }
theorem cx_ok : CtxOK CX := by
  refine ⟨prog_ok, fun f args r h s hi hG vs hv hp => ?_⟩
  simp only [CX] at h
  split at h
  · rename_i hf
    subst hf
    unfold awakeV at h
    split at h
    · cases h
      exact callD_ok ca_ok 60 (.fn 26) [] _ _ s (awake26 s.σ) hi hG vs hv
    · cases h
  exact ca_ok.intr f args r h s hi hG vs hv hp
theorem cx_intr45 (args : List PV) : CX.intr 45 args = cloneV 1 24 args := rfl
theorem cx_intr46 (args : List PV) : CX.intr 46 args = cloneV 2 32 args := rfl
theorem cx_intr47 (args : List PV) : CX.intr 47 args = cloneV 2 16 args := rfl

end Go.Dn
