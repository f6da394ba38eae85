/- From the interpreter to the model. -/
import Derived.Test.YtefaoeaohhdhkaaD18
import Derived.Below
set_option linter.unusedVariables false
set_option linter.unusedSimpArgs false
namespace Go.Dn
open Go Go.RowKit

variable {X : Ctx} {n : Nat} {fn : FuncId} {c : Code} {e : Env} {Q : Ex → Env → Heap → Prop}

theorem callL_ok (hX : CtxOK X) : CallOK X (callL X) := fun c args r σ' s h hi hG vs hv => by
  obtain ⟨k, hk⟩ := callL_iff.1 h
  exact callD_ok hX k c args r σ' s hk hi hG vs hv

theorem callL_tame : CallTame (callL X) := fun c args σ r σ' h => by
  obtain ⟨k, hk⟩ := callL_iff.1 h
  exact callD_tame k c args σ r σ' hk

theorem callL_pure : CallPure X (callL X) := fun f args σ r σ' h hp ho hk => by
  obtain ⟨k, h1⟩ := callL_iff.1 h
  obtain ⟨h2, h3⟩ := callD_pure k f args σ r σ' h1 hp ho hk
  exact ⟨h2, fun σ2 => callL_iff.2 ⟨k, h3 σ2⟩⟩

/-- A piece of code, in the model. -/
theorem code_wp (hX : CtxOK X) {s : St} {a : Act} (hG : GlobOK X s) (hi : Inv s) (he : EnvR s n e a) (h : Runs X n fn c e s.σ Q) :
    c.wp X.P (fun ex a' w' => ∃ x e' σ' ι', Q x e' σ' ∧ ex = x.out ∧ Aft s n a e' σ' a' w' ι') a s.w := by
  obtain ⟨lf, x, e', σ', h1, h2⟩ := h.run
  exact (wpIn_wide (n := 0)).1 (code_ok (rd := none) hX.prog.mixed (callL_ok hX) callL_tame callL_pure c hG hi he (fun l hl => by cases hl) h1 fun a' w' ι' ht => ⟨x, e', σ', ι', h2, rfl, ht⟩)

/-- The state of a call from outside. -/
def St.start (w : World) : St := ⟨w, fun _ => False, Heap.empty, fun _ => 0⟩

theorem start_inv (w : World) : Inv (St.start w) :=
  ⟨fun _ => trivial, fun _ _ h => absurd h empty_live, fun _ h => absurd h empty_live, fun _ _ _ h => (by cases h), fun _ _ => rfl, fun _ h => h.elim⟩

theorem start_imm {w : World} {b : Nat} (h : b < w.heap.size) : (St.start w).imm b := ⟨h, fun h => h, fun _ h => absurd h empty_live⟩

theorem start_below {w w' : World} {σ' : Heap} {ι' : Nat → Nat} (h : Ev (St.start w) ⟨w', fun _ => False, σ', ι'⟩) : Below w.heap.size w w' where
  os := h.os
  tape := h.tape
  output := h.output
  size := h.size
  block := fun k hk => h.keep k hk fun id hl => absurd hl empty_live

/-- **A law that answers true.** -/
theorem law_calls (hX : CtxOK X) {f : FuncId} {args : List PV} {vs : Array Value} {w : World} (h : Fn X f args (.v (.bool true))) (hG : GlobOK X (St.start w)) (hv : PVRs (St.start w) args vs) :
    Calls X.P f vs w fun e w' => e = .returned (.bool true) ∧ Below w.heap.size w w' := by
  have h1 := callL_ok hX (.fn f) args (.v (.bool true)) Heap.empty (St.start w) (h.call _) (start_inv w) hG vs hv
  refine h1.2.mono fun e w' ⟨v, he, ι', _, h3, h4⟩ => ?_
  have := bool_inv h4
  subst this
  exact ⟨he, start_below h3⟩

/-- The end of an activation. -/
theorem leaves_ok {fu : Func} {s0 : St} {a0 a' : Act} {e1 : Env} {σ1 : Heap} {w' : World} {ι' : Nat → Nat} {xs : List PV} (hd0 : a0.defers = []) (ht : Aft s0 n a0 e1 σ1 a' w' ι') (h2 : resultsD X.P e1 σ1 fu.results.toList = some xs) {R : Ending → World → Prop}
    (hR : ∀ v w', Post s0 (packD xs) σ1 v w' → R (.returned v) w') : LeavesInM (Fw none) 0 X.P fu a'.tmps R a'.defers .returning w' := by
  obtain ⟨ms, hd, hmk⟩ := ht.marks
  have hd : a'.defers = ms.map mark := by simpa [hd0] using hd
  have hml : ∀ r ∈ ms, w'.heap[r]? = some (.deferred (some [])) := fun r hr => (hmk.2 r hr).2.2
  obtain ⟨g1, g2, g3, g4, g5⟩ := shut_facts ms w'
  have hi2 := shut_inv (s := ⟨w', s0.Y, σ1, ι'⟩) g1 g2 hml ht.inv
  have he2 : EnvR ⟨shut w' ms, s0.Y, σ1, ι'⟩ n e1 a' := ⟨ht.env.1, fun t => shut_pvr (s := ⟨w', s0.Y, σ1, ι'⟩) g1 g2 hml (ht.env.2 t)⟩
  have hev2 := shut_ev ht.ev g1 g2 (fun r hr => (hmk.2 r hr).1) g3 g4 g5
  obtain ⟨v, h3, h4⟩ := results_ok (X := X) hi2 he2 h2
  rw [hd]
  exact leaves_marks ms w' hmk.1 hml ⟨v, h3, hR _ _ ⟨ι', hi2, hev2, h4⟩⟩

/-! ### What is said without a look into a function: from its walk -/
theorem intr_under {P : Program} {f : FuncId} {vs : Array Value} {r : PV} {s : St} (hi : Inv s) (hr : plainRes r = true)
    (h : Calls P f vs s.w fun en w' => ∃ v, en = .returned v ∧ ∃ σ', Post s.under r σ' v w') : Calls P f vs s.w fun en w' => ∃ v, en = .returned v ∧ Post s r s.σ v w' :=
  h.mono fun en w' ⟨v, e, σ', hp⟩ => ⟨v, e, under_post hi hp (expRes_pure hr)⟩

theorem set_norm {e : Env} {k : Nat} {v : PV} (h : e k = v) : e = set e k v := by
  rw [set_eq]
  funext j
  simp only [upd]
  split
  · rename_i hj; rw [hj, h]
  · rfl

theorem int_val {s : St} {k : IntKind} {m : Int} {v : Value} (h : PVR s (.v (.int k m)) v) : v = .int k m := int_inv h

end Go.Dn
