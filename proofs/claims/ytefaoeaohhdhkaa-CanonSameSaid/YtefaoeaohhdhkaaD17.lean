/- The interpreter without a bound on its steps. -/
import Derived.Test.YtefaoeaohhdhkaaD16b
set_option linter.unusedVariables false
set_option linter.unusedSimpArgs false
namespace Go.Dn
open Go

/-- From some number on the answers are this one. -/
def App {α : Type} (F : Nat → Option α) (r : Option α) : Prop := ∀ a, r = some a → ∃ K, ∀ k, K ≤ k → F k = some a

theorem App.const {α : Type} (r : Option α) : App (fun _ => r) r := fun _ h => ⟨0, fun _ _ => h⟩

theorem App.bind {α β : Type} {F : Nat → Option α} {r : Option α} {G : Nat → α → Option β} {g : α → Option β} (h : App F r) (hg : ∀ a, App (fun k => G k a) (g a)) : App (fun k => (F k).bind (G k)) (r.bind g) := fun b hb => by
  rw [Option.bind_eq_some_iff] at hb
  obtain ⟨a, ha, hb⟩ := hb
  obtain ⟨K1, h1⟩ := h a ha
  obtain ⟨K2, h2⟩ := hg a b hb
  exact ⟨max K1 K2, fun k hk => by show (F k).bind (G k) = _; rw [h1 k (by omega)]; exact h2 k (by omega)⟩

theorem App.map {α β : Type} {F : Nat → Option α} {r : Option α} (h : App F r) (g : α → β) : App (fun k => (F k).map g) (r.map g) := fun b hb => by
  rw [Option.map_eq_some_iff] at hb
  obtain ⟨a, ha, rfl⟩ := hb
  obtain ⟨K1, h1⟩ := h a ha
  exact ⟨K1, fun k hk => by show (F k).map g = _; rw [h1 k hk]; rfl⟩

def AppC (F : Nat → Call0) (c : Call0) : Prop := ∀ f args σ, App (fun k => F k f args σ) (c f args σ)

variable {X : Ctx} {n : Nat} {F : Nat → Call0} {call : Call0}

theorem callOp_app (hc : AppC F call) {e : Env} {σ : Heap} {id0 : Nat} {c : Call} : App (fun k => callOpD X (F k) e σ id0 c) (callOpD X call e σ id0 c) := by
  intro a h
  unfold callOpD at h
  split at h
  · cases h
  · rename_i args hargs
    split at h
    · rename_i b hb
      exact ⟨0, fun k _ => by simp only [callOpD, hargs, hb]; exact h⟩
    · cases h
    · rename_i f hf
      split at h
      · rename_i g hg
        obtain ⟨K, hK⟩ := hc _ _ _ _ h
        exact ⟨K, fun k hk => by simp only [callOpD, hargs, hf, hg]; exact hK k hk⟩
      · rename_i g fi ca hg
        obtain ⟨K, hK⟩ := hc _ _ _ _ h
        exact ⟨K, fun k hk => by simp only [callOpD, hargs, hf, hg]; exact hK k hk⟩
      · rename_i id hg
        obtain ⟨K, hK⟩ := hc _ _ _ _ h
        exact ⟨K, fun k hk => by simp only [callOpD, hargs, hf, hg]; exact hK k hk⟩
      · cases h

theorem stepOp_app (hc : AppC F call) {e : Env} {σ : Heap} {id0 : Nat} {op : Op} : App (fun k => stepOp X (F k) e σ id0 op) (stepOp X call e σ id0 op) := by
  cases op <;> first | exact callOp_app hc | exact App.const _ | (rename_i g _ _; cases g <;> exact App.const _)

theorem stepO_app (hc : AppC F call) {ops : Array Oper} {base i : Nat} {o : Oper} {e : Env} {σ : Heap} : App (fun k => stepO X (F k) n ops base i o e σ) (stepO X call n ops base i o e σ) := by
  intro a h
  unfold stepO at h
  split at h
  · rename_i hw
    obtain ⟨K, hK⟩ := (stepOp_app (X := X) hc).bind (G := fun _ r => some (putD n e o.dst r.1, r.2)) (fun r => App.const _) a h
    exact ⟨K, fun k hk => by simp only [stepO, hw]; exact hK k hk⟩
  · rename_i hw
    exact ⟨0, fun k _ => by simp only [stepO, hw]; exact h⟩
  · cases h

theorem runOps_app (hc : AppC F call) {ops : Array Oper} {base : Nat} : ∀ (l : List Oper) (i : Nat) (e : Env) (σ : Heap), App (fun k => runOps X (F k) n ops base i l e σ) (runOps X call n ops base i l e σ)
  | [], _, _, _ => App.const _
  | o :: l, i, _, _ => (stepO_app hc).bind fun r => runOps_app hc l (i + 1) r.1 r.2

theorem stepW_app (hc : AppC F call) {ops : Array Oper} {base i : Nat} {o : Oper} {e : Env} {σ : Heap} : App (fun k => stepW X (F k) n ops base i o e σ) (stepW X call n ops base i o e σ) := by
  intro a h
  unfold stepW at h
  split at h
  · cases h
  · rename_i hw
    obtain ⟨K, hK⟩ := stepO_app (X := X) hc a h
    exact ⟨K, fun k hk => by simp only [stepW, if_neg hw]; exact hK k hk⟩

theorem runDraw_app (hc : AppC F call) {ops : Array Oper} {base : Nat} : ∀ (l : List Oper) (i : Nat) (e : Env) (σ : Heap), App (fun k => runDraw X (F k) n ops base i l e σ) (runDraw X call n ops base i l e σ)
  | [], _, _, _ => App.const _
  | o :: l, i, _, _ => (stepW_app hc).bind fun r => runDraw_app hc l (i + 1) r.1 r.2

theorem runCode_app (hc : AppC F call) {lf : Nat} {L : Nat → Nat} (hL : ∃ K, ∀ k, K ≤ k → lf ≤ L k) {fn : FuncId} : ∀ (c : Code) (e : Env) (σ : Heap), App (fun k => runCode X (F k) (L k) n fn c e σ) (runCode X call lf n fn c e σ) := by
  intro c
  induction c with
  | skip => intro e σ; exact App.const _
  | label l => intro e σ; exact App.const _
  | scope c ih => intro e σ; simp only [runCode]; exact ih e σ
  | region id ops draw =>
    intro e σ
    cases draw with
    | false => simp only [runCode, Bool.false_eq_true, if_false]; exact (runOps_app hc _ _ _ _).map _
    | true =>
      by_cases hd : drawOK ops = true
      · simp only [runCode, if_true, hd]; exact (runDraw_app hc _ _ _ _).map _
      · simp only [runCode, if_true, if_neg hd]; exact App.const _
  | seq a b iha ihb =>
    intro e σ out h
    simp only [runCode] at h
    split at h
    · rename_i e1 σ1 h1
      obtain ⟨K1, q1⟩ := iha e σ _ h1
      obtain ⟨K2, q2⟩ := ihb e1 σ1 _ h
      exact ⟨max K1 K2, fun k hk => by simp only [runCode, q1 k (by omega)]; exact q2 k (by omega)⟩
    · rename_i hn
      obtain ⟨K1, q1⟩ := iha e σ _ h
      refine ⟨K1, fun k hk => ?_⟩
      simp only [runCode, q1 k hk]
      split
      · rename_i heq; rw [h] at hn; cases heq; exact absurd rfl (hn _ _)
      · rfl
  | cond c a b iha ihb =>
    intro e σ out h
    simp only [runCode] at h
    split at h
    · rename_i h1
      obtain ⟨K1, q1⟩ := iha e σ _ h
      exact ⟨K1, fun k hk => by simp only [runCode, h1]; exact q1 k hk⟩
    · rename_i h1
      obtain ⟨K1, q1⟩ := ihb e σ _ h
      exact ⟨K1, fun k hk => by simp only [runCode, h1]; exact q1 k hk⟩
    · cases h
  | block id c ih =>
    intro e σ out h
    simp only [runCode] at h
    split at h
    · rename_i id' e1 σ1 h1
      obtain ⟨K1, q1⟩ := ih e σ _ h1
      exact ⟨K1, fun k hk => by simp only [runCode, q1 k hk]; exact h⟩
    · rename_i hn
      obtain ⟨K1, q1⟩ := ih e σ _ h
      refine ⟨K1, fun k hk => ?_⟩
      simp only [runCode, q1 k hk]
      split
      · rename_i heq; rw [h] at hn; cases heq; exact absurd rfl (hn _ _ _)
      · rfl
  | loop c ih =>
    intro e σ out h
    simp only [runCode] at h
    have key : ∀ (m : Nat) (e : Env) (σ : Heap), loopD (runCode X call lf n fn c) m e σ = some out → ∃ K, ∀ k, K ≤ k → ∀ m', m ≤ m' → loopD (runCode X (F k) (L k) n fn c) m' e σ = some out := by
      intro m
      induction m with
      | zero => intro e σ h; simp [loopD] at h
      | succ m ihm =>
        intro e σ h
        simp only [loopD] at h
        split at h
        · rename_i e1 σ1 h1
          obtain ⟨K1, q1⟩ := ih e σ _ h1
          obtain ⟨K2, q2⟩ := ihm e1 σ1 h
          refine ⟨max K1 K2, fun k hk m' hm' => ?_⟩
          obtain ⟨m', rfl⟩ : ∃ j, m' = j + 1 := ⟨m' - 1, by omega⟩
          simp only [loopD, q1 k (by omega)]
          exact q2 k (by omega) m' (by omega)
        · rename_i hn
          obtain ⟨K1, q1⟩ := ih e σ _ h
          refine ⟨K1, fun k hk m' hm' => ?_⟩
          obtain ⟨m', rfl⟩ : ∃ j, m' = j + 1 := ⟨m' - 1, by omega⟩
          simp only [loopD, q1 k hk]
          split
          · rename_i heq; rw [h] at hn; cases heq; exact absurd rfl (hn _ _)
          · rfl
    obtain ⟨K1, q1⟩ := key lf e σ h
    obtain ⟨K2, q2⟩ := hL
    exact ⟨max K1 K2, fun k hk => by simp only [runCode]; exact q1 k (by omega) (L k) (q2 k (by omega))⟩
  | exit id => intro e σ; exact App.const _
  | ret => intro e σ; exact App.const _
  | rangeFunc g ps as_ bo _ _ =>
    intro e σ out h
    simp only [runCode] at h ⊢
    split at h
    · rename_i gv hg
      have fin : ∀ (f : Callee) (args : List PV) (σ1 : Heap), (match call f args σ1 with
          | some (_, σ2) =>
            match σ2.ent σ.nx with
            | .loop fn' e' n' ps' as' bo' st pend =>
              if st = LoopState.busy then none else
              match jumpD pend with
              | some x => some (x, e, σ2.put σ.nx (.loop fn' e' n' ps' as' bo' .exhausted pend))
              | none => none
            | _ => none
          | none => none) = some out → ∃ K, ∀ k, K ≤ k → (match F k f args σ1 with
          | some (_, σ2) =>
            match σ2.ent σ.nx with
            | .loop fn' e' n' ps' as' bo' st pend =>
              if st = LoopState.busy then none else
              match jumpD pend with
              | some x => some (x, e, σ2.put σ.nx (.loop fn' e' n' ps' as' bo' .exhausted pend))
              | none => none
            | _ => none
          | none => none) = some out := by
        intro f args σ1 h
        cases hr : call f args σ1 with
        | none => rw [hr] at h; cases h
        | some r =>
          rw [hr] at h
          obtain ⟨K, hK⟩ := hc _ _ _ _ hr
          exact ⟨K, fun k hk => by have hk' : F k f args σ1 = some r := hK k hk; rw [hk']; exact h⟩
      cases gv with
      | v y =>
        cases y with
        | fn f => simp only [hg]; exact fin _ _ _ h
        | _ => simp at h
      | clo f first caps => simp only [hg]; exact fin _ _ _ h
      | _ => simp at h
    · cases h
  | _ => intro e σ out h; simp [runCode] at h

theorem bodyD_app (hc : AppC F call) {lf : Nat} {L : Nat → Nat} (hL : ∃ K, ∀ k, K ≤ k → lf ≤ L k) {f : FuncId} {args : List PV} {σ : Heap} : App (fun k => bodyD X (F k) (L k) f args σ) (bodyD X call lf f args σ) := by
  intro out h
  unfold bodyD at h
  split at h
  · cases h
  · rename_i fn hfn
    split at h
    · cases h
    · rename_i c hb
      split at h
      · rename_i h1
        obtain ⟨K, hK⟩ := runCode_app hc hL c _ _ _ h1
        exact ⟨K, fun k hk => by simp only [bodyD, hfn, hb, hK k hk]; exact h⟩
      · rename_i h1
        obtain ⟨K, hK⟩ := runCode_app hc hL c _ _ _ h1
        exact ⟨K, fun k hk => by simp only [bodyD, hfn, hb, hK k hk]; exact h⟩
      · cases h

/-- One more round of calls, whoever makes the inner ones. -/
def callS (X : Ctx) (call : Call0) (lf : Nat) : Call0
  | .fn f, args, σ =>
    match X.intr f args with
    | some r => if args.all PV.pure then some (r, σ) else none
    | none =>
      match (if X.keep f then some (args, σ) else expArgs σ args) with
      | none => none
      | some (args, σ) =>
        if X.opn f then bodyD X call lf f args σ
        else if args.all PV.pure then (bodyD X call lf f args Heap.empty).bind fun r => (expRes r.2 r.1).map fun s => (s.1, σ)
        else (bodyD X call lf f args σ).bind fun r => expRes r.2 r.1
  | .yld id, args, σ =>
    match σ.ent id with
    | .loop fn e n ps as_ bo .ready none =>
      if ps.length = args.length then
        match expArgs σ args with
        | none => none
        | some (args, σ) =>
        match runCode X call lf n fn as_ (setArgs e n ps args) σ with
        | some (.normal, e1, σ1) =>
          match σ1.ent id with
          | .loop _ _ _ _ _ _ .ready pend =>
            match runCode X call lf n fn bo e1 (σ1.put id (.loop fn e n ps as_ bo .busy pend)) with
            | some (x, _, σ2) =>
              match x with
              | .normal => some (.v (.bool true), σ2.put id (.loop fn e n ps as_ bo .ready none))
              | .exit t => some (.v (.bool false), σ2.put id (.loop fn e n ps as_ bo .done (some (.exit t))))
              | .ret => some (.v (.bool false), σ2.put id (.loop fn e n ps as_ bo .done (some .ret)))
            | none => none
          | _ => none
        | _ => none
      else none
    | _ => none

theorem callD_succ (k : Nat) : callD X (k + 1) = callS X (callD X k) k := by
  funext c args σ
  cases c <;> (simp only [callD, callS]; rfl)

theorem callS_app (hc : AppC F call) {lf : Nat} {L : Nat → Nat} (hL : ∃ K, ∀ k, K ≤ k → lf ≤ L k) : AppC (fun k => callS X (F k) (L k)) (callS X call lf) := by
  intro c args σ
  cases c with
  | fn f =>
    simp only [callS]
    split
    · exact App.const _
    · split
      · exact App.const _
      · split
        · exact bodyD_app hc hL
        · split
          · exact (bodyD_app hc hL).bind fun r => App.const _
          · exact (bodyD_app hc hL).bind fun r => App.const _
  | yld id =>
    simp only [callS]
    split
    · split
      · split
        · exact App.const _
        · rename_i fn e n ps as_ bo _ _ _ args' σ1 _
          intro out h
          split at h
          · rename_i e1 σ2 h1
            obtain ⟨K1, q1⟩ := runCode_app hc hL _ _ _ _ h1
            split at h
            · rename_i h2
              split at h
              · rename_i x e3 σ3 h3
                obtain ⟨K2, q2⟩ := runCode_app hc hL _ _ _ _ h3
                exact ⟨max K1 K2, fun k hk => by simp only [q1 k (by omega), h2, q2 k (by omega)]; exact h⟩
              · cases h
            · cases h
          · cases h
      · exact App.const _
    · exact App.const _

theorem callD_mono1 : ∀ k, AppC (fun _ => callD X (k + 1)) (callD X k)
  | 0 => fun c args σ out h => by cases c <;> simp [callD] at h
  | k + 1 => by
    have ih := callS_app (X := X) (callD_mono1 k) (lf := k) (L := fun _ => k + 1) ⟨0, fun _ _ => Nat.le_succ k⟩
    rw [callD_succ k]
    rw [callD_succ (k + 1)]
    exact ih

theorem callD_mono {k k' : Nat} (h : k ≤ k') {c : Callee} {args : List PV} {σ : Heap} {r : PV × Heap} (hr : callD X k c args σ = some r) : callD X k' c args σ = some r := by
  induction h with
  | refl => exact hr
  | @step m _ ih =>
    obtain ⟨K, hK⟩ := callD_mono1 m c args σ r ih
    exact hK K (Nat.le_refl _)

open Classical in
/-- A call, however long it takes. -/
noncomputable def callL (X : Ctx) : Call0 := fun c args σ => if h : ∃ r, ∃ k, callD X k c args σ = some r then some h.choose else none

theorem callL_iff {c : Callee} {args : List PV} {σ : Heap} {r : PV × Heap} : callL X c args σ = some r ↔ ∃ k, callD X k c args σ = some r := by
  unfold callL
  constructor
  · intro h
    split at h
    · rename_i hex
      cases h
      exact hex.choose_spec
    · cases h
  · rintro ⟨k, h⟩
    have hex : ∃ r, ∃ k, callD X k c args σ = some r := ⟨r, k, h⟩
    rw [dif_pos hex]
    obtain ⟨k', h'⟩ := hex.choose_spec
    have e1 := callD_mono (Nat.le_max_left k k') h
    have e2 := callD_mono (Nat.le_max_right k k') h'
    rw [e1] at e2
    exact e2.symm

theorem callL_app : AppC (fun k => callD X k) (callL X) := fun c args σ r h => by
  obtain ⟨k, hk⟩ := callL_iff.1 h
  exact ⟨k, fun k' hk' => callD_mono hk' hk⟩

/-- A round of calls over 'callL' is 'callL'. -/
theorem callL_of_S {lf : Nat} {c : Callee} {args : List PV} {σ : Heap} {r : PV × Heap} (h : callS X (callL X) lf c args σ = some r) : callL X c args σ = some r := by
  obtain ⟨K, hK⟩ := callS_app (X := X) callL_app (lf := lf) (L := fun k => k) ⟨lf, fun k hk => hk⟩ c args σ r h
  exact callL_iff.2 ⟨K + 1, by rw [callD_succ]; exact hK K (Nat.le_refl _)⟩

/-! ### Code, however long it takes -/
structure Runs (X : Ctx) (n : Nat) (fn : FuncId) (c : Code) (e : Env) (σ : Heap) (Q : Ex → Env → Heap → Prop) : Prop where
  run : ∃ lf x e' σ', runCode X (callL X) lf n fn c e σ = some (x, e', σ') ∧ Q x e' σ'

variable {fn : FuncId} {c a b : Code} {e : Env} {σ : Heap} {Q : Ex → Env → Heap → Prop}

theorem runCode_lf {lf lf' : Nat} (h : lf ≤ lf') {out : Out} (hr : runCode X call lf n fn c e σ = some out) : runCode X call lf' n fn c e σ = some out := by
  obtain ⟨K, hK⟩ := runCode_app (F := fun _ => call) (fun f args σ => App.const _) (lf := lf) (L := fun _ => lf') ⟨0, fun _ _ => h⟩ c e σ out hr
  exact hK K (Nat.le_refl _)

theorem Runs.skip (h : Q .normal e σ) : Runs X n fn .skip e σ Q := ⟨0, _, _, _, rfl, h⟩
theorem Runs.exit {id : Nat} (h : Q (.exit id) e σ) : Runs X n fn (.exit id) e σ Q := ⟨0, _, _, _, rfl, h⟩
theorem Runs.ret (h : Q .ret e σ) : Runs X n fn .ret e σ Q := ⟨0, _, _, _, rfl, h⟩

theorem Runs.label {l : Nat} (h : Q .normal e σ) : Runs X n fn (.label l) e σ Q := ⟨0, _, _, _, rfl, h⟩
theorem Runs.scope (h : Runs X n fn c e σ Q) : Runs X n fn (.scope c) e σ Q := by
  obtain ⟨l1, x, e1, σ1, h1, h2⟩ := h.run
  exact ⟨l1, x, e1, σ1, by simp only [runCode]; exact h1, h2⟩

theorem Runs.seq (h : Runs X n fn a e σ fun x e' σ' => match x with | .normal => Runs X n fn b e' σ' Q | x => Q x e' σ') : Runs X n fn (.seq a b) e σ Q := by
  obtain ⟨l1, x, e1, σ1, h1, h2⟩ := h.run
  cases x with
  | normal =>
    obtain ⟨l2, y, e2, σ2, h3, h4⟩ := h2.run
    exact ⟨max l1 l2, y, e2, σ2, by simp only [runCode, runCode_lf (Nat.le_max_left l1 l2) h1]; exact runCode_lf (Nat.le_max_right l1 l2) h3, h4⟩
  | exit id => exact ⟨l1, _, e1, σ1, by simp only [runCode, h1], h2⟩
  | ret => exact ⟨l1, _, e1, σ1, by simp only [runCode, h1], h2⟩

theorem Runs.mono {Q' : Ex → Env → Heap → Prop} (h : Runs X n fn c e σ Q) (hq : ∀ x e σ, Q x e σ → Q' x e σ) : Runs X n fn c e σ Q' := by
  obtain ⟨l1, x, e1, σ1, h1, h2⟩ := h.run
  exact ⟨l1, x, e1, σ1, h1, hq _ _ _ h2⟩

theorem Runs.block {id : Nat} (h : Runs X n fn c e σ fun x e' σ' => if x = .exit id then Q .normal e' σ' else Q x e' σ') : Runs X n fn (.block id c) e σ Q := by
  obtain ⟨l1, x, e1, σ1, h1, h2⟩ := h.run
  cases x with
  | normal => exact ⟨l1, .normal, e1, σ1, by simp only [runCode, h1], by simpa using h2⟩
  | ret => exact ⟨l1, .ret, e1, σ1, by simp only [runCode, h1], by simpa using h2⟩
  | exit id' =>
    by_cases hid : id' = id
    · subst hid
      exact ⟨l1, .normal, e1, σ1, by simp only [runCode, h1, if_true], by simpa using h2⟩
    · exact ⟨l1, .exit id', e1, σ1, by simp only [runCode, h1, if_neg hid], by simpa [hid] using h2⟩

theorem Runs.cond {t : Operand} {v : Bool} (ht : operandD X e t = some (.v (.bool v))) (h1 : v = true → Runs X n fn a e σ Q) (h2 : v = false → Runs X n fn b e σ Q) : Runs X n fn (.cond t a b) e σ Q := by
  cases v with
  | true =>
    obtain ⟨l1, x, e1, σ1, h1, h2⟩ := (h1 rfl).run
    exact ⟨l1, x, e1, σ1, by simp only [runCode, ht]; exact h1, h2⟩
  | false =>
    obtain ⟨l1, x, e1, σ1, h1, h2⟩ := (h2 rfl).run
    exact ⟨l1, x, e1, σ1, by simp only [runCode, ht]; exact h1, h2⟩

theorem Runs.ops {id : Nat} {ops : Array Oper} {r : Env × Heap} (h : runOps X (callL X) n ops σ.nx 0 ops.toList e ⟨σ.nx + ops.size, σ.ent⟩ = some r) (hq : Q .normal r.1 r.2) : Runs X n fn (.region id ops false) e σ Q :=
  ⟨0, _, _, _, by simp only [runCode, Bool.false_eq_true, if_false, h, Option.map_some], hq⟩

theorem Runs.draw {id : Nat} {ops : Array Oper} {r : Env × Heap} (hd : drawOK ops = true) (h : runDraw X (callL X) n ops σ.nx 0 ops.toList e ⟨σ.nx + ops.size, σ.ent⟩ = some r) (hq : Q .normal r.1 r.2) : Runs X n fn (.region id ops true) e σ Q :=
  ⟨0, _, _, _, by simp only [runCode, if_true, hd, h, Option.map_some], hq⟩

/-- A loop: what holds ahead of each round, and a number that each round makes less. -/
theorem Runs.loop (I : Nat → Env → Heap → Prop) {m : Nat} (h0 : I m e σ)
    (hs : ∀ m e σ, I m e σ → Runs X n fn c e σ fun x e' σ' => match x with | .normal => ∃ m', m' < m ∧ I m' e' σ' | x => Q x e' σ') : Runs X n fn (.loop c) e σ Q := by
  have key : ∀ m e σ, I m e σ → ∃ lf, ∀ lf', lf ≤ lf' → ∃ j x e' σ', loopD (runCode X (callL X) lf' n fn c) j e σ = some (x, e', σ') ∧ Q x e' σ' := by
    intro m
    induction m using Nat.strongRecOn with
    | _ m ih =>
      intro e σ hI
      obtain ⟨l1, x, e1, σ1, h1, h2⟩ := (hs m e σ hI).run
      cases x with
      | normal =>
        obtain ⟨m', hlt, hI'⟩ := h2
        obtain ⟨l2, q2⟩ := ih m' hlt e1 σ1 hI'
        refine ⟨max l1 l2, fun lf' hl => ?_⟩
        obtain ⟨j, x, e', σ', q3, q4⟩ := q2 lf' (by omega)
        exact ⟨j + 1, x, e', σ', by simp only [loopD, runCode_lf (show l1 ≤ lf' by omega) h1]; exact q3, q4⟩
      | exit id => exact ⟨l1, fun lf' hl => ⟨1, _, e1, σ1, by simp only [loopD, runCode_lf hl h1], h2⟩⟩
      | ret => exact ⟨l1, fun lf' hl => ⟨1, _, e1, σ1, by simp only [loopD, runCode_lf hl h1], h2⟩⟩
  obtain ⟨lf, hl⟩ := key m e σ h0
  obtain ⟨j, x, e', σ', q1, q2⟩ := hl lf (Nat.le_refl _)
  have up : ∀ (step step' : Env → Heap → Option Out) (hst : ∀ e σ r, step e σ = some r → step' e σ = some r) (j j' : Nat) (hj : j ≤ j') (e : Env) (σ : Heap) (r : Out), loopD step j e σ = some r → loopD step' j' e σ = some r := by
    intro step step' hst j
    induction j with
    | zero => intro j' _ e σ r h; simp [loopD] at h
    | succ j ihj =>
      intro j' hj e σ r h
      obtain ⟨j', rfl⟩ : ∃ i, j' = i + 1 := ⟨j' - 1, by omega⟩
      simp only [loopD] at h ⊢
      split at h
      · rename_i h1
        rw [hst _ _ _ h1]
        exact ihj j' (by omega) _ _ _ h
      · rename_i hn
        rw [hst _ _ _ h]
        split
        · rename_i heq; rw [h] at hn; cases heq; exact absurd rfl (hn _ _)
        · rfl
  refine ⟨max lf j, x, e', σ', ?_, q2⟩
  simp only [runCode]
  exact up _ _ (fun e σ r h => runCode_lf (Nat.le_max_left lf j) h) j _ (Nat.le_max_right lf j) _ _ _ q1

/-- What a function answers, handed values without references. -/
structure Fn (X : Ctx) (f : FuncId) (args : List PV) (r : PV) : Prop where
  call : ∀ σ, callL X (.fn f) args σ = some (r, σ)
  pure : args.all PV.pure = true
  keep : X.keep f = false
  opn : X.opn f = false

theorem Fn.of {f : FuncId} {args : List PV} {r : PV} {fu : Func} {c : Code} (hf : X.P.funcs[f]? = some fu) (hb : fu.body = some c) (hi : X.intr f args = none) (hk : X.keep f = false) (ho : X.opn f = false) (hp : args.all PV.pure = true)
    (h : Runs X (max fu.ntmps args.length) f c (envOf args) Heap.empty fun x e σ => (x = .normal ∨ x = .ret) ∧ ∃ xs σ', resultsD X.P e σ fu.results.toList = some xs ∧ expRes σ (packD xs) = some (r, σ')) : Fn X f args r := by
  refine ⟨fun σ => ?_, hp, hk, ho⟩
  obtain ⟨lf, x, e', σ', h1, hx, xs, σ2, h2, h3⟩ := h.run
  refine callL_of_S (lf := lf) ?_
  have hbody : bodyD X (callL X) lf f args Heap.empty = some (packD xs, σ') := by
    simp only [bodyD, hf, hb, h1]
    rcases hx with rfl | rfl <;> simp only [h2, Option.map_some]
  simp only [callS, hi, hk, Bool.false_eq_true, if_false, expArgs_pure hp, ho, hp, if_true, hbody, Option.bind_some, h3, Option.map_some]

theorem Fn.intr {f : FuncId} {args : List PV} {r : PV} (hi : X.intr f args = some r) (hp : args.all PV.pure = true) (hk : X.keep f = false) (ho : X.opn f = false) : Fn X f args r :=
  ⟨fun σ => callL_of_S (lf := 0) (by simp only [callS, hi, hp, if_true]), hp, hk, ho⟩

theorem Fn.run {f : FuncId} {args : List PV} {r : PV} (k : Nat) (h : ∀ σ, callD X k (.fn f) args σ = some (r, σ)) (hp : args.all PV.pure = true) (hk : X.keep f = false) (ho : X.opn f = false) : Fn X f args r :=
  ⟨fun σ => callL_iff.2 ⟨k, h σ⟩, hp, hk, ho⟩

end Go.Dn
