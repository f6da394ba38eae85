/- Calls: what the interpreter says of a call is so. -/
import Derived.Test.YtefaoeaohhdhkaaD16
set_option linter.unusedVariables false
set_option linter.unusedSimpArgs false
namespace Go.Dn
open Go

variable {X : Ctx} {s : St} {n : Nat}

/-! ### What is not there stays not there -/
theorem runOps_tame {call : Call0} (hc : CallTame call) {ops : Array Oper} {base : Nat} {p : Nat → Prop} (hp : ∀ k, p k → k < base) : ∀ (l : List Oper) (i : Nat) (e : Env) (σ : Heap) (e' : Env) (σ' : Heap),
    base ≤ σ.nx → (∀ k, p k → σ.ent k = .none) → runOps X call n ops base i l e σ = some (e', σ') → base ≤ σ'.nx ∧ ∀ k, p k → σ'.ent k = .none
  | [], i, e, σ, e', σ', hb, hk, h => by
    simp [runOps] at h
    obtain ⟨_, rfl⟩ := h
    exact ⟨hb, hk⟩
  | o :: l, i, e, σ, e', σ', hb, hk, h => by
    simp only [runOps, Option.bind_eq_some_iff] at h
    obtain ⟨⟨e1, σ1⟩, h1, h2⟩ := h
    have ht := stepO_tame hc h1
    exact runOps_tame hc hp l (i + 1) e1 σ1 e' σ' (Nat.le_trans hb ht.1) (fun k hpk => ht.2 k (by have := hp k hpk; omega) (by have := hp k hpk; simp; omega) (hk k hpk)) h2

theorem runDraw_tame {call : Call0} (hc : CallTame call) {ops : Array Oper} {base : Nat} {p : Nat → Prop} (hp : ∀ k, p k → k < base) : ∀ (l : List Oper) (i : Nat) (e : Env) (σ : Heap) (e' : Env) (σ' : Heap),
    base ≤ σ.nx → (∀ k, p k → σ.ent k = .none) → runDraw X call n ops base i l e σ = some (e', σ') → base ≤ σ'.nx ∧ ∀ k, p k → σ'.ent k = .none
  | [], i, e, σ, e', σ', hb, hk, h => by
    simp [runDraw] at h
    obtain ⟨_, rfl⟩ := h
    exact ⟨hb, hk⟩
  | o :: l, i, e, σ, e', σ', hb, hk, h => by
    simp only [runDraw, Option.bind_eq_some_iff] at h
    obtain ⟨⟨e1, σ1⟩, h1, h2⟩ := h
    have ht := stepO_tame hc (stepW_stepO h1)
    exact runDraw_tame hc hp l (i + 1) e1 σ1 e' σ' (Nat.le_trans hb ht.1) (fun k hpk => ht.2 k (by have := hp k hpk; omega) (by have := hp k hpk; simp; omega) (hk k hpk)) h2

theorem runCode_tame {call : Call0} (hc : CallTame call) {lf : Nat} {fn : FuncId} : ∀ (c : Code) (e : Env) (σ : Heap) (x : Ex) (e' : Env) (σ' : Heap), runCode X call lf n fn c e σ = some (x, e', σ') → Tame σ none σ' := by
  intro c
  induction c with
  | skip => intro e σ x e' σ' h; simp only [runCode, Option.some.injEq, Prod.mk.injEq] at h; rw [← h.2.2]; exact Tame.refl _ _
  | label l => intro e σ x e' σ' h; simp only [runCode, Option.some.injEq, Prod.mk.injEq] at h; rw [← h.2.2]; exact Tame.refl _ _
  | scope c ih => intro e σ x e' σ' h; simp only [runCode] at h; exact ih e σ x e' σ' h
  | region id ops draw =>
    intro e σ x e' σ' h
    simp only [runCode] at h
    split at h
    · split at h
      · simp only [Option.map_eq_some_iff, Prod.mk.injEq] at h
        obtain ⟨⟨e1, σ1⟩, h1, _, _, rfl⟩ := h
        obtain ⟨q1, q2⟩ := runDraw_tame hc (p := fun k => k < σ.nx ∧ σ.ent k = .none) (fun k hk => hk.1) ops.toList 0 e ⟨σ.nx + ops.size, σ.ent⟩ e1 σ1 (Nat.le_add_right _ _) (fun k hk => hk.2) h1
        exact ⟨q1, fun k hk _ hn => q2 k ⟨hk, hn⟩⟩
      · cases h
    · simp only [Option.map_eq_some_iff, Prod.mk.injEq] at h
      obtain ⟨⟨e1, σ1⟩, h1, _, _, rfl⟩ := h
      obtain ⟨q1, q2⟩ := runOps_tame hc (p := fun k => k < σ.nx ∧ σ.ent k = .none) (fun k hk => hk.1) ops.toList 0 e ⟨σ.nx + ops.size, σ.ent⟩ e1 σ1 (Nat.le_add_right _ _) (fun k hk => hk.2) h1
      exact ⟨q1, fun k hk _ hn => q2 k ⟨hk, hn⟩⟩
  | seq c1 c2 ih1 ih2 =>
    intro e σ x e' σ' h
    simp only [runCode] at h
    split at h
    · rename_i h1
      exact (ih1 _ _ _ _ _ h1).trans (ih2 _ _ _ _ _ h)
    · exact ih1 _ _ _ _ _ h
  | cond c c1 c2 ih1 ih2 =>
    intro e σ x e' σ' h
    simp only [runCode] at h
    split at h
    · exact ih1 _ _ _ _ _ h
    · exact ih2 _ _ _ _ _ h
    · cases h
  | block id c ih =>
    intro e σ x e' σ' h
    simp only [runCode] at h
    split at h
    · rename_i h1
      have := ih _ _ _ _ _ h1
      split at h <;> simp only [Option.some.injEq, Prod.mk.injEq] at h <;> rw [← h.2.2] <;> exact this
    · exact ih _ _ _ _ _ h
  | loop c ih =>
    intro e σ x e' σ' h
    simp only [runCode] at h
    have key : ∀ (k : Nat) (e : Env) (σ : Heap), loopD (runCode X call lf n fn c) k e σ = some (x, e', σ') → Tame σ none σ' := by
      intro k
      induction k with
      | zero => intro e σ h; simp [loopD] at h
      | succ k ihk =>
        intro e σ h
        simp only [loopD] at h
        split at h
        · rename_i h1
          exact (ih _ _ _ _ _ h1).trans (ihk _ _ h)
        · exact ih _ _ _ _ _ h
    exact key lf e σ h
  | exit id => intro e σ x e' σ' h; simp only [runCode, Option.some.injEq, Prod.mk.injEq] at h; rw [← h.2.2]; exact Tame.refl _ _
  | ret => intro e σ x e' σ' h; simp only [runCode, Option.some.injEq, Prod.mk.injEq] at h; rw [← h.2.2]; exact Tame.refl _ _
  | rangeFunc g ps as_ bo _ _ =>
    intro e σ x e' σ' h
    simp only [runCode] at h
    split at h
    · rename_i gv hg
      have fin : ∀ (r : Option (PV × Heap)), (∀ q σ2, r = some (q, σ2) → Tame ⟨σ.nx + 1, upd σ.ent σ.nx (.loop fn e n ps.toList as_ bo .ready none)⟩ none σ2) → (match r with
        | some (_, σ2) =>
          match σ2.ent σ.nx with
          | .loop fn' e' n' ps' as' bo' st pend =>
            if st = LoopState.busy then none else
            match jumpD pend with
            | some x => some (x, e, σ2.put σ.nx (.loop fn' e' n' ps' as' bo' .exhausted pend))
            | none => none
          | _ => none
        | none => none) = some (x, e', σ') → Tame σ none σ' := by
        intro r ht hr
        split at hr
        · rename_i q σ2
          have ht := ht q σ2 rfl
          split at hr
          · split at hr
            · cases hr
            · split at hr
              · simp only [Option.some.injEq, Prod.mk.injEq] at hr
                obtain ⟨_, _, rfl⟩ := hr
                refine ⟨Nat.le_trans (Nat.le_succ _) ht.1, fun k hk _ hn => ?_⟩
                simp only [Heap.put, upd_ne _ _ (Nat.ne_of_lt hk)]
                exact ht.2 k (Nat.lt_succ_of_lt hk) (by simp) (by simp only [upd_ne _ _ (Nat.ne_of_lt hk)]; exact hn)
              · cases hr
          · cases hr
        · cases hr
      cases gv with
      | v y =>
        cases y with
        | fn f => exact fin _ (fun q σ2 hq => hc _ _ _ _ _ hq) h
        | _ => simp at h
      | clo f first caps => exact fin _ (fun q σ2 hq => hc _ _ _ _ _ hq) h
      | _ => simp at h
    · cases h
  | _ =>
    intro e σ x e' σ' h
    simp [runCode] at h

theorem bodyD_tame {call : Call0} (hc : CallTame call) {lf : Nat} {f : FuncId} {args : List PV} {σ σ' : Heap} {r : PV} (h : bodyD X call lf f args σ = some (r, σ')) : Tame σ none σ' := by
  unfold bodyD at h
  split at h
  · cases h
  · split at h
    · cases h
    · split at h
      · rename_i h1
        simp only [Option.map_eq_some_iff, Prod.mk.injEq] at h
        obtain ⟨_, _, _, rfl⟩ := h
        exact runCode_tame hc _ _ _ _ _ _ h1
      · rename_i h1
        simp only [Option.map_eq_some_iff, Prod.mk.injEq] at h
        obtain ⟨_, _, _, rfl⟩ := h
        exact runCode_tame hc _ _ _ _ _ _ h1
      · cases h

/-- What a call of a function comes to. -/
theorem callD_fn {k : Nat} {f : FuncId} {args : List PV} {σ σ' : Heap} {r : PV} (h : callD X (k + 1) (.fn f) args σ = some (r, σ')) :
    (X.intr f args = some r ∧ args.all PV.pure = true ∧ σ' = σ) ∨
    ∃ args' σ1, ((X.keep f = true ∧ args' = args ∧ σ1 = σ) ∨ expArgs σ args = some (args', σ1)) ∧
      ((X.opn f = true ∧ bodyD X (callD X k) k f args' σ1 = some (r, σ')) ∨
       (X.opn f = false ∧ args'.all PV.pure = true ∧ σ' = σ1 ∧ ∃ q σ2 σ3, bodyD X (callD X k) k f args' Heap.empty = some (q, σ2) ∧ expRes σ2 q = some (r, σ3)) ∨
       (X.opn f = false ∧ args'.all PV.pure = false ∧ ∃ q σ2, bodyD X (callD X k) k f args' σ1 = some (q, σ2) ∧ expRes σ2 q = some (r, σ'))) := by
  simp only [callD] at h
  split at h
  · rename_i r' hr
    split at h
    · rename_i hp
      simp only [Option.some.injEq, Prod.mk.injEq] at h
      obtain ⟨rfl, rfl⟩ := h
      exact .inl ⟨hr, hp, rfl⟩
    · cases h
  · split at h
    · cases h
    · rename_i args' σ1 ha
      refine .inr ⟨args', σ1, ?_, ?_⟩
      · split at ha
        · rename_i hk
          simp only [Option.some.injEq, Prod.mk.injEq] at ha
          exact .inl ⟨hk, ha.1.symm, ha.2.symm⟩
        · exact .inr ha
      · split at h
        · rename_i ho
          exact .inl ⟨ho, h⟩
        · rename_i ho
          simp only [Bool.not_eq_true] at ho
          split at h
          · rename_i hp
            simp only [Option.bind_eq_some_iff, Option.map_eq_some_iff, Prod.mk.injEq] at h
            obtain ⟨⟨q, σ2⟩, h1, ⟨r', σ3⟩, h2, rfl, rfl⟩ := h
            exact .inr (.inl ⟨ho, hp, rfl, q, σ2, σ3, h1, h2⟩)
          · rename_i hp
            simp only [Bool.not_eq_true] at hp
            simp only [Option.bind_eq_some_iff] at h
            obtain ⟨⟨q, σ2⟩, h1, h2⟩ := h
            exact .inr (.inr ⟨ho, hp, q, σ2, h1, h2⟩)

/-- What a call of yield comes to. -/
theorem callD_yld {k : Nat} {id : Nat} {args : List PV} {σ σ' : Heap} {r : PV} (h : callD X (k + 1) (.yld id) args σ = some (r, σ')) :
    ∃ fn e n ps as_ bo args' σ1 e1 σ2 pend x e3 σ3, σ.ent id = .loop fn e n ps as_ bo .ready none ∧ ps.length = args.length ∧ expArgs σ args = some (args', σ1) ∧
      runCode X (callD X k) k n fn as_ (setArgs e n ps args') σ1 = some (.normal, e1, σ2) ∧ (∃ fn' e' n' ps' as' bo', σ2.ent id = .loop fn' e' n' ps' as' bo' .ready pend) ∧
      runCode X (callD X k) k n fn bo e1 (σ2.put id (.loop fn e n ps as_ bo .busy pend)) = some (x, e3, σ3) ∧
      ((x = .normal ∧ r = .v (.bool true) ∧ σ' = σ3.put id (.loop fn e n ps as_ bo .ready none)) ∨
       (∃ t, x = .exit t ∧ r = .v (.bool false) ∧ σ' = σ3.put id (.loop fn e n ps as_ bo .done (some (.exit t)))) ∨
       (x = .ret ∧ r = .v (.bool false) ∧ σ' = σ3.put id (.loop fn e n ps as_ bo .done (some .ret)))) := by
  simp only [callD] at h
  split at h
  · rename_i fn e n ps as_ bo hen
    split at h
    · rename_i hlen
      split at h
      · cases h
      · rename_i args' σ1 ha
        split at h
        · rename_i e1 σ2 h1
          split at h
          · rename_i fn' e' n' ps' as' bo' pend h2
            split at h
            · rename_i x e3 σ3 h3
              refine ⟨fn, e, n, ps, as_, bo, args', σ1, e1, σ2, pend, x, e3, σ3, hen, hlen, ha, h1, ⟨_, _, _, _, _, _, h2⟩, h3, ?_⟩
              split at h <;> simp only [Option.some.injEq, Prod.mk.injEq] at h
              · exact .inl ⟨rfl, h.1.symm, h.2.symm⟩
              · exact .inr (.inl ⟨_, rfl, h.1.symm, h.2.symm⟩)
              · exact .inr (.inr ⟨rfl, h.1.symm, h.2.symm⟩)
            · cases h
          · cases h
        · cases h
    · cases h
  · cases h

theorem callD_tame : ∀ k, CallTame (callD X k)
  | 0 => fun c args σ r σ' h => by cases c <;> simp [callD] at h
  | k + 1 => fun c args σ r σ' h => by
    have ih := callD_tame k
    cases c with
    | fn f =>
      rcases callD_fn h with ⟨_, _, rfl⟩ | ⟨args', σ1, h1, h2⟩
      · exact Tame.refl _ _
      · have t1 : Tame σ none σ1 := by
          rcases h1 with ⟨_, _, rfl⟩ | h1
          · exact Tame.refl _ _
          · exact expArgs_tame h1
        rcases h2 with ⟨_, h2⟩ | ⟨_, _, rfl, _⟩ | ⟨_, _, q, σ2, h2, h3⟩
        · exact t1.trans (bodyD_tame ih h2)
        · exact t1
        · exact t1.trans ((bodyD_tame ih h2).trans (expRes_tame h3))
    | yld id =>
      obtain ⟨fn, e, n, ps, as_, bo, args', σ1, e1, σ2, pend, x, e3, σ3, hen, _, ha, h1, _, h3, h4⟩ := callD_yld h
      have t1 := (expArgs_tame ha).trans (runCode_tame ih _ _ _ _ _ _ h1)
      have t2 := runCode_tame ih _ _ _ _ _ _ h3
      have t3 : σ.nx ≤ σ3.nx ∧ ∀ k, k < σ.nx → k ≠ id → σ.ent k = .none → σ3.ent k = .none := by
        refine ⟨Nat.le_trans t1.1 t2.1, fun k hk hne hn => t2.2 k (Nat.lt_of_lt_of_le hk t1.1) (by simp) ?_⟩
        simp only [Heap.put, upd_ne _ _ hne]
        exact t1.2 k hk (by simp) hn
      have t4 : ∀ en, Tame σ none (σ3.put id en) := fun en => ⟨t3.1, fun k hk _ hn => by
        have hne : k ≠ id := by rintro rfl; rw [hen] at hn; cases hn
        simp only [Heap.put, upd_ne _ _ hne]
        exact t3.2 k hk hne hn⟩
      rcases h4 with ⟨_, _, rfl⟩ | ⟨_, _, _, rfl⟩ | ⟨_, _, rfl⟩ <;> exact t4 _

theorem callD_pure : ∀ k, CallPure X (callD X k)
  | 0 => fun f args σ r σ' h => by simp [callD] at h
  | k + 1 => fun f args σ r σ' h hp ho hk => by
    obtain ⟨ys, hy, he⟩ := expArgs_calm hp
    simp only [callD, hk, ho, Bool.false_eq_true, if_false, he, hy, if_true] at h ⊢
    split at h
    · split at h
      · rename_i hpu
        simp only [Option.some.injEq, Prod.mk.injEq] at h
        obtain ⟨rfl, rfl⟩ := h
        exact ⟨rfl, fun σ2 => by simp only [hpu, if_true]⟩
      · cases h
    · simp only [Option.bind_eq_some_iff, Option.map_eq_some_iff, Prod.mk.injEq] at h
      obtain ⟨⟨q, σ2⟩, h1, ⟨r', σ3⟩, h2, rfl, rfl⟩ := h
      refine ⟨rfl, fun σ4 => ?_⟩
      simp only [h1, Option.bind_some, h2, Option.map_some]

/-! ### Calls -/
/-- What is said of a function without looking into it. -/
def IntrOK (X : Ctx) : Prop := ∀ f args r, X.intr f args = some r → ∀ (s : St), Inv s → GlobOK X s → ∀ vs, PVRs s args vs → args.all PV.pure = true →
  (callFunc f vs).run X.P s.w = .ok (.enter f vs) s.w ∧ Calls X.P f vs s.w fun en w' => ∃ v, en = .returned v ∧ Post s r s.σ v w'

/-- The state as a callee sees it that is handed nothing that may change. -/
def St.under (s : St) : St := ⟨s.w, fun b => s.Y b ∨ ∃ id, Live s.σ id ∧ s.ι id = b, Heap.empty, fun _ => 0⟩

theorem empty_live {id : Nat} : ¬ Live Heap.empty id := by
  rintro (⟨el, c, h⟩ | ⟨_, _, _, _, _, _, _, _, h⟩) <;> cases h

theorem under_imm {b : Nat} : s.under.imm b ↔ s.imm b := by
  simp only [St.imm, Imm, St.under, not_or, not_exists, not_and]
  constructor
  · rintro ⟨h1, ⟨h2, h3⟩, _⟩
    exact ⟨h1, h2, h3⟩
  · rintro ⟨h1, h2, h3⟩
    exact ⟨h1, ⟨h2, h3⟩, fun id h => absurd h empty_live⟩

theorem under_inv (hi : Inv s) : Inv s.under :=
  ⟨fun _ => trivial, fun _ _ h => absurd h empty_live, fun _ h => absurd h empty_live, fun _ _ _ h => (by cases h), fun _ _ => rfl,
   fun b hb => hb.elim (hi.Ylt b) fun ⟨_, hl, e⟩ => e ▸ hl.lt hi⟩

theorem under_pvr {x : PV} {v : Value} (hp : x.pure = true) (h : PVR s x v) : PVR s.under x v :=
  flat1_pvr (fun b hb => ⟨under_imm.2 hb, rfl⟩) (pure_flat hp).2 h

theorem under_pvrs {xs : List PV} {vs : Array Value} (hp : xs.all PV.pure = true) (h : PVRs s xs vs) : PVRs s.under xs vs :=
  ⟨h.1, fun i x hi => under_pvr (by rw [List.all_eq_true] at hp; exact hp x (List.mem_of_getElem? hi)) (h.2 i x hi)⟩

theorem under_glob (hG : GlobOK X s) : GlobOK X s.under := fun g cells hg => under_pvr rfl (hG g cells hg)

/-- The caller's state when that callee has come back. -/
theorem under_post {q r : PV} {σ2 σ3 : Heap} {v : Value} {w' : World} (hi : Inv s) (h : Post s.under q σ2 v w') (hr : expRes σ2 q = some (r, σ3)) : Post s r s.σ v w' := by
  obtain ⟨ι', h1, h2, h3⟩ := h
  obtain ⟨⟨e1, _⟩, e2⟩ := expRes_ok (s := ⟨w', s.under.Y, σ2, ι'⟩) hr h1 h3
  obtain ⟨g1, g2⟩ := grow_ev hi h2.size (fun b hb => h2.keep b hb fun id hl => absurd hl empty_live) h2.os h2.tape h2.output
  refine ⟨s.ι, g2, g1, flat_pvr (s := ⟨w', s.under.Y, σ3, ι'⟩) (fun b hb => ⟨?_, rfl⟩) (expRes_flat hr) e2⟩
  obtain ⟨q1, q2, q3⟩ := hb
  simp only [St.under, not_or, not_exists, not_and] at q2
  exact ⟨q1, q2.1, q2.2⟩

theorem setArgs_ok : ∀ {ps : List Nat} {xs : List PV} {us : List Value} {e : Env} {a : Act}, EnvR s n e a → xs.length = us.length → (∀ (i : Nat) (x : PV), xs[i]? = some x → PVR s x ((us[i]?).getD Go.undef)) →
    EnvR s n (setArgs e n ps xs) { a with tmps := (ps.zip us).foldl (fun tmps (t, a) => tmps.setIfInBounds t a) a.tmps }
  | [], _, _, _, _, he, _, _ => by simpa [setArgs] using he
  | p :: ps, [], [], _, _, he, _, _ => by simpa [setArgs] using he
  | p :: ps, x :: xs, u :: us, e, a, he, hl, hx => by
    have h0 := hx 0 x (by simp)
    have h1 := he.put (dst := some p) (x := x) (v := u) (by simpa using h0)
    have := setArgs_ok (ps := ps) (xs := xs) (us := us) h1 (by simpa using hl) (fun i y hy => by have := hx (i + 1) y (by simpa using hy); simpa using this)
    simpa [setArgs, Act.put] using this
  | _ :: _, [], _ :: _, _, _, _, hl, _ => by simp at hl
  | _ :: _, _ :: _, [], _, _, _, hl, _ => by simp at hl

/-- What is known of the program and of what is said of its functions. -/
structure CtxOK (X : Ctx) : Prop where
  prog : ProgOK X.P
  intr : IntrOK X

theorem pvrs_of {xs : List PV} {vs : Array Value} (hl : xs.length = vs.size) (h : ∀ (j : Nat) (y : PV), xs[j]? = some y → PVR s y (vs.getD j Go.undef)) : PVRs s xs vs := ⟨hl, h⟩

theorem loop_facts {s' : St} (hi : Inv s') {id : Nat} {fn : FuncId} {e : Env} {ps : List Nat} {as_ bo : Code} {st : LoopState} {pend : Option Code} (h : s'.σ.ent id = .loop fn e n ps as_ bo st pend) :
    id < s'.σ.nx ∧ ∃ fn' tmps defers, s'.w.heap[s'.ι id]? = some (.loop { state := st, pending := pend, fn := fn', tmps := tmps, params := ps.toArray, assign := as_, body := bo, defers := defers }) ∧ tmps.size = n ∧ ∀ t, PVR s' (e t) (tmps.getD t Go.undef) := by
  refine ⟨?_, LPut.old_rec hi h⟩
  rcases Nat.lt_or_ge id s'.σ.nx with h' | h'
  · exact h'
  · have := hi.nx _ h'
    rw [h] at this
    cases this

/-- **Every call.** -/
theorem callD_ok (hX : CtxOK X) : ∀ k, CallOK X (callD X k)
  | 0 => fun c args r σ' s h => by cases c <;> simp [callD] at h
  | k + 1 => fun c args r σ' s h hi hG vs hv => by
    have ih := callD_ok hX k
    have it := callD_tame (X := X) k
    have ip := callD_pure (X := X) k
    have body := fun {s : St} {f : FuncId} {args : List PV} {vs : Array Value} {r : PV} {σ' : Heap} => body_ok (X := X) (s := s) hX.prog.mixed hX.prog.names ih it ip (lf := k) (f := f) (args := args) (vs := vs) (r := r) (σ' := σ')
    cases c with
    | fn f =>
      simp only
      rcases callD_fn h with ⟨h1, hp, rfl⟩ | ⟨args', σ1, h1, h2⟩
      · exact hX.intr f args r h1 s hi hG vs hv hp
      · have t1 : Exp s σ1 ∧ PVRs ⟨s.w, s.Y, σ1, s.ι⟩ args' vs := by
          rcases h1 with ⟨_, rfl, rfl⟩ | h1
          · exact ⟨Exp.refl hi, hv⟩
          · obtain ⟨e1, e2, e3⟩ := expArgs_ok args s (fun j => vs.getD j Go.undef) args' σ1 h1 hi hv.2
            exact ⟨e1, by rw [e2]; exact hv.1, e3⟩
        obtain ⟨⟨i1, ev1⟩, v1⟩ := t1
        have post : ∀ {r : PV} {σ' : Heap} {v : Value} {w' : World}, Post ⟨s.w, s.Y, σ1, s.ι⟩ r σ' v w' → Post s r σ' v w' := fun ⟨ι', p1, p2, p3⟩ => ⟨ι', p1, ev1.trans p2, p3⟩
        rcases h2 with ⟨_, h2⟩ | ⟨_, hp, rfl, q, σ2, σ3, h2, h3⟩ | ⟨_, _, q, σ2, h2, h3⟩
        · obtain ⟨b1, b2⟩ := body (s := ⟨s.w, s.Y, σ1, s.ι⟩) i1 (hG.mono ev1) v1 h2
          exact ⟨b1, b2.mono fun en w' ⟨v, e, p⟩ => ⟨v, e, post p⟩⟩
        · obtain ⟨b1, b2⟩ := body (s := St.under ⟨s.w, s.Y, σ', s.ι⟩) (under_inv i1) (under_glob (hG.mono ev1)) (under_pvrs hp v1) h2
          exact ⟨b1, b2.mono fun en w' ⟨v, e, p⟩ => ⟨v, e, post (under_post i1 p h3)⟩⟩
        · obtain ⟨b1, b2⟩ := body (s := ⟨s.w, s.Y, σ1, s.ι⟩) i1 (hG.mono ev1) v1 h2
          refine ⟨b1, b2.mono fun en w' ⟨v, e, p⟩ => ⟨v, e, post ?_⟩⟩
          obtain ⟨ι', p1, p2, p3⟩ := p
          obtain ⟨⟨x1, x2⟩, x3⟩ := expRes_ok (s := ⟨w', s.Y, σ2, ι'⟩) h3 p1 p3
          exact ⟨ι', x1, p2.trans x2, x3⟩
    | yld id =>
      simp only
      obtain ⟨fn, e, n, ps, as_, bo, args', σ1, e1, σ2, pend, x, e3, σ3, hen, hlen, ha, h1, ⟨fn', e', n', ps', as', bo', h2⟩, h3, h4⟩ := callD_yld h
      obtain ⟨hnx, f0, tm, df, q1, q2, q3⟩ := loop_facts hi hen
      obtain ⟨⟨i1, ev1⟩, l1, v1⟩ := expArgs_ok args s (fun j => vs.getD j Go.undef) args' σ1 ha hi hv.2
      have hsz : vs.size = ps.length := by rw [hlen]; exact hv.1.symm
      refine ⟨_, _, _, _, _, run_yield q1 (by simpa using hsz), fun m => ?_⟩
      refine roundIn_of_wpIn trivial ?_
      have he0 : EnvR ⟨s.w, s.Y, σ1, s.ι⟩ n e { tmps := tm, defers := [] } := ⟨q2, fun t => ev1.pvr (q3 t)⟩
      have he1 := setArgs_ok (ps := ps) (xs := args') (us := vs.toList) he0 (by rw [l1, hv.1]; simp) (fun i y hy => by
        have := v1 i y hy
        simpa [Array.getD_eq_getD_getElem?] using this)
      have hfold : (ps.toArray.zip vs).foldl (fun tmps (x : Nat × Value) => tmps.setIfInBounds x.1 x.2) tm = (ps.zip vs.toList).foldl (fun tmps (x : Nat × Value) => tmps.setIfInBounds x.1 x.2) tm := by
        rw [← Array.foldl_toList]
        simp
      have hrd : RdOK (some (s.ι id)) ⟨s.w, s.Y, σ1, s.ι⟩ := fun l hl => by
        cases hl
        obtain ⟨⟨st', pend', e4⟩, e5⟩ := ev1.loop _ _ _ _ _ _ _ _ _ hen
        exact ⟨id, ⟨_, _, _, _, _, _, _, _, e4⟩, rfl⟩
      have he2 : EnvR ⟨s.w, s.Y, σ1, s.ι⟩ n (setArgs e n ps args') { tmps := (ps.toArray.zip vs).foldl (fun tmps (x : Nat × Value) => tmps.setIfInBounds x.1 x.2) tm, defers := [] } := by
        rw [hfold]
        exact he1
      refine code_ok (rd := some (s.ι id)) hX.prog.mixed ih it ip as_ (s := ⟨s.w, s.Y, σ1, s.ι⟩) (hG.mono ev1) i1 he2 hrd h1 fun a1 w1 ι1 ht => ?_
      simp only [Ex.out, Exit.then]
      have evA := ev1.trans ht.ev
      obtain ⟨⟨stA, pendA, eA⟩, hιA⟩ := evA.loop _ _ _ _ _ _ _ _ _ hen
      simp only at eA hιA
      rw [h2] at eA
      injection eA with a1' a2 a3 a4 a5 a6 a7 a8
      subst a1' a2 a3 a4 a5 a6 a7 a8
      obtain ⟨hnx2, f2, tm2, df2, r1, r2, r3⟩ := loop_facts (s' := ⟨w1, s.Y, σ2, ι1⟩) ht.inv h2
      simp only [hιA] at r1
      have hpB : LPut ⟨w1, s.Y, σ2, ι1⟩ id fn' e' n' ps' as' bo' .busy pend (s.ι id) (w1.putObj (s.ι id) (.loop { state := .busy, pending := pend, fn := f2, tmps := tm2, params := ps'.toArray, assign := as', body := bo', defers := df2 })) :=
        ⟨.inr ⟨⟨_, _, h2⟩, hιA.symm⟩, by simp, fun b _ hb => World.putObj_heap_other hb, ⟨f2, tm2, df2, World.putObj_heap_same (Array.getElem?_eq_some_iff.1 r1).1, r2, r3⟩, hnx2, rfl, rfl, rfl⟩
      have iB := hpB.inv ht.inv
      have evB := evA.trans (hpB.ev ht.inv)
      refine ⟨_, run_beginRound r1 rfl, ?_⟩
      refine code_ok (rd := some (s.ι id)) hX.prog.mixed ih it ip bo' (s := (St.lput ⟨w1, s.Y, σ2, ι1⟩ id (.loop fn' e' n' ps' as' bo' .busy pend) (s.ι id) _)) (hG.mono evB) iB (ht.env.mono (hpB.ev ht.inv)) ((hrd.mono ht.ev).mono (hpB.ev ht.inv)) h3 fun a3 w3 ι3 ht3 => ?_
      have evC := evB.trans ht3.ev
      obtain ⟨⟨stC, pendC, eC⟩, hιC⟩ := evC.loop _ _ _ _ _ _ _ _ _ hen
      simp only at eC hιC
      obtain ⟨hnx3, f3, tm3, df3, u1, u2, u3⟩ := loop_facts (s' := ⟨w3, s.Y, σ3, ι3⟩) ht3.inv eC
      simp only [hιC] at u1
      have fin : ∀ (jump : Option Code) (b : Bool), b = jump.isNone → ∃ v w', (Instr.endRound (s.ι id) jump).run X.P w3 = .ok v w' ∧ ∃ v', Ending.returned v = .returned v' ∧ Post s (.v (.bool b)) (σ3.put id (.loop fn' e' n' ps' as' bo' (if jump.isNone then .ready else .done) jump)) v' w' := by
        intro jump b hb
        have hpC : LPut ⟨w3, s.Y, σ3, ι3⟩ id fn' e' n' ps' as' bo' (if jump.isNone then .ready else .done) jump (s.ι id) (w3.putObj (s.ι id) (.loop { state := if jump.isNone then .ready else .done, pending := jump, fn := f3, tmps := tm3, params := ps'.toArray, assign := as', body := bo', defers := df3 })) :=
          ⟨.inr ⟨⟨_, _, eC⟩, hιC.symm⟩, by simp, fun b _ hb => World.putObj_heap_other hb, ⟨f3, tm3, df3, World.putObj_heap_same (Array.getElem?_eq_some_iff.1 u1).1, u2, u3⟩, hnx3, rfl, rfl, rfl⟩
        subst hb
        exact ⟨_, _, run_endRound jump u1, _, rfl, _, hpC.inv ht3.inv, evC.trans (hpC.ev ht3.inv), .v (.bool _)⟩
      rcases h4 with ⟨rfl, rfl, rfl⟩ | ⟨t, rfl, rfl, rfl⟩ | ⟨rfl, rfl, rfl⟩
      · exact fin none true rfl
      · exact fin (some (.exit t)) false rfl
      · exact fin (some .ret) false rfl

end Go.Dn
