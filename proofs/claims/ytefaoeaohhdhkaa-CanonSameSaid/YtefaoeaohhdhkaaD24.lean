/- slices.Clone: what is copied is the same, elsewhere. -/
import Derived.Test.YtefaoeaohhdhkaaD23
import Derived.KernelRfl
set_option linter.unusedVariables false
set_option linter.unusedSimpArgs false
namespace Go.Dn
open Go

def cloneA (t b : TypeId) : Code := .region 0 #[{ dst := some 2, op := .assign (.const (.slice none 0 0)), type := t, pos := "slices.go:355", after := #[], guard := none }] false
def cloneOps (t b : TypeId) : Array Oper := #[{ dst := some 3, op := .move (.tmp 0), type := t, pos := "slices.go:357", after := #[], guard := none },
  { dst := some 4, op := .binOp .eql t (.tmp 3) (.const (.slice none 0 0)) t, type := b, pos := "slices.go:357", after := #[{ on := 0, ground := .data }], guard := none }]
def cloneC (t : TypeId) : Code := .cond (.tmp 4) ((Code.region 2 #[{ dst := some 2, op := .assign (.const (.slice none 0 0)), type := t, pos := "slices.go:358", after := #[], guard := none }] false).seq .ret) .skip
def cloneD (t : TypeId) : Code := (Code.region 3
  #[{ dst := some 5, op := .buildSlice t 0 #[], type := t, pos := "slices.go:362", after := #[], guard := none },
    { dst := some 6, op := .move (.tmp 0), type := t, pos := "slices.go:362", after := #[], guard := none },
    { dst := some 7, op := .call { callee := .builtin .append, args := #[.tmp 5, .tmp 6], argTypes := #[t, t] }, type := t, pos := "slices.go:362", after := #[{ on := 0, ground := .data }, { on := 1, ground := .data }], guard := none },
    { dst := some 2, op := .assign (.tmp 7), type := t, pos := "slices.go:362", after := #[{ on := 2, ground := .data }, { on := 2, ground := .chain }, { on := 0, ground := .phase }, { on := 1, ground := .phase }, { on := 2, ground := .phase }], guard := none }] false).seq .ret
def cloneBody (t b : TypeId) : Code := (cloneA t b).seq (((Code.region 1 (cloneOps t b) false).seq (cloneC t)).seq (cloneD t))

/-- The types of a Clone. -/
structure CloneT (P : Program) (t el : TypeId) (sz by_ : Nat) (zs : List PV) : Prop where
  ht : tslice P t = some el
  hs : tsize P el = some sz
  hb : tbytes P el = some by_
  hz : tzero P el = some zs
  hc : (sz != 0 && by_ != 0 && zs.length == sz) = true

variable {X : Ctx} {fn : FuncId} {t b el : TypeId} {sz by_ : Nat} {zs : List PV}

theorem cloneD_runs (hT : CloneT X.P t el sz by_ zs) {xs : List (List FV)} (hl : xs.all (fun y => y.length == sz) = true) (hroom : xs.length * by_ ≤ room) {e : Env} {σ : Heap} (h0 : e 0 = .v (.sl xs)) :
    Runs X 8 fn (cloneD t) e σ fun x e' σ' => x = .ret ∧ ∃ (lo hi : Nat) (L : List Res) (k : Nat), Has σ' lo hi L ∧ L[k]? = some (.sl (e' 2) el sz xs true) := by
  have hc := hT.hc
  simp only [Bool.and_eq_true, beq_iff_eq, bne_iff_ne, ne_eq] at hc
  have H : Hs σ [] := Has.nil (Nat.le_refl _)
  obtain ⟨e0, rfl⟩ := (show EnvHas e [(0, .v (.sl xs))] from ⟨h0, trivial⟩).ex
  show Runs X 8 fn (Code.seq _ _) _ _ _
  apply Runs.then
  refine Runs.regionH 4 rfl H ?_; intro b1 σ H
  refine Ops.buildS (zs := zs) (sz := sz) (pp := []) [] H (by omega) (by omega) hT.ht rfl hT.hs hT.hz (by simp only [Bool.and_eq_true, beq_iff_eq, bne_iff_ne, ne_eq]; exact ⟨⟨hc.2, hc.1.1⟩, by simp⟩) rfl rfl rfl rfl ?_; intro σ H
  refine Ops.move (v := .v (.sl xs)) rfl rfl ?_
  refine Ops.appendS (v := .buf (b1 + 0) 0 sz) (w := .v (.sl xs)) (xs := []) (ys := xs) H (by omega) (by omega) 0 rfl rfl rfl (.p hl) hT.ht hT.hs hT.hb hT.hz hT.hc (by simpa using hroom) nofun rfl ?_; intro w σ H
  refine Ops.assign (v := w) rfl rfl ?_
  apply Ops.nil
  apply Runs.ret
  exact ⟨rfl, _, _, _, 0, H, rfl⟩

/-- The comparison with nil: in the model, whatever the slice is. -/
theorem cloneOps_wp {s : St} {e : Env} {a : Act} (hX : CtxOK X) (hG : GlobOK X s) (hi : Inv s) (he : EnvR s 8 e a) (hT : CloneT X.P t el sz by_ zs) {xs : List (List FV)} (h0 : e 0 = .v (.sl xs)) {Q : Exit → Act → World → Prop}
    (hQ : ∀ (o : Option Addr) (a' : Act) (w' : World) (ι' : Nat → Nat), (o = none → xs = []) → Then s 8 a (putD 8 (putD 8 e (some 3) (.v (.sl xs))) (some 4) (.v (.bool o.isNone))) ⟨s.σ.nx + 2, s.σ.ent⟩ a' w' ι' → Q .normal a' w') :
    (Code.region 1 (cloneOps t b) false).wp X.P Q a s.w := by
  refine (wpIn_wide (n := 0)).1 (wpIn_region ?_)
  have hi' := more_inv hi 2
  have he' := he.mono (more_ev (s := s) 2)
  have hG' := hG.mono (more_ev (s := s) 2)
  have st : stepO X (callL X) 8 (cloneOps t b) s.σ.nx 0 { dst := some 3, op := .move (.tmp 0), type := t, pos := "slices.go:357", after := #[], guard := none } e (s.more 2).σ = some (putD 8 e (some 3) (.v (.sl xs)), (s.more 2).σ) := by
    simp only [stepO, wantedD, stepOp, operandD, h0, Option.map_some, Option.bind_some]
  have first := stepO_ok (m := 0) (Q := Q) (rd := none) (s := s.more 2) (a := a) (callL_ok hX) hG' hi' he' (hi.nx _ (by omega)) (by simp only [St.more]; omega) st (K := wpOpsIn (Fw none) 0 X.P (cloneOps t b) Q [1]) ?_
  · have h0' : (cloneOps t b)[0]? = some { dst := some 3, op := .move (.tmp 0), type := t, pos := "slices.go:357", after := #[], guard := none } := rfl
    have hr : List.range (cloneOps t b).size = [0, 1] := rfl
    rw [hr]
    simp only [wpOpsIn, h0']
    exact first
  · intro a1 w1 ι1 ht
    have hn := ht.env
    have hw : Region.wanted ⟨some 4, .binOp .eql t (.tmp 3) (.const (.slice none 0 0)) t, b, "slices.go:357", #[{ on := 0, ground := .data }], none⟩ (yielded (cloneOps t b) a1.tmps) = true := rfl
    have h1' : (cloneOps t b)[1]? = some ⟨some 4, .binOp .eql t (.tmp 3) (.const (.slice none 0 0)) t, b, "slices.go:357", #[{ on := 0, ground := .data }], none⟩ := rfl
    simp only [wpOpsIn, h1']
    rw [if_pos hw]
    have hp : PVR ⟨w1, (s.more 2).Y, (s.more 2).σ, ι1⟩ (.v (.sl xs)) (a1.eval (.tmp 3)) := by
      refine operand_pvr (X := X) (hG.mono ((more_ev (s := s) 2).trans ht.ev)) hn ?_
      simp [operandD, putD, upd]
    obtain ⟨o, cap, hv, hcap, hf⟩ := sl_inv hp
    have hs : ∀ o4 : Oper, o4 = ⟨some 4, .binOp .eql t (.tmp 3) (.const (.slice none 0 0)) t, b, "slices.go:357", #[{ on := 0, ground := .data }], none⟩ → o4.uponIn (Fw none) 0 X.P a1 (NextOK ⟨w1, (s.more 2).Y, (s.more 2).σ, ι1⟩ a1 (some 4) (.v (.bool o.isNone)) (s.more 2).σ) Q ((o4.semAt (Fw none).round a1.eval).run X.P w1) := by
      intro o4 ho4
      have hop : o4.op = .binOp .eql t (.tmp 3) (.const (.slice none 0 0)) t := by rw [ho4]
      have hd4 : o4.dst = some 4 := by rw [ho4]
      rw [Oper.semAt_eq _ _ _ (by intro c hc; rw [hop] at hc; cases hc)]
      simp only [execOp, hop]
      rw [← hd4]
      refine upon_val (s := ⟨w1, (s.more 2).Y, (s.more 2).σ, ι1⟩) ht.inv ?_
      rw [hv]
      have hg : (eqGuard .eql t (.tmp 3) (.const (.slice none 0 0)) (.slice o xs.length cap) (.slice none 0 0)).run X.P w1 = .ok () w1 := by simp [eqGuard]
      refine ⟨.bool o.isNone, ?_, .v (.bool _)⟩
      show (do eqGuard .eql t (.tmp 3) (.const (.slice none 0 0)) (.slice o xs.length cap) (.slice none 0 0); binOp .eql t (.slice o xs.length cap) (.slice none 0 0) : Sem Value).run X.P w1 = _
      simp only [Sem.run_bind, hg, Result.andThen_ok]
      exact (run_eql_of (eqNil 9999 (tslice_run hT.ht) o xs.length cap w1) (.inr (.inr ⟨_, _, _, _, _, _, rfl, rfl⟩))).1
    refine Oper.wpIn_mono (K := NextOK ⟨w1, (s.more 2).Y, (s.more 2).σ, ι1⟩ a1 (some 4) (.v (.bool o.isNone)) (s.more 2).σ) (fun a' w' hh => ?_) ⟨fun _ _ => trivial, hs _ rfl⟩
    obtain ⟨v, rfl, ι', h2, h3, h4⟩ := hh
    refine hQ o _ w' ι' (fun ho => ?_) ⟨h2, ((more_ev (s := s) 2).trans ht.ev).trans h3, (hn.mono h3).put h4, (put_defers _ _ _).trans ht.defers⟩
    subst ho
    generalize hz : Value.slice none xs.length cap = z at hf
    cases hf with
    | nil => rfl
    | empty => rfl
    | sl => cases hz

theorem clone_calls (hX : CtxOK X) {f : FuncId} {fu : Func} (hf : X.P.funcs[f]? = some fu) (hb : fu.body = some (cloneBody t b)) (hn : fu.ntmps = 8) (hr : fu.results = #[.tmp 2]) (hg : ∀ g, X.glob g = none)
    (hT : CloneT X.P t el sz by_ zs) {s : St} (hi : Inv s) {xs : List (List FV)} {v : Value} (hl : xs.all (fun y => y.length == sz) = true) (hroom : xs.length * by_ ≤ room) (hv : PVR s (.v (.sl xs)) v) :
    Calls X.P f #[v] s.w fun en w' => ∃ v', en = .returned v' ∧ Post s (.v (.sl xs)) s.σ v' w' := by
  have hv1 : PVRs s.under [.v (.sl xs)] #[v] := ⟨rfl, fun i x hx => by
    cases i with
    | zero => cases hx; exact under_pvr rfl hv
    | succ i => simp at hx⟩
  have hiu := under_inv hi
  have he := env_of (s := s.under) (k := 8) hv1
  have hG : ∀ s, GlobOK X s := fun s g cells h => by rw [hg] at h; cases h
  refine (callsIn_wide (n := 0)).1 (callsIn_of_wp_marks hf hb trivial ?_ rfl)
  rw [hn]
  refine wpIn_wide.2 ?_
  have fin : ∀ e σ a' w ι (σ3 : Heap), Aft s.under 8 { tmps := #[v] ++ Array.replicate (8 - (#[v] : Array Value).size) undef, defers := [] } e σ a' w ι → expRes σ (e 2) = some (.v (.sl xs), σ3) →
      bodyPostM Fence.wide 0 X.P fu (fun en w' => ∃ v', en = .returned v' ∧ Post s (.v (.sl xs)) s.σ v' w') .ret a' w := by
    intro e σ a' w ι σ3 ht h4
    refine leaves_ok (X := X) (fu := fu) (xs := [e 2]) rfl ht (by rw [hr]; rfl) fun v w' hp => ⟨v, rfl, ?_⟩
    exact under_post hi hp h4
  refine wp_seq ?_
  refine wp_mono (code_wp (X := X) (s := s.under) hX (fn := f) (hG _) hiu he (Q := fun ex e' σ' => ex = .normal ∧ e' 0 = .v (.sl xs)) ?_) ?_
  · show Runs X 8 f (Code.region 0 (List.toArray [_]) false) _ ⟨0, fun _ => .none⟩ _
    refine Runs.region rfl ?_
    refine Ops.assign (v := .nils) rfl rfl ?_
    exact Ops.nil ⟨rfl, rfl⟩
  rintro ex a1 w1 ⟨x1, e1, σ1, ι1, ⟨rfl, k0⟩, rfl, ht1⟩
  simp only [Ex.out, Exit.then]
  refine wp_seq (wp_seq ?_)
  refine cloneOps_wp (s := ⟨w1, s.under.Y, σ1, ι1⟩) hX (hG _) ht1.inv ht1.env hT k0 ?_
  intro o a2 w2 ι2 ho ht2
  have ht12 := ht1.trans ht2.aft
  simp only [Exit.then]
  generalize he2 : putD 8 (putD 8 e1 (some 3) (.v (.sl xs))) (some 4) (.v (.bool o.isNone)) = e2 at ht2 ht12
  have q0 : e2 0 = .v (.sl xs) := by rw [← he2]; simpa [putD, upd] using k0
  have q4 : e2 4 = .v (.bool o.isNone) := by rw [← he2]; simp [putD, upd]
  refine wp_mono (code_wp (X := X) (s := ⟨w2, s.under.Y, ⟨σ1.nx + 2, σ1.ent⟩, ι2⟩) hX (fn := f) (hG _) ht2.inv ht2.env (Q := fun ex e' σ' => (xs = [] ∧ ex = .ret ∧ e' 2 = .nils) ∨ (ex = .normal ∧ e' 0 = .v (.sl xs))) ?_) ?_
  · cases o with
    | none =>
      refine Runs.yes (by simp only [operandD, q4]; rfl) ?_
      refine Runs.then ?_
      refine Runs.region (l := [_]) rfl ?_
      refine Ops.assign (v := .nils) rfl rfl ?_
      refine Ops.nil ?_
      refine Runs.ret ?_
      exact .inl ⟨ho rfl, rfl, rfl⟩
    | some o =>
      refine Runs.no (by simp only [operandD, q4]; rfl) ?_
      exact Runs.skip (.inr ⟨rfl, q0⟩)
  rintro ex a3 w3 ⟨x3, e3, σ3, ι3, hq, rfl, ht3⟩
  have ht13 := ht12.trans ht3
  rcases hq with ⟨rfl, rfl, k2⟩ | ⟨rfl, k3⟩
  · simp only [Ex.out, Exit.then]
    exact fin e3 σ3 a3 w3 ι3 σ3 ht13 (by rw [k2]; rfl)
  · simp only [Ex.out, Exit.then]
    refine wp_mono (code_wp (X := X) (s := ⟨w3, s.under.Y, σ3, ι3⟩) hX (fn := f) (hG _) ht3.inv ht3.env (cloneD_runs hT hl hroom k3)) ?_
    rintro ex a4 w4 ⟨x4, e4, σ4, ι4, ⟨rfl, lo, hi4, L, k, H4, hk⟩, rfl, ht4⟩
    obtain ⟨σ5, q, _⟩ := expR_ok H4 (ExpR.one (.c (.s k hk)))
    exact fin e4 σ4 a4 w4 ι4 σ5 (ht13.trans ht4) q

end Go.Dn
