/- Loops over functions: what lies in the heap while they run. -/
import Derived.Test.YtefaoeaohhdhkaaD24
set_option linter.unusedVariables false
set_option linter.unusedSimpArgs false
namespace Go.Dn
open Go

/-- The things in whatever order. -/
theorem Has.perm {σ : Heap} {lo hi : Nat} {L L' : List Res} (H : Has σ lo hi L) (hp : L.Perm L') : Has σ lo hi L' := by
  have mem : ∀ {A : List Res}, (∀ (k : Nat) (r : Res), A[k]? = some r → r.holds σ) ↔ ∀ r ∈ A, r.holds σ := fun {A} =>
    ⟨fun h r hr => by obtain ⟨k, hk⟩ := List.getElem?_of_mem hr; exact h k r hk, fun h k r hk => h r (List.mem_of_getElem? hk)⟩
  have pw : L.Pairwise (fun r s => ∀ id, r.owner = some id → s.owner ≠ some id) := by
    rw [List.pairwise_iff_getElem]
    intro i j hi' hj hij
    exact H.sep i j _ _ (by omega) (List.getElem?_eq_getElem hi') (List.getElem?_eq_getElem hj)
  have pw' : L'.Pairwise (fun r s => ∀ id, r.owner = some id → s.owner ≠ some id) := (hp.pairwise_iff (fun {a b} h id h1 h2 => h id h2 h1)).1 pw
  refine ⟨mem.2 fun r hr => mem.1 H.holds r (hp.mem_iff.2 hr), fun k r hk => ?_, fun i j r s hij h1 h2 => ?_, H.le⟩
  · obtain ⟨k', hk'⟩ := List.getElem?_of_mem (hp.mem_iff.2 (List.mem_of_getElem? hk))
    exact H.lt k' r hk'
  · obtain ⟨hi', rfl⟩ := List.getElem?_eq_some_iff.1 h1
    obtain ⟨hj', rfl⟩ := List.getElem?_eq_some_iff.1 h2
    rw [List.pairwise_iff_getElem] at pw'
    rcases Nat.lt_or_ge i j with h | h
    · exact pw' i j hi' hj' h
    · intro id h3 h4
      exact pw' j i hj' hi' (by omega) id h4 h3

def pdOf : Ex → Option Code
  | .normal => none
  | .exit t => some (.exit t)
  | .ret => some .ret
theorem jumpD_pd (x : Ex) : jumpD (pdOf x) = some x := by cases x <;> rfl

theorem Has.slCells {σ : Heap} {lo hi : Nat} {L : List Res} {k : Nat} {v : PV} {et : TypeId} {sz : Nat} {xs : List (List FV)} {lv : Bool} (H : Has σ lo hi L) (h : L[k]? = some (.sl v et sz xs lv)) : v.cells = some [v] := by
  rcases (H.holds k _ h).2 with ⟨rfl, _⟩ | ⟨id, rfl, _⟩ <;> rfl

theorem Runs.env {X : Ctx} {n : Nat} {fn : FuncId} {c : Code} {e : Env} {σ : Heap} {Q : Ex → Env → Heap → Prop} (l : List (Nat × PV)) (he : EnvHas e l) (h : ∀ e0, Runs X n fn c (sets e0 l) σ Q) : Runs X n fn c e σ Q := by
  obtain ⟨e0, rfl⟩ := he.ex
  exact h e0

section
variable {X : Ctx}

/-- What a loop's body, called as a function, does to what lies there. -/
def YldH (X : Ctx) (id : Nat) {S T : Type} (C : S → List Res → Prop) (pvT : T → List PV) (y : S → T → Option (S × Bool)) : Prop :=
  ∀ s t s' b, y s t = some (s', b) → ∀ σ lo hi O L, C s L → Has σ lo hi (O ++ L) → ∃ σ' L', callL X (.yld id) (pvT t) σ = some (.v (.bool b), σ') ∧ C s' L' ∧ Hs σ' (O ++ L')

/-- What an iterator does, from one state to another one. -/
def ItF (X : Ctx) (f : FuncId) (args : List PV) {S : Type} (C : S → List Res → Prop) (s s' : S) : Prop :=
  ∀ σ L, C s L → Hs σ L → ∃ σ' L', callL X (.fn f) args σ = some (.tup [], σ') ∧ C s' L' ∧ Hs σ' L'

/-- An iterator's end. -/
structure EndsI {S : Type} (C : S → List Res → Prop) (s : S) (x : Ex) (e : Env) (σ : Heap) : Prop where
  out : (x = .normal ∨ x = .ret) ∧ ∃ L, C s L ∧ Hs σ L

theorem EndsI.H {S : Type} {C : S → List Res → Prop} {s : S} {x : Ex} {e : Env} {σ : Heap} {lo hi : Nat} {L L0 : List Res} (hx : x = .normal ∨ x = .ret) (H : Has σ lo hi L) (k : Nat) (hk : L.drop k = L0) (hC : C s L0) : EndsI C s x e σ :=
  ⟨hx, L0, hC, (hk ▸ H.drop k : Has σ lo hi L0).all⟩

theorem ItF.of {f : FuncId} {args : List PV} {S : Type} {C : S → List Res → Prop} {s s' : S} {fu : Func} {c : Code} {m : Nat} (hf : X.P.funcs[f]? = some fu) (hb : fu.body = some c) (hr : fu.results = #[]) (hi : X.intr f args = none) (hk : X.keep f = false) (ho : X.opn f = false) (hs : args.all PV.still = true)
    (hp : args.all PV.pure = false) (hm : max fu.ntmps args.length = m) (h : ∀ σ L, C s L → Hs σ L → Runs X m f c (envOf args) σ (EndsI C s')) : ItF X f args C s s' := by
  subst hm
  intro σ L hC H
  obtain ⟨lf, x, e', σ1, h1, hE⟩ := (h σ L hC H).run
  obtain ⟨hx, L', hC', H'⟩ := hE.out
  refine ⟨σ1, L', callL_of_S (lf := lf) ?_, hC', H'⟩
  have hbody : bodyD X (callL X) lf f args σ = some (.tup [], σ1) := by
    simp only [bodyD, hf, hb, h1]
    rcases hx with rfl | rfl <;> simp [hr, resultsD, packD]
  simp only [callS, hi, hk, Bool.false_eq_true, if_false, expArgs_still hs, ho, hp, hbody, Option.bind_some]
  rfl

section
variable {n : Nat} {dr : Bool} {fn : FuncId} {ops : Array Oper} {base i : Nat} {l : List Oper} {e : Env} {σ : Heap} {K : Env → Heap → Prop} {Q : Ex → Env → Heap → Prop}
variable {d : Nat} {t : TypeId} {p : String} {af : Array Edge} {x : Operand} {lo hi : Nat} {L : List Res}

/-- The call of a loop's body. -/
theorem Ops.callY {S T : Type} {C : S → List Res → Prop} {pvT : T → List PV} {y : S → T → Option (S × Bool)} {id : Nat} {args : Array Operand} {ts : Array TypeId} {s s' : S} {z : T} {b : Bool} (O : List Res) (H : Has σ lo hi (O ++ L)) (hC : C s L) (hx : operandD X e x = some (.yld id)) (ha : operandsD X e args.toList = some (pvT z))
    (hy : YldH X id C pvT y) (hq : y s z = some (s', b)) (hdr : dr = false) (hd : Nat.blt d n = true)
    (hk : ∀ σ' L', C s' L' → Hs σ' (O ++ L') → Ops X n dr ops base (i + 1) l (set e d (.v (.bool b))) σ' K) :
    Ops X n dr ops base i (⟨some d, .call { callee := .value x, args := args, argTypes := ts }, t, p, af, none⟩ :: l) e σ K := by
  obtain ⟨σ', L', q1, q2, q3⟩ := hy _ _ _ _ hq σ lo hi O L hC H
  exact .plain (x := .v (.bool b)) (σ1 := σ') (by simp only [stepOp, callOpD, ha, hx, q1]) (fun h => by rw [hdr] at h; cases h) hd (hk σ' L' q2 q3)
end

/-- The state of a loop over a function: what lies there, and how its body was left. -/
def RangeC (id : Nat) (fn : FuncId) (e : Env) (n : Nat) (ps : List Nat) (as_ bo : Code) {S : Type} (Co : S → List Res → Prop) (pd : Nat → Option Code) : S × Nat → List Res → Prop :=
  fun s L => ∃ M, Co s.1 M ∧ L = .loop id fn e n ps as_ bo (if s.2 = 0 then .ready else .done) (pd s.2) :: M

variable {n : Nat} {fn : FuncId} {e : Env} {σ : Heap} {Q : Ex → Env → Heap → Prop}

/-- What is asked of the body's code. -/
def BodyOK (X : Ctx) (n : Nat) (fn : FuncId) (e : Env) (ps : List Nat) (as_ bo : Code) {S T : Type} (Co : S → List Res → Prop) (pvT : T → List PV) (yb : S → T → Option (S × Nat)) (pd : Nat → Option Code) : Prop :=
  ∀ (R0 R1 : Res) s t s' p, yb s t = some (s', p) → ∀ σ M O, Co s M → Hs σ (R0 :: (M ++ O)) →
    Runs X n fn as_ (setArgs e n ps (pvT t)) σ fun x e1 σ1 => x = .normal ∧ ∃ M1, Hs σ1 (R0 :: (M1 ++ O)) ∧
      ∀ σ2, Hs σ2 (R1 :: (M1 ++ O)) → Runs X n fn bo e1 σ2 fun x e2 σ3 => (pdOf x = pd p ∧ (x = .normal ↔ p = 0)) ∧ ∃ M2, Co s' M2 ∧ Hs σ3 (R1 :: (M2 ++ O))

theorem rangeY_ok {S T : Type} {ps : List Nat} {as_ bo : Code} {Co : S → List Res → Prop} {pvT : T → List PV} {yb : S → T → Option (S × Nat)} {pd : Nat → Option Code} (hpd : pd 0 = none) (hlen : ∀ t, ps.length = (pvT t).length) (hpure : ∀ t, (pvT t).all PV.pure = true)
    (hbody : BodyOK X n fn e ps as_ bo Co pvT yb pd) (id : Nat) : YldH X id (RangeC id fn e n ps as_ bo Co pd) pvT (rangeY yb) := by
  rintro ⟨s, p⟩ t ⟨s', p'⟩ b hy σ lo hi O L ⟨M, hM, rfl⟩ H
  unfold rangeY at hy
  simp only at hy hM
  split at hy
  · rename_i hp0
    subst hp0
    rw [Option.map_eq_some_iff] at hy
    obtain ⟨r, hr, he⟩ := hy
    simp only [Prod.mk.injEq] at he
    obtain ⟨rfl, rfl⟩ := he
    simp only [if_true, hpd] at H
    have H1 : Hs σ (.loop id fn e n ps as_ bo .ready none :: (M ++ O)) := (H.perm (by rw [← List.cons_append]; exact List.perm_append_comm)).all
    obtain ⟨l1, x1, e1, σ1, r1, rfl, M1, H2, hb⟩ := (hbody (.loop id fn e n ps as_ bo .ready none) (.loop id fn e n ps as_ bo .busy none) s t s' p' hr σ M O hM H1).run
    have hent : σ1.ent id = .loop fn e n ps as_ bo .ready none := H2.holds 0 _ rfl
    have H3 : Hs (σ1.put id (.loop fn e n ps as_ bo .busy none)) (.loop id fn e n ps as_ bo .busy none :: (M1 ++ O)) := (H2.put (k := 0) rfl rfl (r' := .loop id fn e n ps as_ bo .busy none) put_ent rfl).all
    obtain ⟨l2, x2, e2, σ3, r2, ⟨hx, hx0⟩, M2, hM2, H4⟩ := (hb _ H3).run
    have hent0 : σ.ent id = .loop fn e n ps as_ bo .ready none := H1.holds 0 _ rfl
    have fin : ∀ (st : LoopState) (pc : Option Code), Hs (σ3.put id (.loop fn e n ps as_ bo st pc)) (O ++ (.loop id fn e n ps as_ bo st pc :: M2)) := fun st pc =>
      ((H4.put (k := 0) rfl rfl (r' := .loop id fn e n ps as_ bo st pc) put_ent rfl).perm (by rw [List.set_cons_zero, ← List.cons_append]; exact List.perm_append_comm)).all
    have call : ∀ (st : LoopState) (pc : Option Code) (b : Bool), (match x2 with
        | .normal => some (PV.v (.bool true), σ3.put id (.loop fn e n ps as_ bo .ready none))
        | .exit t => some (PV.v (.bool false), σ3.put id (.loop fn e n ps as_ bo .done (some (.exit t))))
        | .ret => some (PV.v (.bool false), σ3.put id (.loop fn e n ps as_ bo .done (some .ret)))) = some (.v (.bool b), σ3.put id (.loop fn e n ps as_ bo st pc)) →
        callL X (.yld id) (pvT t) σ = some (.v (.bool b), σ3.put id (.loop fn e n ps as_ bo st pc)) := by
      intro st pc b hm
      refine callL_of_S (lf := max l1 l2) ?_
      simp only [callS, hent0, hlen t, if_true, expArgs_pure (hpure t), runCode_lf (Nat.le_max_left l1 l2) r1, hent, runCode_lf (Nat.le_max_right l1 l2) r2]
      exact hm
    cases x2 with
    | normal =>
      have hp0 := hx0.1 rfl
      subst hp0
      exact ⟨_, _, call .ready none true rfl, ⟨M2, hM2, by simp [hpd]⟩, fin .ready none⟩
    | exit t' =>
      have hp0 : p' ≠ 0 := fun h => by have := hx0.2 h; cases this
      have hbeq : (p' == 0) = false := by simpa using hp0
      rw [hbeq]
      exact ⟨_, _, call .done (some (.exit t')) false rfl, ⟨M2, hM2, by simp only [if_neg hp0, ← hx, pdOf]⟩, fin .done _⟩
    | ret =>
      have hp0 : p' ≠ 0 := fun h => by have := hx0.2 h; cases this
      have hbeq : (p' == 0) = false := by simpa using hp0
      rw [hbeq]
      exact ⟨_, _, call .done (some .ret) false rfl, ⟨M2, hM2, by simp only [if_neg hp0, ← hx, pdOf]⟩, fin .done _⟩
  · cases hy

theorem Runs.rangeH {S T : Type} {g : Operand} {ps : Array Tmp} {as_ bo : Code} {f : FuncId} {first caps : List PV} {M0 : List Res} (H : Hs σ M0) (hg : operandD X e g = some (.clo f first caps))
    (Co : S → List Res → Prop) (pvT : T → List PV) (yb : S → T → Option (S × Nat)) (pd : Nat → Option Code) (hpd : pd 0 = none) (hjd : ∀ p, ∃ x, jumpD (pd p) = some x) {s0 : S} {r : S × Nat} (h0 : Co s0 M0) (hlen : ∀ t, ps.toList.length = (pvT t).length) (hpure : ∀ t, (pvT t).all PV.pure = true)
    (hbody : BodyOK X n fn e ps.toList as_ bo Co pvT yb pd)
    (hit : ∀ id, YldH X id (RangeC id fn e n ps.toList as_ bo Co pd) pvT (rangeY yb) → ItF X f (first ++ [.yld id] ++ caps) (RangeC id fn e n ps.toList as_ bo Co pd) (s0, 0) r)
    (hq : ∀ x σ' M', jumpD (pd r.2) = some x → Co r.1 M' → Hs σ' M' → Q x e σ') : Runs X n fn (.rangeFunc g ps as_ bo) e σ Q := by
  obtain ⟨m, ent⟩ := σ
  let σ1 : Heap := ⟨m + 1, upd ent m (.loop fn e n ps.toList as_ bo .ready none)⟩
  have H1 : Hs σ1 (.loop m fn e n ps.toList as_ bo .ready none :: M0) := by
    have h1 : Has (⟨m + 1, ent⟩ : Heap) m (m + 1) M0 := H.enter 1
    exact (h1.push (b := m) (en := .loop fn e n ps.toList as_ bo .ready none) (Nat.le_refl _) (Nat.lt_succ_self _) (r' := .loop m fn e n ps.toList as_ bo .ready none) put_ent rfl).all
  obtain ⟨σ2, L', hc, ⟨M', hM', rfl⟩, H2⟩ := hit m (rangeY_ok hpd hlen hpure hbody m) σ1 _ ⟨M0, h0, by simp [hpd]⟩ H1
  have hent : σ2.ent m = .loop fn e n ps.toList as_ bo (if r.2 = 0 then .ready else .done) (pd r.2) := H2.holds 0 _ rfl
  have hnb : (if r.2 = 0 then LoopState.ready else LoopState.done) ≠ LoopState.busy := by split <;> simp
  have Hf : Hs (σ2.put m (.loop fn e n ps.toList as_ bo .exhausted (pd r.2))) M' := ((H2.put (k := 0) rfl rfl (r' := .loop m fn e n ps.toList as_ bo .exhausted (pd r.2)) put_ent rfl).erase 0).all
  obtain ⟨x, hx⟩ := hjd r.2
  refine ⟨0, x, e, _, ?_, hq x _ M' hx hM' Hf⟩
  simp only [runCode, hg]
  rw [show callL X (.fn f) (first ++ [PV.yld m] ++ caps) ⟨m + 1, upd ent m (.loop fn e n ps.toList as_ bo .ready none)⟩ = some (.tup [], σ2) from hc]
  simp only [hent, if_neg hnb, hx]

/-! ### Functions that answer functions -/
theorem callO_of {f : FuncId} {args : List PV} {fu : Func} {c : Code} {m : Nat} {σ : Heap} {Post : PV → Heap → Prop} (hf : X.P.funcs[f]? = some fu) (hb : fu.body = some c) (hi : X.intr f args = none) (hk : X.keep f = false) (ho : X.opn f = true) (hp : args.all PV.pure = true) (hm : max fu.ntmps args.length = m)
    (h : Runs X m f c (envOf args) σ fun x e σ' => (x = .normal ∨ x = .ret) ∧ ∃ xs, resultsD X.P e σ' fu.results.toList = some xs ∧ Post (packD xs) σ') : ∃ r σ', callL X (.fn f) args σ = some (r, σ') ∧ Post r σ' := by
  subst hm
  obtain ⟨lf, x, e', σ1, h1, hx, xs, h2, h3⟩ := h.run
  refine ⟨packD xs, σ1, callL_of_S (lf := lf) ?_, h3⟩
  have hbody : bodyD X (callL X) lf f args σ = some (packD xs, σ1) := by
    simp only [bodyD, hf, hb, h1]
    rcases hx with rfl | rfl <;> simp only [h2, Option.map_some]
  simp only [callS, hi, hk, Bool.false_eq_true, if_false, expArgs_pure hp, ho, if_true, hbody]

theorem Ops.callO {n : Nat} {dr : Bool} {ops : Array Oper} {base i : Nat} {l : List Oper} {e : Env} {σ : Heap} {K : Env → Heap → Prop} {d : Nat} {t : TypeId} {p : String} {af : Array Edge}
    {f : FuncId} {args : Array Operand} {ts : Array TypeId} {ys : List PV} {Post : PV → Heap → Prop} (ha : operandsD X e args.toList = some ys) (hf : ∃ r σ', callL X (.fn f) ys σ = some (r, σ') ∧ Post r σ') (hdr : dr = false) (hd : Nat.blt d n = true)
    (hk : ∀ r σ', Post r σ' → Ops X n dr ops base (i + 1) l (set e d r) σ' K) :
    Ops X n dr ops base i (⟨some d, .call { callee := .value (.func f), args := args, argTypes := ts }, t, p, af, none⟩ :: l) e σ K := by
  obtain ⟨r, σ', q1, q2⟩ := hf
  exact .plain (x := r) (σ1 := σ') (by simp only [stepOp, callOpD, ha, operandD, q1]) (fun h => by rw [hdr] at h; cases h) hd (hk r σ' q2)
end

end Go.Dn
