/- Regions that draw their order: what an operation hangs on. -/
import Derived.Test.YtefaoeaohhdhkaaD13
set_option linter.unusedVariables false
set_option linter.unusedSimpArgs false
namespace Go.Dn
open Go

variable {X : Ctx} {e e' : Env} {n : Nat}

/-! ### The slots that an operation looks at -/
def sees (e e' : Env) (xs : List Operand) : Prop := ∀ t, .tmp t ∈ xs → e t = e' t

theorem operandD_env {x : Operand} (h : sees e e' [x]) : operandD X e x = operandD X e' x := by
  cases x with
  | tmp t => simp only [operandD]; rw [h t (by simp)]
  | _ => rfl

theorem operandsD_env : ∀ {xs : List Operand}, sees e e' xs → operandsD X e xs = operandsD X e' xs
  | [], _ => rfl
  | x :: xs, h => by
    simp only [operandsD]
    rw [operandD_env (fun t ht => h t (by simp at ht ⊢; exact .inl ht)), operandsD_env (fun t ht => h t (by simp [ht]))]

theorem partsD_env : ∀ {xs : List (Nat × Operand)}, sees e e' (xs.map (·.2)) → partsD X e xs = partsD X e' xs
  | [], _ => rfl
  | (i, x) :: xs, h => by
    simp only [partsD]
    rw [operandD_env (fun t ht => h t (by simp at ht ⊢; exact .inl ht)), partsD_env (fun t ht => h t (by simp at ht ⊢; exact .inr ht))]

theorem optD_env {x : Option Operand} (h : sees e e' x.toList) : optD X e x = optD X e' x := by
  cases x with
  | none => rfl
  | some x => simp only [optD]; rw [operandD_env (by simpa using h)]

theorem sees_sub {xs ys : List Operand} (h : sees e e' ys) (hs : ∀ x ∈ xs, x ∈ ys) : sees e e' xs := fun t ht => h t (hs _ ht)

theorem sees1 {ys : List Operand} {x : Operand} (h : sees e e' ys) (hy : ys = [x]) : operandD X e x = operandD X e' x :=
  operandD_env (by subst hy; exact h)
theorem sees2 {ys : List Operand} {x y : Operand} (h : sees e e' ys) (hy : ys = [x, y]) : operandD X e x = operandD X e' x :=
  operandD_env (by subst hy; exact sees_sub h (by intro z hz; simp at hz; simp [hz]))
theorem sees22 {ys : List Operand} {x y : Operand} (h : sees e e' ys) (hy : ys = [x, y]) : operandD X e x = operandD X e' x ∧ operandD X e y = operandD X e' y := by
  subst hy
  exact ⟨operandD_env (sees_sub h (by intro z hz; simp at hz; simp [hz])), operandD_env (sees_sub h (by intro z hz; simp at hz; simp [hz]))⟩
theorem sees3 {ys : List Operand} {x y u : Operand} (h : sees e e' ys) (hy : ys = [x, y, u]) : operandD X e x = operandD X e' x ∧ operandD X e y = operandD X e' y ∧ operandD X e u = operandD X e' u := by
  subst hy
  exact ⟨operandD_env (sees_sub h (by intro z hz; simp at hz; simp [hz])), operandD_env (sees_sub h (by intro z hz; simp at hz; simp [hz])), operandD_env (sees_sub h (by intro z hz; simp at hz; simp [hz]))⟩

theorem stepOp_env {call : Call0} {σ : Heap} {id : Nat} {op : Op} (h : sees e e' op.operands.toList) : stepOp X call e σ id op = stepOp X call e' σ id op := by
  cases op <;> simp only [Op.operands] at h <;> simp only [stepOp]
  case build t ps =>
    have hp : sees e e' (ps.toList.map (·.2)) := by simpa using h
    simp only [buildD, partsD_env hp]
  case buildSlice t k ps =>
    have hp : sees e e' (ps.toList.map (·.2)) := by simpa using h
    simp only [buildSliceD, partsD_env hp]
  case makeFunc fn f c =>
    have h1 : sees e e' f.toList := sees_sub h (by intro x hx; simp at hx ⊢; exact .inl hx)
    have h2 : sees e e' c.toList := sees_sub h (by intro x hx; simp at hx ⊢; exact .inr hx)
    cases fn <;> simp only [operandsD_env h1, operandsD_env h2]
  case slice t x lo hi mx =>
    have h1 : sees e e' [x] := sees_sub h (by intro y hy; simp at hy ⊢; exact .inl hy)
    have h2 : sees e e' lo.toList := sees_sub h (by intro y hy; simp at hy ⊢; exact .inr (.inl hy))
    have h3 : sees e e' hi.toList := sees_sub h (by intro y hy; simp at hy ⊢; exact .inr (.inr (.inl hy)))
    have h4 : sees e e' mx.toList := sees_sub h (by intro y hy; simp at hy ⊢; exact .inr (.inr (.inr hy)))
    simp only [operandD_env h1, optD_env h2, optD_env h3, optD_env h4]
  case call c =>
    have h1 : sees e e' c.args.toList := sees_sub h (by intro y hy; simp only [Call.operands, Array.toList_append, List.mem_append]; exact .inr hy)
    simp only [callOpD, operandsD_env h1]
    cases hc : c.callee with
    | value f =>
      have h2 : sees e e' [f] := sees_sub h (by intro y hy; simp only [Call.operands, hc, Array.toList_append, List.mem_append]; exact .inl hy)
      simp only [operandD_env h2]
    | _ => rfl
  all_goals first
    | rfl
    | (rw [sees1 h rfl]; done)
    | (rw [sees2 h rfl]; done)
    | (rw [(sees22 h rfl).1, (sees22 h rfl).2]; done)
    | (rw [(sees3 h rfl).1, (sees3 h rfl).2.1, (sees3 h rfl).2.2]; done)

theorem looks_sub {op : Op} : ∀ x ∈ opLooks op, x ∈ op.operands.toList := by
  intro x hx
  cases op <;> simp only [opLooks] at hx <;> (try (simp at hx; done)) <;> simp only [Op.operands]
  case call c =>
    cases hc : c.callee <;> rw [hc] at hx <;> simp at hx
    simp only [Call.operands, Array.toList_append, List.mem_append]
    exact .inr (by simpa using hx)
  all_goals (simp at hx ⊢; simp [hx])

theorem touched_env {op : Op} (h : sees e e' op.operands.toList) : touched X e op = touched X e' op := by
  have hl : sees e e' (opLooks op) := sees_sub h looks_sub
  have key : ∀ (l : List Operand), sees e e' l → (l.flatMap fun x => match operandD X e x with | some v => vids v | none => []) = (l.flatMap fun x => match operandD X e' x with | some v => vids v | none => []) := by
    intro l
    induction l with
    | nil => intro _; rfl
    | cons x l ih =>
      intro h
      simp only [List.flatMap_cons]
      rw [operandD_env (X := X) (sees_sub h (by intro y hy; simp at hy; simp [hy])), ih (sees_sub h (by intro y hy; simp [hy]))]
  exact key _ hl

theorem drawAsk_env {ops : Array Oper} {base i : Nat} {o : Oper} (h : sees e e' o.op.operands.toList) : drawAsk X ops base i o e = drawAsk X ops base i o e' := by
  unfold drawAsk
  rw [touched_env h]
  cases hop : o.op with
  | slice t x lo hi mx =>
    rw [hop] at h
    have h1 : sees e e' [x] := sees_sub h (by intro y hy; simp [Op.operands] at hy ⊢; exact .inl hy)
    simp only [operandD_env h1]
  | call c =>
    rw [hop] at h
    have h1 : sees e e' c.args.toList := sees_sub h (by intro y hy; simp only [Op.operands, Call.operands, Array.toList_append, List.mem_append]; exact .inr hy)
    have hk : ∀ args, callAsk X e args c.callee = callAsk X e' args c.callee := fun args => by
      cases hc : c.callee with
      | value f =>
        have h2 : sees e e' [f] := sees_sub h (by intro y hy; simp only [Op.operands, Call.operands, hc, Array.toList_append, List.mem_append]; exact .inl hy)
        simp only [callAsk, operandD_env h2]
      | _ => rfl
    simp only [operandsD_env h1, hk]
  | _ => rfl

/-! ### The entries that an operation hangs on -/
def appl (σ : Heap) : Option (Nat × Ent) → Heap
  | none => σ
  | some (k, en) => σ.put k en

def Agree (σ σ2 : Heap) (l : List Nat) : Prop := ∀ k ∈ l, σ2.ent k = σ.ent k

theorem cur_agree {σ σ2 : Heap} {id k : Nat} (h : σ2.ent id = σ.ent id) : σ2.cur id k = σ.cur id k := by simp only [Heap.cur, h]

theorem loadD_agree {P : Program} {σ σ2 : Heap} {t : TypeId} {p : PV} (h : Agree σ σ2 (vids p)) : loadD P σ2 t p = loadD P σ t p := by
  cases p with
  | ptr id ver off => simp only [loadD]; rw [h id (by simp [vids])]
  | _ => rfl

theorem lenD_agree {P : Program} {σ σ2 : Heap} {t : TypeId} {p : PV} (h : Agree σ σ2 (vids p)) : lenD P σ2 t p = lenD P σ t p := by
  cases p with
  | buf id len sz => simp only [lenD]; rw [cur_agree (h id (by simp [vids]))]
  | v x => cases x <;> rfl
  | _ => rfl

theorem indexAddrD_agree {P : Program} {σ σ2 : Heap} {t : TypeId} {p i : PV} (h : Agree σ σ2 (vids p)) : indexAddrD P σ2 t p i = indexAddrD P σ t p i := by
  cases p with
  | buf id len sz => simp only [indexAddrD]; rw [cur_agree (h id (by simp [vids]))]
  | ptr id ver off => simp only [indexAddrD]; rw [cur_agree (h id (by simp [vids]))]
  | v x => cases x <;> rfl
  | _ => rfl

theorem fieldAddrD_agree {P : Program} {σ σ2 : Heap} {t : TypeId} {p : PV} {f : Nat} (h : Agree σ σ2 (vids p)) : fieldAddrD P σ2 t p f = fieldAddrD P σ t p f := by
  cases p with
  | ptr id ver off => simp only [fieldAddrD]; rw [cur_agree (h id (by simp [vids]))]
  | _ => rfl

theorem isNil_agree {σ σ2 : Heap} {p : PV} (h : Agree σ σ2 (vids p)) : isNil σ2 p = isNil σ p := by
  cases p with
  | buf id len sz => simp only [isNil]; rw [cur_agree (h id (by simp [vids]))]
  | v x =>
    cases x with
    | sl xs => cases xs <;> rfl
    | _ => rfl
  | _ => rfl

theorem binD_agree {P : Program} {σ σ2 : Heap} {op : BinOp} {t : TypeId} {x y : PV} (h : Agree σ σ2 (vids x)) : binD P σ2 op t x y = binD P σ op t x y := by
  have hn := isNil_agree h
  unfold binD
  split <;> (try rfl)
  rw [hn]

theorem binD_pure {P : Program} {σ σ2 : Heap} {op : BinOp} {t : TypeId} {x y : PV} (h1 : op ≠ .eql) (h2 : op ≠ .neq) : binD P σ2 op t x y = binD P σ op t x y := by
  unfold binD
  split <;> (try rfl)
  cases op <;> simp_all

theorem storeD_agree {P : Program} {σ : Heap} {t : TypeId} {x p : PV} {σ' : Heap} (hs : storeD P σ t x p = some σ') :
    ∃ k en, σ' = σ.put k en ∧ k ∈ vids p ∧ ∀ σ2, Agree σ σ2 (vids p) → storeD P σ2 t x p = some (σ2.put k en) := by
  cases p <;> simp only [storeD] at hs <;> (try (cases hs; done))
  rename_i id ver off
  split at hs
  · rename_i e cells hen
    split at hs
    · rename_i hv
      split at hs
      · rename_i n cs hn hcs
        split at hs
        · rename_i hc
          cases hs
          refine ⟨id, _, rfl, by simp [vids], fun σ2 h => ?_⟩
          simp only [storeD]
          rw [h id (by simp [vids]), hen]
          simp only
          rw [if_pos hv, hn, hcs]
          simp only
          rw [if_pos hc]
        · cases hs
      · cases hs
    · cases hs
  · cases hs

theorem bringD_agree {σ σ2 : Heap} {sz : Nat} {p : PV} (h : Agree σ σ2 (vids p)) : bringD σ2 sz p = bringD σ sz p := by
  cases p with
  | buf id len s => simp only [bringD]; rw [h id (by simp [vids])]
  | v x => cases x <;> rfl
  | _ => rfl

theorem appendD_agree {P : Program} {σ : Heap} {id0 : Nat} {t : TypeId} {x y z : PV} {σ' : Heap} (hs : appendD P σ id0 t x y = some (z, σ')) :
    ∃ δ, σ' = appl σ δ ∧ (∀ k en, δ = some (k, en) → k = id0 ∨ k ∈ vids x) ∧
      ∀ σ2, Agree σ σ2 (vids x) → Agree σ σ2 (vids y) → appendD P σ2 id0 t x y = some (z, appl σ2 δ) := by
  unfold appendD at hs
  split at hs
  · cases hs
  · rename_i el hel
    split at hs
    · rename_i sz by_ hsz hby
      split at hs
      · cases hs
      · rename_i ys m hbr
        split at hs
        · cases hs
        · rename_i hz
          have red : ∀ σ2, Agree σ σ2 (vids y) → bringD σ2 sz y = some (ys, m) := fun σ2 h => (bringD_agree h).trans hbr
          split at hs
          · split at hs
            · rename_i hm; cases hs
              exact ⟨none, rfl, by simp, fun σ2 _ hy => by simp only [appendD, hel, hsz, hby, red σ2 hy, if_neg hz, if_pos hm, appl]⟩
            · rename_i hm
              split at hs
              · rename_i hr; cases hs
                exact ⟨some (id0, _), rfl, by intro k en h; cases h; exact .inl rfl, fun σ2 _ hy => by simp only [appendD, hel, hsz, hby, red σ2 hy, if_neg hz, if_neg hm, if_pos hr, appl]⟩
              · cases hs
          · split at hs
            · cases hs
            · rename_i hm
              split at hs
              · rename_i hr; cases hs
                exact ⟨some (id0, _), rfl, by intro k en h; cases h; exact .inl rfl, fun σ2 _ hy => by simp only [appendD, hel, hsz, hby, red σ2 hy, if_neg hz, if_neg hm, if_pos hr, appl]⟩
              · cases hs
          · rename_i id len s
            split at hs
            · rename_i e' cells hen
              split at hs
              · rename_i hr; cases hs
                exact ⟨some (id, _), rfl, by intro k en h; cases h; exact .inr (by simp [vids]), fun σ2 hx hy => by
                  have hid := hx id (by simp [vids])
                  simp only [appendD, hel, hsz, hby, red σ2 hy, if_neg hz, hid, hen, if_pos hr, appl]⟩
              · cases hs
            · cases hs
          · cases hs
    · cases hs

theorem copyD_agree {P : Program} {σ : Heap} {t : TypeId} {x y z : PV} {σ' : Heap} (hs : copyD P σ t x y = some (z, σ')) :
    ∃ δ, σ' = appl σ δ ∧ (∀ k en, δ = some (k, en) → k ∈ vids x) ∧
      ∀ σ2, Agree σ σ2 (vids x) → Agree σ σ2 (vids y) → copyD P σ2 t x y = some (z, appl σ2 δ) := by
  unfold copyD at hs
  split at hs
  · cases hs
  · rename_i el hel
    split at hs
    · cases hs
    · rename_i sz hsz
      split at hs
      · rename_i ys m id len s hbr
        split at hs
        · rename_i e' cells hen
          split at hs
          · rename_i hr; cases hs
            exact ⟨some (id, _), rfl, by intro k en h; cases h; simp [vids], fun σ2 hx hy => by
              have hid := hx id (by simp [vids])
              have hb := (bringD_agree (sz := sz) hy).trans hbr
              simp only [copyD, hel, hsz, hb, hid, hen, if_pos hr, appl]⟩
          · cases hs
        · cases hs
      · cases hs

def CallPure (X : Ctx) (call : Call0) : Prop :=
  ∀ f args σ r σ', call (.fn f) args σ = some (r, σ') → args.all PV.calm = true → X.opn f = false → X.keep f = false → σ' = σ ∧ ∀ σ2, call (.fn f) args σ2 = some (r, σ2)

theorem agree_of {σ σ2 : Heap} {op : Op} {x : Operand} {p : PV} (h : ∀ k ∈ touched X e op, σ2.ent k = σ.ent k) (hx : x ∈ opLooks op) (hp : operandD X e x = some p) : Agree σ σ2 (vids p) := fun k hk =>
  h k (by
    unfold touched
    rw [List.mem_flatMap]
    exact ⟨x, hx, by rw [hp]; exact hk⟩)

theorem mem_touched {op : Op} {x : Operand} {p : PV} {k : Nat} (hx : x ∈ opLooks op) (hp : operandD X e x = some p) (hk : k ∈ vids p) : k ∈ touched X e op := by
  unfold touched
  rw [List.mem_flatMap]
  exact ⟨x, hx, by rw [hp]; exact hk⟩

theorem operandsD_mem : ∀ {xs : List Operand} {ys : List PV}, operandsD X e xs = some ys → ∀ {i : Nat} {y : PV}, ys[i]? = some y → ∃ x ∈ xs, operandD X e x = some y
  | [], ys, h, i, y, hi => by simp [operandsD] at h; subst h; simp at hi
  | x :: xs, ys, h, i, y, hi => by
    simp only [operandsD, Option.bind_eq_some_iff, Option.some.injEq] at h
    obtain ⟨z, hz, zs, hzs, rfl⟩ := h
    cases i with
    | zero => simp at hi; subst hi; exact ⟨x, by simp, hz⟩
    | succ i =>
      obtain ⟨x', h1, h2⟩ := operandsD_mem hzs (by simpa using hi)
      exact ⟨x', by simp [h1], h2⟩

/-- What an operation in a region that draws hangs on. -/
theorem stepOp_local {call : Call0} (hcp : CallPure X call) {ops : Array Oper} {base i : Nat} {o : Oper} {σ : Heap} {id : Nat} {x : PV} {σ' : Heap} (hask : drawAsk X ops base i o e = true) (h : stepOp X call e σ id o.op = some (x, σ')) :
    ∃ δ, σ' = appl σ δ ∧ (∀ k en, δ = some (k, en) → k = id ∨ (isW o.op = true ∧ k ∈ touched X e o.op)) ∧
      ∀ σ2, (isRW o.op = true → ∀ k ∈ touched X e o.op, σ2.ent k = σ.ent k) → stepOp X call e σ2 id o.op = some (x, appl σ2 δ) := by
  unfold drawAsk at hask
  cases hop : o.op <;> rw [hop] at h hask <;> simp only [stepOp] at h <;> (try (cases h; done))
  case move y =>
    simp only [Option.map_eq_some_iff, Prod.mk.injEq] at h
    obtain ⟨z, hz, rfl, rfl⟩ := h
    exact ⟨none, rfl, by simp, fun σ2 _ => by simp [stepOp, hz, appl]⟩
  case assign y =>
    simp only [Option.map_eq_some_iff, Prod.mk.injEq] at h
    obtain ⟨z, hz, rfl, rfl⟩ := h
    exact ⟨none, rfl, by simp, fun σ2 _ => by simp [stepOp, hz, appl]⟩
  case pick c y z =>
    split at h
    · rename_i hc
      simp only [Option.map_eq_some_iff, Prod.mk.injEq] at h
      obtain ⟨q, hq, rfl, rfl⟩ := h
      exact ⟨none, rfl, by simp, fun σ2 _ => by simp [stepOp, hc, hq, appl]⟩
    · rename_i hc
      simp only [Option.map_eq_some_iff, Prod.mk.injEq] at h
      obtain ⟨q, hq, rfl, rfl⟩ := h
      exact ⟨none, rfl, by simp, fun σ2 _ => by simp [stepOp, hc, hq, appl]⟩
    · cases h
  case alloc t =>
    simp only [Option.map_eq_some_iff, newD, Prod.mk.injEq] at h
    obtain ⟨z, hz, rfl, rfl⟩ := h
    exact ⟨some (id, _), rfl, by intro k en h; cases h; exact .inl rfl, fun σ2 _ => by simp [stepOp, hz, appl, newD]⟩
  case box t y =>
    simp only [Option.map_eq_some_iff, newD, Prod.mk.injEq] at h
    obtain ⟨z, hz, rfl, rfl⟩ := h
    exact ⟨some (id, _), rfl, by intro k en h; cases h; exact .inl rfl, fun σ2 _ => by simp [stepOp, hz, appl, newD]⟩
  case build t ps =>
    simp only [Option.map_eq_some_iff, Prod.mk.injEq] at h
    obtain ⟨z, hz, rfl, rfl⟩ := h
    exact ⟨none, rfl, by simp, fun σ2 _ => by simp [stepOp, hz, appl]⟩
  case buildSlice t len ps =>
    unfold buildSliceD at h
    split at h
    · rename_i el qs h1 h2
      split at h
      · rename_i sz z h3 h4
        split at h
        · rename_i hc
          simp only [Option.map_eq_some_iff, Prod.mk.injEq] at h
          obtain ⟨cs, hcs, rfl, rfl⟩ := h
          refine ⟨some (id, _), rfl, by intro k en h; cases h; exact .inl rfl, fun σ2 _ => ?_⟩
          simp only [stepOp, buildSliceD, h1, h2, h3, h4, if_pos hc, hcs, Option.map_some, appl]
        · cases h
      · cases h
    · cases h
  case load t y =>
    simp only [Option.map_eq_some_iff, Option.bind_eq_some_iff, Prod.mk.injEq] at h
    obtain ⟨z, ⟨p, hp, hz⟩, rfl, rfl⟩ := h
    refine ⟨none, rfl, by simp, fun σ2 hA => ?_⟩
    have := loadD_agree (P := X.P) (t := t) (agree_of (hA rfl) (by simp [opLooks]) hp)
    simp [stepOp, hp, this, hz, appl]
  case store t y z =>
    split at h
    · rename_i p q hp hq
      simp only [Option.map_eq_some_iff, Prod.mk.injEq] at h
      obtain ⟨σ1, hs, rfl, rfl⟩ := h
      obtain ⟨k, en, rfl, hk, h2⟩ := storeD_agree hs
      refine ⟨some (k, en), rfl, by intro k' en' h; cases h; exact .inr ⟨rfl, mem_touched (by simp [opLooks]) hp hk⟩, fun σ2 hA => ?_⟩
      simp [stepOp, hp, hq, h2 σ2 (agree_of (hA rfl) (by simp [opLooks]) hp), appl]
    · cases h
  case nilCheck y =>
    split at h
    · rename_i id' ver off hy
      split at h
      · rename_i hc
        cases h
        refine ⟨none, rfl, by simp, fun σ2 hA => ?_⟩
        have := cur_agree (k := ver) ((agree_of (hA rfl) (by simp [opLooks]) hy) id' (by simp [vids]))
        simp [stepOp, hy, this, hc, appl]
      · cases h
    all_goals first
      | (rename_i hy; cases h; exact ⟨none, rfl, by simp, fun σ2 _ => by simp [stepOp, hy, appl]⟩)
      | (cases h; done)
  case binOp op t y z ty =>
    split at h
    · rename_i p q hp hq
      simp only [Option.map_eq_some_iff, Prod.mk.injEq] at h
      obtain ⟨r, hr, rfl, rfl⟩ := h
      refine ⟨none, rfl, by simp, fun σ2 hA => ?_⟩
      have : binD X.P σ2 op t p q = binD X.P σ op t p q := by
        by_cases hk : op = .eql ∨ op = .neq
        · have hrw : isRW (.binOp op t y z ty) = true := by rcases hk with rfl | rfl <;> rfl
          exact binD_agree (agree_of (hA hrw) (by simp [opLooks]) hp)
        · exact binD_pure (fun h => hk (.inl h)) (fun h => hk (.inr h))
      simp [stepOp, hp, hq, this, hr, appl]
    · cases h
  case unOp op t y =>
    simp only [Option.map_eq_some_iff, Prod.mk.injEq] at h
    obtain ⟨z, hz, rfl, rfl⟩ := h
    exact ⟨none, rfl, by simp, fun σ2 _ => by simp [stepOp, hz, appl]⟩
  case convert a b y =>
    simp only [Option.map_eq_some_iff, Prod.mk.injEq] at h
    obtain ⟨z, hz, rfl, rfl⟩ := h
    exact ⟨none, rfl, by simp, fun σ2 _ => by simp [stepOp, hz, appl]⟩
  case makeFunc fn f c =>
    cases fn with
    | func g =>
      simp only at h
      split at h
      · rename_i h1 h2
        cases h
        exact ⟨none, rfl, by simp, fun σ2 _ => by simp [stepOp, h1, h2, appl]⟩
      · rename_i h1 h2 hne
        cases h
        refine ⟨none, rfl, by simp, fun σ2 _ => ?_⟩
        simp only [stepOp, h1, h2, appl]
        split
        · simp_all
        · simp_all
        · simp_all
      · cases h
    | _ => simp at h
  case makeSlice t y z =>
    split at h
    · rename_i p q hp hq
      unfold makeD at h
      split at h
      · rename_i el l c h1
        split at h
        · rename_i sz by_ zl h2 h3 h4
          split at h
          · rename_i hc
            cases h
            refine ⟨some (id, _), rfl, by intro k en h; cases h; exact .inl rfl, fun σ2 _ => ?_⟩
            simp only [stepOp, hp, hq, makeD, h1, h2, h3, h4, if_pos hc, appl]
          · cases h
        · cases h
      · cases h
    · cases h
  case slice t y lo hi mx =>
    simp only [opKind] at hask
    split at h
    · rename_i h1 h2 h3 h4
      simp [h1] at hask
    · rename_i p q1 q2 q3 hnb h1 h2 h3 h4
      simp only [Option.map_eq_some_iff, Prod.mk.injEq] at h
      obtain ⟨r, hr, rfl, rfl⟩ := h
      refine ⟨none, rfl, by simp, fun σ2 _ => ?_⟩
      simp only [stepOp, h1, h2, h3, h4, appl, hr, Option.map_some]
    · cases h
  case fieldAddr t y f =>
    simp only [Option.map_eq_some_iff, Option.bind_eq_some_iff, Prod.mk.injEq] at h
    obtain ⟨z, ⟨p, hp, hz⟩, rfl, rfl⟩ := h
    refine ⟨none, rfl, by simp, fun σ2 hA => ?_⟩
    have := fieldAddrD_agree (P := X.P) (t := t) (f := f) (agree_of (hA rfl) (by simp [opLooks]) hp)
    simp [stepOp, hp, this, hz, appl]
  case field t y f =>
    simp only [Option.map_eq_some_iff, Prod.mk.injEq] at h
    obtain ⟨z, hz, rfl, rfl⟩ := h
    exact ⟨none, rfl, by simp, fun σ2 _ => by simp [stepOp, hz, appl]⟩
  case indexAddr t y z =>
    split at h
    · rename_i p q hp hq
      simp only [Option.map_eq_some_iff, Prod.mk.injEq] at h
      obtain ⟨r, hr, rfl, rfl⟩ := h
      refine ⟨none, rfl, by simp, fun σ2 hA => ?_⟩
      have := indexAddrD_agree (P := X.P) (t := t) (i := q) (agree_of (hA rfl) (by simp [opLooks]) hp)
      simp [stepOp, hp, hq, this, hr, appl]
    · cases h
  case index t y z =>
    split at h
    · rename_i p q hp hq
      simp only [Option.map_eq_some_iff, Prod.mk.injEq] at h
      obtain ⟨r, hr, rfl, rfl⟩ := h
      exact ⟨none, rfl, by simp, fun σ2 _ => by simp [stepOp, hp, hq, hr, appl]⟩
    · cases h
  case extract y k =>
    split at h
    · rename_i xs hy
      simp only [Option.map_eq_some_iff, Prod.mk.injEq] at h
      obtain ⟨r, hr, rfl, rfl⟩ := h
      exact ⟨none, rfl, by simp, fun σ2 _ => by simp [stepOp, hy, hr, appl]⟩
    · cases h
  case call c =>
    unfold callOpD at h
    split at h
    · cases h
    · rename_i args hargs
      split at h
      · rename_i b hc
        have hlk : opLooks (.call c) = c.args.toList := by simp [opLooks, hc]
        have memA : ∀ {j : Nat} {y : PV}, args[j]? = some y → ∃ w ∈ opLooks (.call c), operandD X e w = some y := fun hj => by
          obtain ⟨w, h1, h2⟩ := operandsD_mem hargs hj
          exact ⟨w, by rw [hlk]; exact h1, h2⟩
        have red : ∀ σ2, stepOp X call e σ2 id (.call c) = builtinD X.P σ2 id b c.argTypes.toList args := fun σ2 => by simp only [stepOp, callOpD, hargs, hc]
        unfold builtinD at h
        split at h
        · rename_i t y hts
          simp only [Option.map_eq_some_iff, Prod.mk.injEq] at h
          obtain ⟨r, hr, rfl, rfl⟩ := h
          refine ⟨none, rfl, by simp, fun σ2 hA => ?_⟩
          obtain ⟨w, w1, w2⟩ := memA (j := 0) (y := y) (by simp)
          have hrw : isRW (.call c) = true := by simp [isRW, opKind, hc]
          rw [red, hts]
          have := lenD_agree (P := X.P) (t := t) (agree_of (hA hrw) w1 w2)
          simp [builtinD, this, hr, appl]
        · rename_i t t' y z hts
          split at h
          · rename_i ht
            have hrw : isRW (.call c) = true := by simp [isRW, opKind, hc]
            have hw : isW (.call c) = true := by simp [isW, opKind, hc]
            obtain ⟨wy, y1, y2⟩ := memA (j := 0) (y := y) (by simp)
            obtain ⟨wz, z1, z2⟩ := memA (j := 1) (y := z) (by simp)
            obtain ⟨δ, d1, d2, d3⟩ := appendD_agree h
            refine ⟨δ, d1, fun k en hk => (d2 k en hk).imp (fun h => h) fun hm => ⟨hw, mem_touched y1 y2 hm⟩, fun σ2 hA => ?_⟩
            rw [red, hts]
            simp only [builtinD, ht, if_true]
            subst ht
            exact d3 σ2 (agree_of (hA hrw) y1 y2) (agree_of (hA hrw) z1 z2)
          · cases h
        · rename_i t t' y z hts
          have hrw : isRW (.call c) = true := by simp [isRW, opKind, hc]
          have hw : isW (.call c) = true := by simp [isW, opKind, hc]
          obtain ⟨wy, y1, y2⟩ := memA (j := 0) (y := y) (by simp)
          obtain ⟨wz, z1, z2⟩ := memA (j := 1) (y := z) (by simp)
          obtain ⟨δ, d1, d2, d3⟩ := copyD_agree h
          refine ⟨δ, d1, fun k en hk => .inr ⟨hw, mem_touched y1 y2 (d2 k en hk)⟩, fun σ2 hA => ?_⟩
          rw [red, hts]
          simp only [builtinD]
          exact d3 σ2 (agree_of (hA hrw) y1 y2) (agree_of (hA hrw) z1 z2)
        · simp only [Option.map_eq_some_iff, Prod.mk.injEq] at h
          obtain ⟨r, hr, rfl, rfl⟩ := h
          exact ⟨none, rfl, by simp, fun σ2 hA => by rw [red]; simp [builtinD, hr, appl]⟩
        · simp only [Option.map_eq_some_iff, Prod.mk.injEq] at h
          obtain ⟨r, hr, rfl, rfl⟩ := h
          exact ⟨none, rfl, by simp, fun σ2 hA => by rw [red]; simp [builtinD, hr, appl]⟩
        · cases h
      · cases h
      · rename_i f hc
        simp only [opKind, hc, hargs, callAsk] at hask
        split at h
        · rename_i g hf
          simp only [hf, Bool.and_eq_true, Bool.not_eq_true'] at hask
          obtain ⟨rfl, h2⟩ := hcp g args σ x σ' h hask.1.1 hask.1.2 hask.2
          exact ⟨none, rfl, by simp, fun σ2 _ => by simp [stepOp, callOpD, hargs, hc, hf, h2, appl]⟩
        · rename_i g fi ca hf
          simp only [hf, Bool.and_eq_true, Bool.not_eq_true'] at hask
          obtain ⟨⟨⟨⟨q1, q2⟩, q3⟩, q4⟩, q5⟩ := hask
          obtain ⟨rfl, h2⟩ := hcp g _ σ x σ' h (by simp only [List.all_append, q1, q2, q3, Bool.and_self]) q4 q5
          exact ⟨none, rfl, by simp, fun σ2 _ => by
            have h3 := h2 σ2
            simp only [List.append_assoc] at h3
            simp [stepOp, callOpD, hargs, hc, hf, h3, appl]⟩
        · rename_i id' hf
          simp [hf] at hask
        · cases h

end Go.Dn
