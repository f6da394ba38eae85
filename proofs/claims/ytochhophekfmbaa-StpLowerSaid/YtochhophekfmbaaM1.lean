/- Part 1 of what the row stands on. -/
import Derived.CheckFast
import Derived.RangeFuncRecord
import Derived.LoopNIn
import Derived.Below
import Derived.Test.YtochhophekfmbaaM0
set_option linter.unusedVariables false
set_option linter.unusedSimpArgs false
namespace Go.Dn
open Go
variable {X : Ctx} {e e' : Env} {n : Nat}
def sees (e e' : Env) (xs : List Operand) : Prop := ∀ t, .tmp t ∈ xs → e t = e' t
theorem Zj {x : Operand} (h : sees e e' [x]) : Z0 X e x = Z0 X e' x := by
 cases x with
 | tmp t => simp only [Z0]; rw [h t (by simp)]
 | _ => rfl
theorem Z12 : ∀ {xs : List Operand}, sees e e' xs → ZG X e xs = ZG X e' xs
 | [], _ => rfl
 | x :: xs, h => by
  simp only [ZG];rw [Zj (fun t ht => h t (by simp at ht ⊢; exact .inl ht)), Z12 (fun t ht => h t (by simp [ht]))]
theorem Z38 : ∀ {xs : List (Nat × Operand)}, sees e e' (xs.map (·.2)) → Z1r X e xs = Z1r X e' xs
 | [], _ => rfl
 | (i, x) :: xs, h => by
  simp only [Z1r];rw [Zj (fun t ht => h t (by simp at ht ⊢; exact .inl ht)), Z38 (fun t ht => h t (by simp at ht ⊢; exact .inr ht))]
theorem optD_env {x : Option Operand} (h : sees e e' x.toList) : optD X e x = optD X e' x := by
 cases x with
 | none => rfl
 | some x => simp only [optD]; rw [Zj (by simpa using h)]
theorem Zt {xs ys : List Operand} (h : sees e e' ys) (hs : ∀ x ∈ xs, x ∈ ys) : sees e e' xs := fun t ht => h t (hs _ ht)
theorem sees1 {ys : List Operand} {x : Operand} (h : sees e e' ys) (hy : ys = [x]) : Z0 X e x = Z0 X e' x :=
 Zj (by subst hy; exact h)
theorem sees2 {ys : List Operand} {x y : Operand} (h : sees e e' ys) (hy : ys = [x, y]) : Z0 X e x = Z0 X e' x :=
 Zj (by subst hy; exact Zt h (by intro z hz; simp at hz; simp [hz]))
theorem sees22 {ys : List Operand} {x y : Operand} (h : sees e e' ys) (hy : ys = [x, y]) : Z0 X e x = Z0 X e' x ∧ Z0 X e y = Z0 X e' y := by
 subst hy
 exact ⟨Zj (Zt h (by intro z hz; simp at hz; simp [hz])), Zj (Zt h (by intro z hz; simp at hz; simp [hz]))⟩
theorem sees3 {ys : List Operand} {x y u : Operand} (h : sees e e' ys) (hy : ys = [x, y, u]) : Z0 X e x = Z0 X e' x ∧ Z0 X e y = Z0 X e' y ∧ Z0 X e u = Z0 X e' u := by
 subst hy
 exact ⟨Zj (Zt h (by intro z hz; simp at hz; simp [hz])), Zj (Zt h (by intro z hz; simp at hz; simp [hz])), Zj (Zt h (by intro z hz; simp at hz; simp [hz]))⟩
theorem Z2u {call : Ze} {σ : Heap} {id : Nat} {op : Op} (h : sees e e' op.operands.toList) : Z3 X call e σ id op = Z3 X call e' σ id op := by
 cases op <;> simp only [Op.operands] at h <;> simp only [Z3]
 case build t ps =>
  have hp : sees e e' (ps.toList.map (·.2)) := by simpa using h
  simp only [Z4l, Z38 hp]
 case buildSlice t k ps =>
  have hp : sees e e' (ps.toList.map (·.2)) := by simpa using h
  simp only [Z0N, Z38 hp]
 case makeFunc fn f c =>
  have h1 : sees e e' f.toList := Zt h (by intro x hx; simp at hx ⊢; exact .inl hx)
  have h2 : sees e e' c.toList := Zt h (by intro x hx; simp at hx ⊢; exact .inr hx)
  cases fn <;> simp only [Z12 h1, Z12 h2]
 case slice t x lo hi mx =>
  have h1 : sees e e' [x] := Zt h (by intro y hy; simp at hy ⊢; exact .inl hy)
  have h2 : sees e e' lo.toList := Zt h (by intro y hy; simp at hy ⊢; exact .inr (.inl hy))
  have h3 : sees e e' hi.toList := Zt h (by intro y hy; simp at hy ⊢; exact .inr (.inr (.inl hy)))
  have h4 : sees e e' mx.toList := Zt h (by intro y hy; simp at hy ⊢; exact .inr (.inr (.inr hy)))
  simp only [Zj h1, optD_env h2, optD_env h3, optD_env h4]
 case makeMap t r => cases r <;> rfl
 case lookup t x k c => cases c <;> simp only [Z3] <;> rw [(sees22 h rfl).1, (sees22 h rfl).2]
 case call c =>
  have h1 : sees e e' c.args.toList := Zt h (by intro y hy; simp only [Call.operands, Y08, Yr]; exact .inr hy)
  simp only [ZW, Z12 h1];cases hc : c.callee with
  | value f =>
   have h2 : sees e e' [f] := Zt h (by intro y hy; simp only [Call.operands, hc, Y08, Yr]; exact .inl hy)
   simp only [Zj h2]
  | _ => rfl
 all_goals first
  | rfl
  | (rw [sees1 h rfl]; done)
  | (rw [sees2 h rfl]; done)
  | (rw [(sees22 h rfl).1, (sees22 h rfl).2]; done)
  | (rw [(sees3 h rfl).1, (sees3 h rfl).2.1, (sees3 h rfl).2.2]; done)
theorem looks_sub {op : Op} : ∀ x ∈ ZI op, x ∈ op.operands.toList := by
 intro x hx
 cases op <;> simp only [ZI] at hx <;> (try (simp at hx; done)) <;> simp only [Op.operands]
 case call c =>
  cases hc : c.callee <;> rw [hc] at hx <;> simp at hx
  simp only [Call.operands, Y08, Yr];exact .inr (by simpa using hx)
 all_goals (simp at hx ⊢; simp [hx])
theorem touched_looks {op : Op} (hl : sees e e' (ZI op)) : touched X e op = touched X e' op := by
 have key : ∀ (l : List Operand), sees e e' l → (l.flatMap fun x => match Z0 X e x with | some v => vids v | none => []) = (l.flatMap fun x => match Z0 X e' x with | some v => vids v | none => []) := by
  intro l
  induction l with
  | nil => intro _; rfl
  | cons x l ih =>
   intro h;simp only [YC];rw [Zj (X := X) (Zt h (by intro y hy; simp at hy; simp [hy])), ih (Zt h (by intro y hy; simp [hy]))]
 exact key _ hl
theorem touched_env {op : Op} (h : sees e e' op.operands.toList) : touched X e op = touched X e' op := touched_looks (Zt h looks_sub)
def Stable (ops : Array Oper) (e e' : Env) : Prop := ∀ t, (ops.any fun o => o.dst == some t) = false → e t = e' t
theorem rootT_stable {ops : Array Oper} {t u : Nat} (h : rootT ops t = some u) : (ops.any fun o => o.dst == some u) = false := by
 unfold rootT at h
 split at h
 ·rename_i hn;cases h;rw [List.find?_eq_none] at hn;rw [Array.any_eq_false];intro i hi;exact hn _ (Array.getElem_mem_toList hi)
 ·split at h
  all_goals first
   | (cases h; done)
   | skip
  all_goals
   split at h
   ·cases h
   ·rename_i hh; cases h; simpa using hh
theorem Z3O {ops : Array Oper} {op : Op} (hs : Stable ops e e') : Z0u X ops e op = Z0u X ops e' op := by
 unfold Z0u
 congr 1
 funext x
 cases x with
 | tmp t =>
  simp only;cases h : rootT ops t with
  | none => rfl
  | some u => simp only; rw [hs u (rootT_stable h)]
 | _ => rfl
theorem Z5T {ops : Array Oper} {op : Op} (h : stableOp ops op = true) : Z0u X ops e op = touched X e op := by
 unfold stableOp at h
 unfold Z0u touched
 have key : ∀ (l : List Operand), (l.all fun x => match x with | .tmp t => !(ops.any fun o => o.dst == some t) | _ => true) = true →
   (l.flatMap fun x => match x with
    | .tmp t => (match rootT ops t with | some u => vids (e u) | none => [])
    | x => (match Z0 X e x with | some v => vids v | none => [])) =
   (l.flatMap fun x => match Z0 X e x with | some v => vids v | none => []) := by
  intro l
  induction l with
  | nil => intro _; rfl
  | cons x l ih =>
   intro h;simp only [Ye, Y8] at h;simp only [YC];rw [ih h.2]
   congr 1
   cases x with
   | tmp t =>
    have hn : ops.toList.find? (fun o => o.dst == some t) = none := by
     rw [List.find?_eq_none];intro o ho;have h1 := h.1
     simp only [YV, Array.any_eq_false] at h1;obtain ⟨i, hi, rfl⟩ := List.mem_iff_getElem.1 ho
     exact h1 i (by simpa using hi)
    simp only [rootT, hn, Z0]
   | _ => rfl
 exact key _ h
theorem freshAt_env {ops : Array Oper} {bef : Array Nat} {i k : Nat} (hs : Stable ops e e') : Z16 X e bef ops i k = Z16 X e' bef ops i k := by
 unfold Z16
 congr 1
 funext j
 congr 1
 cases hj : ops[j]? with
 | none => rfl
 | some o => simp only [Z3O (X := X) (op := o.op) hs]
theorem frozen_env {op : Op} (h : sees e e' op.operands.toList) : frozen X e op = frozen X e' op := by
 cases op with
 | buildSlice t k ps =>
  have hp : sees e e' (ps.toList.map (·.2)) := by simpa [Op.operands] using h
  simp only [frozen, Z38 hp]
 | _ => rfl
theorem Z3S {ops : Array Oper} {base i : Nat} {o : Oper} (hst : Stable ops e e') (h : sees e e' o.op.operands.toList) : ZZ X ops base i o e = ZZ X ops base i o e' := by
 unfold ZZ
 congr 1
 unfold ZP
 rw [touched_env h, frozen_env h]
 have hfr : ∀ k, Z16 X e (Region.before ops) ops i k = Z16 X e' (Region.before ops) ops i k := fun k => freshAt_env hst
 have hri : Z0u X ops e o.op = Z0u X ops e' o.op := Z3O hst
 simp only [hfr, hri]
 cases hop : o.op with
 | slice t x lo hi mx =>
  rw [hop] at h;have h1 : sees e e' [x] := Zt h (by intro y hy; simp [Op.operands] at hy ⊢; exact .inl hy)
  simp only [Zj h1]
 | call c =>
  rw [hop] at h;have h1 : sees e e' c.args.toList := Zt h (by intro y hy; simp only [Op.operands, Call.operands, Y08, Yr]; exact .inr hy)
  have hk : ∀ args, Z2o X e args c.callee = Z2o X e' args c.callee := fun args => by
   cases hc : c.callee with
   | value f =>
    have h2 : sees e e' [f] := Zt h (by intro y hy; simp only [Op.operands, Call.operands, hc, Y08, Yr]; exact .inl hy)
    simp only [Z2o, Zj h2]
   | _ => rfl
  simp only [Z12 h1, hk]
 | _ => rfl
theorem still_env {call : Ze} {ops : Array Oper} {base i : Nat} {o : Oper} {σ : Heap} (h : sees e e' o.op.operands.toList) : Z24 X call ops base i o e σ ↔ Z24 X call ops base i o e' σ := by
 unfold Z24
 simp only [Z2u (X := X) (call := call) h]
def appl (σ : Heap) (δ : List (Nat × Ent)) : Heap := δ.foldl (fun σ p => σ.put p.1 p.2) σ
theorem ZN (σ : Heap) : appl σ [] = σ := rfl
theorem ZO (σ : Heap) (k : Nat) (en : Ent) : appl σ [(k, en)] = σ.put k en := rfl
def Agree (σ σ2 : Heap) (l : List Nat) : Prop := ∀ k ∈ l, σ2.ent k = σ.ent k
theorem Z25 {σ σ2 : Heap} {id k : Nat} (h : σ2.ent id = σ.ent id) : σ2.cur id k = σ.cur id k := by simp only [Heap.cur, h]
theorem loadD_agree {P : Program} {σ σ2 : Heap} {t : TypeId} {p : PV} (h : Agree σ σ2 (vids p)) : Z1a P σ2 t p = Z1a P σ t p := by
 cases p with
 | ptr id ver off => simp only [Z1a]; rw [h id (by simp [vids])]
 | _ => rfl
theorem lenD_agree {P : Program} {σ σ2 : Heap} {t : TypeId} {p : PV} (h : Agree σ σ2 (vids p)) : lenD P σ2 t p = lenD P σ t p := by
 cases p with
 | buf id len sz => simp only [lenD]; rw [Z25 (h id (by simp [vids]))]
 | v x => cases x <;> rfl
 | _ => rfl
theorem Z4r {P : Program} {σ σ2 : Heap} {t : TypeId} {p i : PV} (h : Agree σ σ2 (vids p)) : Zz P σ2 t p i = Zz P σ t p i := by
 cases p with
 | buf id len sz => simp only [Zz]; rw [Z25 (h id (by simp [vids]))]
 | ptr id ver off => simp only [Zz]; rw [Z25 (h id (by simp [vids]))]
 | v x => cases x <;> rfl
 | _ => rfl
theorem Z4k {P : Program} {σ σ2 : Heap} {t : TypeId} {p : PV} {f : Nat} (h : Agree σ σ2 (vids p)) : Z0F P σ2 t p f = Z0F P σ t p f := by
 cases p with
 | ptr id ver off => simp only [Z0F]; rw [Z25 (h id (by simp [vids]))]
 | _ => rfl
theorem isNil_agree {σ σ2 : Heap} {p : PV} (h : Agree σ σ2 (vids p)) : Z3Q σ2 p = Z3Q σ p := by
 cases p with
 | buf id len sz => simp only [Z3Q]; rw [Z25 (h id (by simp [vids]))]
 | v x =>
  cases x with
  | sl xs => cases xs <;> rfl
  | _ => rfl
 | _ => rfl
theorem binD_agree {P : Program} {σ σ2 : Heap} {op : BinOp} {t : TypeId} {x y : PV} (h : Agree σ σ2 (vids x)) : binD P σ2 op t x y = binD P σ op t x y := by
 have hn := isNil_agree h
 unfold binD
 split <;> (try rfl)
 rw [hn]
theorem binD_pure {P : Program} {σ σ2 : Heap} {op : BinOp} {t : TypeId} {x y : PV} (h1 : op ≠ .eql) (h2 : op ≠ .neq) : binD P σ2 op t x y = binD P σ op t x y := by
 unfold binD
 split <;> (try rfl)
 cases op <;> simp_all
theorem storeD_agree {P : Program} {σ : Heap} {t : TypeId} {x p : PV} {σ' : Heap} (hs : Z2G P σ t x p = some σ') :
  ∃ k en, σ' = σ.put k en ∧ k ∈ vids p ∧ ∀ σ2, Agree σ σ2 (vids p) → Z2G P σ2 t x p = some (σ2.put k en) := by
 cases p <;> simp only [Z2G] at hs <;> (try (cases hs; done))
 rename_i id ver off
 split at hs
 ·rename_i e cells hen
  split at hs
  ·rename_i hv
   split at hs
   ·rename_i n cs hn hcs
    split at hs
    ·rename_i hc;cases hs;refine ⟨id, _, rfl, by simp [vids], fun σ2 h => ?_⟩
     simp only [Z2G];rw [h id (by simp [vids]), hen]
     simp only;rw [if_pos hv, hn, hcs];simp only;rw [if_pos hc]
    ·cases hs
   ·cases hs
  ·cases hs
 ·cases hs
theorem Z36 {σ σ2 : Heap} {sz : Nat} {p : PV} (h : Agree σ σ2 (vids p)) : Z1B σ2 sz p = Z1B σ sz p := by
 cases p with
 | buf id len s => simp only [Z1B]; rw [h id (by simp [vids])]
 | view id tot l n s => simp only [Z1B]; rw [h id (by simp [vids])]
 | v x => cases x <;> rfl
 | _ => rfl
theorem appendD_agree {P : Program} {σ : Heap} {id0 : Nat} {t : TypeId} {x y z : PV} {σ' : Heap} (hs : Z0I P σ id0 t x y = some (z, σ')) :
  ∃ δ, σ' = appl σ δ ∧ (∀ k en, (k, en) ∈ δ → k = id0 ∨ k ∈ vids x) ∧
   ∀ σ2, Agree σ σ2 (vids x) → Agree σ σ2 (vids y) → Z0I P σ2 id0 t x y = some (z, appl σ2 δ) := by
 unfold Z0I at hs
 split at hs
 ·cases hs
 ·rename_i el hel
  split at hs
  ·rename_i sz by_ hsz hby
   split at hs
   ·cases hs
   ·rename_i ys m hbr
    split at hs
    ·cases hs
    ·rename_i hz;have red : ∀ σ2, Agree σ σ2 (vids y) → Z1B σ2 sz y = some (ys, m) := fun σ2 h => (Z36 h).trans hbr
     split at hs
     ·split at hs
      ·rename_i hm; cases hs;exact ⟨[], rfl, by simp, fun σ2 _ hy => by simp only [Z0I, hel, hsz, hby, red σ2 hy, if_neg hz, if_pos hm, ZN, ZO]⟩
      ·rename_i hm
       split at hs
       ·rename_i hr; cases hs;exact ⟨[(id0, _)], rfl, by intro k en h; rw [YW] at h; cases h; exact .inl rfl, fun σ2 _ hy => by simp only [Z0I, hel, hsz, hby, red σ2 hy, if_neg hz, if_neg hm, if_pos hr, ZN, ZO]⟩
       ·cases hs
     ·split at hs
      ·cases hs
      ·rename_i hm
       split at hs
       ·rename_i hr; cases hs;exact ⟨[(id0, _)], rfl, by intro k en h; rw [YW] at h; cases h; exact .inl rfl, fun σ2 _ hy => by simp only [Z0I, hel, hsz, hby, red σ2 hy, if_neg hz, if_neg hm, if_pos hr, ZN, ZO]⟩
       ·cases hs
     ·rename_i id len s
      split at hs
      ·rename_i e' cells hen
       split at hs
       ·rename_i hr; cases hs;exact ⟨[(id, _)], rfl, by intro k en h; rw [YW] at h; cases h; exact .inr (by simp [vids]), fun σ2 hx hy => by
         have hid := hx id (by simp [vids])
         simp only [Z0I, hel, hsz, hby, red σ2 hy, if_neg hz, hid, hen, if_pos hr, ZN, ZO]⟩
       ·cases hs
      ·cases hs
     ·cases hs
  ·cases hs
theorem copyD_agree {P : Program} {σ : Heap} {t : TypeId} {x y z : PV} {σ' : Heap} (hs : Z3A P σ t x y = some (z, σ')) :
  ∃ δ, σ' = appl σ δ ∧ (∀ k en, (k, en) ∈ δ → k ∈ vids x) ∧
   ∀ σ2, Agree σ σ2 (vids x) → Agree σ σ2 (vids y) → Z3A P σ2 t x y = some (z, appl σ2 δ) := by
 unfold Z3A at hs
 split at hs
 ·cases hs
 ·rename_i el hel
  split at hs
  ·cases hs
  ·rename_i sz hsz
   split at hs
   ·rename_i ys m id len s hbr
    split at hs
    ·rename_i e' cells hen
     split at hs
     ·rename_i hr; cases hs;exact ⟨[(id, _)], rfl, by intro k en h; rw [YW] at h; cases h; simp [vids], fun σ2 hx hy => by
       have hid := hx id (by simp [vids])
       have hb := (Z36 (sz := sz) hy).trans hbr
       simp only [Z3A, hel, hsz, hb, hid, hen, if_pos hr, ZN, ZO]⟩
     ·cases hs
    ·cases hs
   ·rename_i ys m id tot l len s hbr
    split at hs
    ·rename_i e' cells hen
     split at hs
     ·rename_i hr; cases hs;exact ⟨[(id, _)], rfl, by intro k en h; rw [YW] at h; cases h; simp [vids], fun σ2 hx hy => by
       have hid := hx id (by simp [vids])
       have hb := (Z36 (sz := sz) hy).trans hbr
       simp only [Z3A, hel, hsz, hb, hid, hen, if_pos hr, ZN, ZO]⟩
     ·cases hs
    ·cases hs
   ·cases hs
def Z1U (X : Ctx) (call : Ze) : Prop :=
 ∀ f args σ r σ', call (.fn f) args σ = some (r, σ') → args.all PV.calm = true → X.opn f = false → X.keep f = false → σ' = σ ∧ ∀ σ2, call (.fn f) args σ2 = some (r, σ2)
theorem Z0k {σ σ2 : Heap} {op : Op} {x : Operand} {p : PV} (h : ∀ k ∈ touched X e op, σ2.ent k = σ.ent k) (hx : x ∈ ZI op) (hp : Z0 X e x = some p) : Agree σ σ2 (vids p) := fun k hk =>
 h k (by
  unfold touched;rw [List.mem_flatMap];exact ⟨x, hx, by rw [hp]; exact hk⟩)
theorem Z2R {op : Op} {x : Operand} {p : PV} {k : Nat} (hx : x ∈ ZI op) (hp : Z0 X e x = some p) (hk : k ∈ vids p) : k ∈ touched X e op := by
 unfold touched
 rw [List.mem_flatMap]
 exact ⟨x, hx, by rw [hp]; exact hk⟩
theorem Z2Z : ∀ {xs : List Operand} {ys : List PV}, ZG X e xs = some ys → ∀ {i : Nat} {y : PV}, ys[i]? = some y → ∃ x ∈ xs, Z0 X e x = some y
 | [], ys, h, i, y, hi => by simp [ZG] at h; subst h; simp at hi
 | x :: xs, ys, h, i, y, hi => by
  simp only [ZG, Y2, Y4] at h;obtain ⟨z, hz, zs, hzs, rfl⟩ := h
  cases i with
  | zero => simp at hi; subst hi; exact ⟨x, by simp, hz⟩
  | succ i =>
   obtain ⟨x', h1, h2⟩ := Z2Z hzs (by simpa using hi)
   exact ⟨x', by simp [h1], h2⟩
theorem Z2T (σ : Heap) (δ δ' : List (Nat × Ent)) : appl σ (δ ++ δ') = appl (appl σ δ) δ' := by simp [appl]
theorem Z5o : ∀ (δ : List (Nat × Ent)) {σ σ2 : Heap} {k : Nat}, σ2.ent k = σ.ent k → (appl σ2 δ).ent k = (appl σ δ).ent k
 | [], _, _, _, h => h
 | (j, en) :: δ, σ, σ2, k, h => by
  show (appl (σ2.put j en) δ).ent k = (appl (σ.put j en) δ).ent k
  refine Z5o δ ?_;simp only [Heap.put, upd]
  split
  ·rfl
  ·exact h
def Frz {β : Type} (F : Heap → Option (β × Heap)) (σ : Heap) (ids : List Nat) (y : β) (σ' : Heap) : Prop :=
 ∃ δ, σ' = appl σ δ ∧ (∀ k en, (k, en) ∈ δ → k ∈ ids) ∧ ∀ σ2, (∀ k ∈ ids, σ2.ent k = σ.ent k) → F σ2 = some (y, appl σ2 δ)
theorem Frz.refl {β : Type} {F : Heap → Option (β × Heap)} {σ : Heap} {ids : List Nat} {y : β} (h : ∀ σ2, F σ2 = some (y, σ2)) : Frz F σ ids y σ := ⟨[], rfl, by simp, fun σ2 _ => h σ2⟩
theorem Z5K {σ σ' : Heap} {x y : PV} (h : Z1x σ x = some (y, σ')) : Frz (fun σ => Z1x σ x) σ (bufId x) y σ' := by
 cases x <;> simp only [Z1x] at h <;> (try (cases h; done))
 ·cases h; exact Frz.refl fun _ => rfl
 ·cases h; exact Frz.refl fun _ => rfl
 ·cases h; exact Frz.refl fun _ => rfl
 ·rename_i id len sz
  split at h
  ·rename_i el cells lv hb
   split at h
   ·rename_i hc;rw [Y0] at h;obtain ⟨fs, hfs, h⟩ := h
    cases h;refine ⟨[(id, .blk el cells false)], rfl, by simp [bufId], fun σ2 hA => ?_⟩
    have := hA id (by simp [bufId])
    simp only [Z1x, this, hb, if_pos hc, hfs, Y7]
    rfl
   ·cases h
  ·cases h
theorem Frz.then {β γ ζ : Type} {F : Heap → Option (β × Heap)} {G : Heap → Option (γ × Heap)} {f : β → γ → ζ} {σ σ1 σ2 : Heap} {ids ids' : List Nat} {y : β} {z : γ} (h : Frz F σ ids y σ1) (h' : Frz G σ1 ids' z σ2) :
  Frz (fun σ => (F σ).bind fun r => (G r.2).bind fun q => some (f r.1 q.1, q.2)) σ (ids ++ ids') (f y z) σ2 := by
 obtain ⟨δ, rfl, k1, l1⟩ := h
 obtain ⟨δ', rfl, k2, l2⟩ := h'
 refine ⟨δ ++ δ', (Z2T _ _ _).symm, fun k en hk => ?_, fun σ3 hA => ?_⟩
 ·rcases List.mem_append.1 hk with h | h
  ·exact Yy _ (k1 k en h)
  ·exact Yv _ (k2 k en h)
 ·have e1 := l1 σ3 fun k hk => hA k (Yy _ hk)
  have e2 := l2 (appl σ3 δ) fun k hk => Z5o δ (hA k (Yv _ hk))
  simp only [e1, e2, Y1, Z2T]
theorem Frz.sub {β : Type} {F : Heap → Option (β × Heap)} {σ σ' : Heap} {ids ids' : List Nat} {y : β} (h : Frz F σ ids y σ') (hs : ∀ k ∈ ids, k ∈ ids') : Frz F σ ids' y σ' := by
 obtain ⟨δ, e, k1, l1⟩ := h
 exact ⟨δ, e, fun k en hk => hs k (k1 k en hk), fun σ2 hA => l1 σ2 fun k hk => hA k (hs k hk)⟩
theorem Frz.map {β γ : Type} {F : Heap → Option (β × Heap)} {f : β → γ} {σ σ' : Heap} {ids : List Nat} {y : β} (h : Frz F σ ids y σ') : Frz (fun σ => (F σ).bind fun r => some (f r.1, r.2)) σ ids (f y) σ' := by
 obtain ⟨δ, e, k1, l1⟩ := h
 exact ⟨δ, e, k1, fun σ2 hA => by simp only [l1 σ2 hA, Y1]⟩
theorem Z4J : ∀ {xs ys : List PV} {σ σ' : Heap}, Z1P σ xs = some (ys, σ') → Frz (fun σ => Z1P σ xs) σ (xs.flatMap bufId) ys σ'
 | [], ys, σ, σ', h => by
  simp only [Z1P, Y4, Y3] at h;obtain ⟨rfl, rfl⟩ := h
  exact Frz.refl fun _ => rfl
 | x :: xs, ys, σ, σ', h => by
  simp only [Z1P, Y2, Y4, Y3] at h;obtain ⟨⟨y, σ1⟩, h1, ⟨zs, σ2⟩, h2, rfl, rfl⟩ := h
  exact (Z5K h1).then (f := List.cons) (Z4J h2)
theorem frzVal_loc {σ σ' : Heap} {x y : PV} (h : Z2a σ x = some (y, σ')) : Frz (fun σ => Z2a σ x) σ (Z2s x) y σ' := by
 cases x with
 | agg cs =>
  simp only [Z2a, Y2, Y4, Y3] at h;obtain ⟨⟨ys, σ1⟩, h1, rfl, rfl⟩ := h
  have := (Z4J h1).map (f := PV.agg)
  simpa only [Z2a, Z2s] using this
 | _ =>
  simp only [Z2a] at h ⊢;exact Z5K h
theorem Z2z : ∀ {ps qs : List (Nat × PV)} {σ σ' : Heap}, Z05 σ ps = some (qs, σ') → Frz (fun σ => Z05 σ ps) σ (ps.flatMap fun p => Z2s p.2) qs σ'
 | [], qs, σ, σ', h => by
  simp only [Z05, Y4, Y3] at h;obtain ⟨rfl, rfl⟩ := h
  exact Frz.refl fun _ => rfl
 | p :: ps, qs, σ, σ', h => by
  simp only [Z05] at h
  split at h
  ·rename_i hn;simp only [Y2, Y4, Y3] at h;obtain ⟨⟨y, σ1⟩, e1, ⟨q, σ2⟩, e2, rfl, rfl⟩ := h
   have := (frzVal_loc e1).then (f := fun y q => (p.1, y) :: q) (Z2z e2)
   simpa only [Z05, hn, if_true, YC] using this
  ·rename_i hn;simp only [Y2, Y4, Y3] at h;obtain ⟨⟨q, σ2⟩, e2, rfl, rfl⟩ := h
   have := ((Z2z e2).map (f := fun q => p :: q)).sub (ids' := (p :: ps).flatMap fun p => Z2s p.2) fun k hk => by
    rw [YC]; exact Yv _ hk
   simpa only [Z05, hn, YA, if_false] using this
theorem stepOp_local {call : Ze} (hcp : Z1U X call) {ops : Array Oper} {base i : Nat} {o : Oper} {σ : Heap} {id : Nat} {x : PV} {σ' : Heap} (hask : ZP X ops base i o e = true) (h : Z3 X call e σ id o.op = some (x, σ')) :
  ∃ δ, σ' = appl σ δ ∧ (∀ k en, (k, en) ∈ δ → k = id ∨ (isW o.op = true ∧ k ∈ touched X e o.op) ∨ k ∈ frozen X e o.op) ∧
   ∀ σ2, (isRW o.op = true → ∀ k ∈ touched X e o.op, σ2.ent k = σ.ent k) → (∀ k ∈ frozen X e o.op, σ2.ent k = σ.ent k) → Z3 X call e σ2 id o.op = some (x, appl σ2 δ) := by
 unfold ZP at hask
 cases hop : o.op <;> rw [hop] at h hask <;> simp only [Z3] at h <;> (try (cases h; done))
 case makeMap t r => simp [Zb] at hask
 case lookup t y k c => simp [Zb] at hask
 case mapEntry t y k => simp [Zb] at hask
 case mapUpdate t y k v => simp [Zb] at hask
 case entryStore t y i v => simp [Zb] at hask
 case move y =>
  simp only [Y0, Y3] at h;obtain ⟨z, hz, rfl, rfl⟩ := h
  exact ⟨[], rfl, by simp, fun σ2 _ _ => by simp [Z3, hz, ZN, ZO]⟩
 case assign y =>
  simp only [Y0, Y3] at h;obtain ⟨z, hz, rfl, rfl⟩ := h
  exact ⟨[], rfl, by simp, fun σ2 _ _ => by simp [Z3, hz, ZN, ZO]⟩
 case pick c y z =>
  split at h
  ·rename_i hc;simp only [Y0, Y3] at h;obtain ⟨q, hq, rfl, rfl⟩ := h
   exact ⟨[], rfl, by simp, fun σ2 _ _ => by simp [Z3, hc, hq, ZN, ZO]⟩
  ·rename_i hc;simp only [Y0, Y3] at h;obtain ⟨q, hq, rfl, rfl⟩ := h
   exact ⟨[], rfl, by simp, fun σ2 _ _ => by simp [Z3, hc, hq, ZN, ZO]⟩
  ·cases h
 case alloc t =>
  simp only [Y0, newD, Y3] at h;obtain ⟨z, hz, rfl, rfl⟩ := h
  exact ⟨[(id, _)], rfl, by intro k en h; rw [YW] at h; cases h; exact .inl rfl, fun σ2 _ _ => by simp [Z3, hz, ZN, ZO, newD]⟩
 case box t y =>
  simp only [Y0, newD, Y3] at h;obtain ⟨z, hz, rfl, rfl⟩ := h
  exact ⟨[(id, _)], rfl, by intro k en h; rw [YW] at h; cases h; exact .inl rfl, fun σ2 _ _ => by simp [Z3, hz, ZN, ZO, newD]⟩
 case build t ps =>
  simp only [Y0, Y3] at h;obtain ⟨z, hz, rfl, rfl⟩ := h
  exact ⟨[], rfl, by simp, fun σ2 _ _ => by simp [Z3, hz, ZN, ZO]⟩
 case buildSlice t len ps =>
  unfold Z0N at h;simp only [Y2] at h;obtain ⟨qs, h2, ⟨qs', σ1⟩, hq, h⟩ := h
  have hfz : frozen X e (.buildSlice t len ps) = qs.flatMap fun p => Z2s p.2 := by simp only [frozen, h2]
  obtain ⟨δ, rfl, hk, hl⟩ := Z2z hq
  unfold Z0p at h
  split at h
  ·rename_i el h1
   split at h
   ·rename_i sz z h3 h4
    split at h
    ·rename_i hc;simp only [Y0, Y3] at h;obtain ⟨cs, hcs, rfl, rfl⟩ := h
     refine ⟨δ ++ [(id, _)], by rw [Z2T]; rfl, fun k en hm => ?_, fun σ2 _ hF => ?_⟩
     ·rcases List.mem_append.1 hm with hm | hm
      ·exact .inr (.inr (hfz ▸ hk k en hm))
      ·rw [YW] at hm; cases hm; exact .inl rfl
     ·have hq2 := hl σ2 (hfz ▸ hF)
      simp only [Z3, Z0N, Z0p, h1, h2, h3, h4, if_pos hc, hcs, Y7, Y1, hq2, Z2T]
      rfl
    ·cases h
   ·cases h
  ·cases h
 case load t y =>
  simp only [Y0, Y2, Y3] at h;obtain ⟨z, ⟨p, hp, hz⟩, rfl, rfl⟩ := h
  refine ⟨[], rfl, by simp, fun σ2 hA _ => ?_⟩
  have := loadD_agree (P := X.P) (t := t) (Z0k (hA rfl) (by simp [ZI]) hp)
  simp [Z3, hp, this, hz, ZN, ZO]
 case store t y z =>
  split at h
  ·rename_i p q hp hq;simp only [Y0, Y3] at h;obtain ⟨σ1, hs, rfl, rfl⟩ := h
   obtain ⟨k, en, rfl, hk, h2⟩ := storeD_agree hs
   refine ⟨[(k, en)], rfl, by intro k' en' h; rw [YW] at h; cases h; exact .inr (.inl ⟨rfl, Z2R (by simp [ZI]) hp hk⟩), fun σ2 hA _ => ?_⟩
   simp [Z3, hp, hq, h2 σ2 (Z0k (hA rfl) (by simp [ZI]) hp), ZN, ZO]
  ·cases h
 case nilCheck y =>
  split at h
  ·rename_i id' ver off hy
   split at h
   ·rename_i hc;cases h;refine ⟨[], rfl, by simp, fun σ2 hA _ => ?_⟩
    have := Z25 (k := ver) ((Z0k (hA rfl) (by simp [ZI]) hy) id' (by simp [vids]))
    simp [Z3, hy, this, hc, ZN, ZO]
   ·cases h
  all_goals first
   | (rename_i hy; cases h; exact ⟨[], rfl, by simp, fun σ2 _ _ => by simp [Z3, hy, ZN, ZO]⟩)
   | (cases h; done)
 case binOp op t y z ty =>
  split at h
  ·rename_i p q hp hq;simp only [Y0, Y3] at h;obtain ⟨r, hr, rfl, rfl⟩ := h
   refine ⟨[], rfl, by simp, fun σ2 hA _ => ?_⟩
   have : binD X.P σ2 op t p q = binD X.P σ op t p q := by
    by_cases hk : op = .eql ∨ op = .neq
    ·have hrw : isRW (.binOp op t y z ty) = true := by rcases hk with rfl | rfl <;> rfl
     exact binD_agree (Z0k (hA hrw) (by simp [ZI]) hp)
    ·exact binD_pure (fun h => hk (.inl h)) (fun h => hk (.inr h))
   simp [Z3, hp, hq, this, hr, ZN, ZO]
  ·cases h
 case unOp op t y =>
  simp only [Y0, Y3] at h;obtain ⟨z, hz, rfl, rfl⟩ := h
  exact ⟨[], rfl, by simp, fun σ2 _ _ => by simp [Z3, hz, ZN, ZO]⟩
 case convert a b y =>
  simp only [Y0, Y3] at h;obtain ⟨z, hz, rfl, rfl⟩ := h
  exact ⟨[], rfl, by simp, fun σ2 _ _ => by simp [Z3, hz, ZN, ZO]⟩
 case makeFunc fn f c =>
  cases fn with
  | func g =>
   simp only at h
   split at h
   ·rename_i h1 h2;cases h;exact ⟨[], rfl, by simp, fun σ2 _ _ => by simp [Z3, h1, h2, ZN, ZO]⟩
   ·rename_i h1 h2 hne;cases h;refine ⟨[], rfl, by simp, fun σ2 _ _ => ?_⟩
    simp only [Z3, h1, h2, ZN, ZO]
    split
    ·simp_all
    ·simp_all
    ·simp_all
   ·cases h
  | _ => simp at h
 case makeSlice t y z =>
  split at h
  ·rename_i p q hp hq;unfold makeD at h
   split at h
   ·rename_i el l c h1
    split at h
    ·rename_i sz by_ zl h2 h3 h4
     split at h
     ·rename_i hc;cases h;refine ⟨[(id, _)], rfl, by intro k en h; rw [YW] at h; cases h; exact .inl rfl, fun σ2 _ _ => ?_⟩
      simp only [Z3, hp, hq, makeD, h1, h2, h3, h4, if_pos hc, ZN, ZO]
     ·cases h
    ·cases h
   ·cases h
  ·cases h
 case slice t y lo hi mx =>
  simp only [Zb] at hask
  split at h
  ·rename_i h1 h2 h3 h4;simp only [h1] at hask;rw [if_pos hask] at h;simp only [Y0, Y3] at h;obtain ⟨r, hr, rfl, rfl⟩ := h
   refine ⟨[], rfl, by simp, fun σ2 _ _ => ?_⟩
   simp only [Z3, h1, h2, h3, h4, if_pos hask, ZN, ZO, hr, Y7]
  ·rename_i p q1 q2 q3 hnb h1 h2 h3 h4;simp only [Y0, Y3] at h;obtain ⟨r, hr, rfl, rfl⟩ := h
   refine ⟨[], rfl, by simp, fun σ2 _ _ => ?_⟩
   simp only [Z3, h1, h2, h3, h4, ZN, ZO, hr, Y7]
  ·cases h
 case fieldAddr t y f =>
  simp only [Y0, Y2, Y3] at h;obtain ⟨z, ⟨p, hp, hz⟩, rfl, rfl⟩ := h
  refine ⟨[], rfl, by simp, fun σ2 hA _ => ?_⟩
  have := Z4k (P := X.P) (t := t) (f := f) (Z0k (hA rfl) (by simp [ZI]) hp)
  simp [Z3, hp, this, hz, ZN, ZO]
 case field t y f =>
  simp only [Y0, Y3] at h;obtain ⟨z, hz, rfl, rfl⟩ := h
  exact ⟨[], rfl, by simp, fun σ2 _ _ => by simp [Z3, hz, ZN, ZO]⟩
 case indexAddr t y z =>
  split at h
  ·rename_i p q hp hq;simp only [Y0, Y3] at h;obtain ⟨r, hr, rfl, rfl⟩ := h
   refine ⟨[], rfl, by simp, fun σ2 hA _ => ?_⟩
   have := Z4r (P := X.P) (t := t) (i := q) (Z0k (hA rfl) (by simp [ZI]) hp)
   simp [Z3, hp, hq, this, hr, ZN, ZO]
  ·cases h
 case index t y z =>
  split at h
  ·rename_i p q hp hq;simp only [Y0, Y3] at h;obtain ⟨r, hr, rfl, rfl⟩ := h
   exact ⟨[], rfl, by simp, fun σ2 _ _ => by simp [Z3, hp, hq, hr, ZN, ZO]⟩
  ·cases h
 case extract y k =>
  split at h
  ·rename_i xs hy;simp only [Y0, Y3] at h;obtain ⟨r, hr, rfl, rfl⟩ := h
   exact ⟨[], rfl, by simp, fun σ2 _ _ => by simp [Z3, hy, hr, ZN, ZO]⟩
  ·cases h
 case call c =>
  unfold ZW at h
  split at h
  ·cases h
  ·rename_i args hargs
   split at h
   ·rename_i b hc;have hlk : ZI (.call c) = c.args.toList := by simp [ZI, hc]
    have memA : ∀ {j : Nat} {y : PV}, args[j]? = some y → ∃ w ∈ ZI (.call c), Z0 X e w = some y := fun hj => by
     obtain ⟨w, h1, h2⟩ := Z2Z hargs hj
     exact ⟨w, by rw [hlk]; exact h1, h2⟩
    have red : ∀ σ2, Z3 X call e σ2 id (.call c) = Zf X.P σ2 id b c.argTypes.toList args := fun σ2 => by simp only [Z3, ZW, hargs, hc]
    unfold Zf at h
    split at h
    ·rename_i t y hts;simp only [Y0, Y3] at h;obtain ⟨r, hr, rfl, rfl⟩ := h
     refine ⟨[], rfl, by simp, fun σ2 hA _ => ?_⟩
     obtain ⟨w, w1, w2⟩ := memA (j := 0) (y := y) (by simp)
     have hrw : isRW (.call c) = true := by simp [isRW, Zb, hc]
     rw [red, hts];have := lenD_agree (P := X.P) (t := t) (Z0k (hA hrw) w1 w2)
     simp [Zf, this, hr, ZN, ZO]
    ·rename_i t t' y z hts
     split at h
     ·rename_i ht;have hrw : isRW (.call c) = true := by simp [isRW, Zb, hc]
      have hw : isW (.call c) = true := by simp [isW, Zb, hc]
      obtain ⟨wy, y1, y2⟩ := memA (j := 0) (y := y) (by simp)
      obtain ⟨wz, z1, z2⟩ := memA (j := 1) (y := z) (by simp)
      obtain ⟨δ, d1, d2, d3⟩ := appendD_agree h
      refine ⟨δ, d1, fun k en hk => (d2 k en hk).imp (fun h => h) fun hm => .inl ⟨hw, Z2R y1 y2 hm⟩, fun σ2 hA _ => ?_⟩
      rw [red, hts];simp only [Zf, ht, if_true];subst ht;exact d3 σ2 (Z0k (hA hrw) y1 y2) (Z0k (hA hrw) z1 z2)
     ·cases h
    ·rename_i t t' y z hts;have hrw : isRW (.call c) = true := by simp [isRW, Zb, hc]
     have hw : isW (.call c) = true := by simp [isW, Zb, hc]
     obtain ⟨wy, y1, y2⟩ := memA (j := 0) (y := y) (by simp)
     obtain ⟨wz, z1, z2⟩ := memA (j := 1) (y := z) (by simp)
     obtain ⟨δ, d1, d2, d3⟩ := copyD_agree h
     refine ⟨δ, d1, fun k en hk => .inr (.inl ⟨hw, Z2R y1 y2 (d2 k en hk)⟩), fun σ2 hA _ => ?_⟩
     rw [red, hts];simp only [Zf];exact d3 σ2 (Z0k (hA hrw) y1 y2) (Z0k (hA hrw) z1 z2)
    ·simp only [Y0, Y3] at h;obtain ⟨r, hr, rfl, rfl⟩ := h
     exact ⟨[], rfl, by simp, fun σ2 hA _ => by rw [red]; simp [Zf, hr, ZN, ZO]⟩
    ·simp only [Y0, Y3] at h;obtain ⟨r, hr, rfl, rfl⟩ := h
     exact ⟨[], rfl, by simp, fun σ2 hA _ => by rw [red]; simp [Zf, hr, ZN, ZO]⟩
    ·cases h
   ·cases h
   ·rename_i f hc;simp only [Zb, hc, hargs, Z2o] at hask
    split at h
    ·rename_i g hf;simp only [hf, Y8, YV] at hask;obtain ⟨rfl, h2⟩ := hcp g args σ x σ' h hask.1.1 hask.1.2 hask.2
     exact ⟨[], rfl, by simp, fun σ2 _ _ => by simp [Z3, ZW, hargs, hc, hf, h2, ZN, ZO]⟩
    ·rename_i g fi ca hf;simp only [hf, Y8, YV] at hask;obtain ⟨⟨⟨⟨q1, q2⟩, q3⟩, q4⟩, q5⟩ := hask
     obtain ⟨rfl, h2⟩ := hcp g _ σ x σ' h (by simp only [List.all_append, q1, q2, q3, Y0N]) q4 q5
     exact ⟨[], rfl, by simp, fun σ2 _ _ => by
      have h3 := h2 σ2
      simp only [Yn] at h3;simp [Z3, ZW, hargs, hc, hf, h3, ZN, ZO]⟩
    ·rename_i id' hf;simp [hf] at hask
    ·cases h
theorem Z5Y {call : Ze} {σ σ' : Heap} {id : Nat} {op : Op} {x : PV} (hq : quiet op = true) (h : Z3 X call e σ id op = some (x, σ')) : σ' = σ := by
 cases op <;> simp only [quiet, YA] at hq <;> simp only [Z3] at h
 case nilCheck y =>
  split at h
  ·split at h <;> cases h; rfl
  all_goals first
   | (cases h; rfl; done)
   | (cases h; done)
 case makeFunc fn f c =>
  cases fn <;> simp only [YA] at hq h
  split at h <;> cases h <;> rfl
 case call c =>
  unfold ZW at h
  split at h
  ·cases h
  ·split at h
   ·rename_i b hc;rw [hc] at hq;unfold Zf at h
    split at h
    ·simp only [Y0, Y3] at h; obtain ⟨_, _, _, rfl⟩ := h; rfl
    ·simp at hq
    ·simp at hq
    ·simp only [Y0, Y3] at h; obtain ⟨_, _, _, rfl⟩ := h; rfl
    ·simp only [Y0, Y3] at h; obtain ⟨_, _, _, rfl⟩ := h; rfl
    ·cases h
   ·cases h
   ·rename_i f hc;rw [hc] at hq;simp at hq
 all_goals first
  | (simp only [Y0, Y3] at h; obtain ⟨_, _, _, rfl⟩ := h; rfl; done)
  | (split at h <;> first
    | (simp only [Y0, Y3] at h; obtain ⟨_, _, _, rfl⟩ := h; rfl)
    | (cases h; done))
theorem Alike.refl (a : Ent) : Alike a a := .inl rfl
theorem Alike.symm {a b : Ent} (h : Alike a b) : Alike b a := by
 rcases h with rfl | ⟨el, c, l, l', rfl, rfl⟩
 ·exact .inl rfl
 ·exact .inr ⟨el, c, l', l, rfl, rfl⟩
theorem Alike.trans {a b c : Ent} (h : Alike a b) (h' : Alike b c) : Alike a c := by
 rcases h with rfl | ⟨el, cs, l, l', rfl, rfl⟩
 ·exact h'
 ·rcases h' with rfl | ⟨el2, cs2, m, m', h1, rfl⟩
  ·exact .inr ⟨el, cs, l, l', rfl, rfl⟩
  ·cases h1;exact .inr ⟨el, cs, l, m', rfl, rfl⟩
def Z3q (σ σ2 : Heap) (l : List Nat) : Prop := ∀ k ∈ l, Alike (σ.ent k) (σ2.ent k)
theorem Z2A {σ σ2 : Heap} {id k : Nat} (h : Alike (σ.ent id) (σ2.ent id)) : σ2.cur id k = σ.cur id k := by
 rcases h with h | ⟨el, c, l, l', h1, h2⟩
 ·simp only [Heap.cur, h]
 ·simp only [Heap.cur, h1, h2]
theorem loadD_alike {P : Program} {σ σ2 : Heap} {t : TypeId} {p : PV} (h : Z3q σ σ2 (vids p)) : Z1a P σ2 t p = Z1a P σ t p := by
 cases p with
 | ptr id ver off =>
  simp only [Z1a]
  rcases h id (by simp [vids]) with h | ⟨el, c, l, l', h1, h2⟩
  ·rw [h]
  ·rw [h1, h2]
 | _ => rfl
theorem lenD_alike {P : Program} {σ σ2 : Heap} {t : TypeId} {p : PV} (h : Z3q σ σ2 (vids p)) : lenD P σ2 t p = lenD P σ t p := by
 cases p with
 | buf id len sz => simp only [lenD]; rw [Z2A (h id (by simp [vids]))]
 | v x => cases x <;> rfl
 | _ => rfl
theorem Z4j {P : Program} {σ σ2 : Heap} {t : TypeId} {p i : PV} (h : Z3q σ σ2 (vids p)) : Zz P σ2 t p i = Zz P σ t p i := by
 cases p with
 | buf id len sz => simp only [Zz]; rw [Z2A (h id (by simp [vids]))]
 | ptr id ver off => simp only [Zz]; rw [Z2A (h id (by simp [vids]))]
 | v x => cases x <;> rfl
 | _ => rfl
theorem Z4z {P : Program} {σ σ2 : Heap} {t : TypeId} {p : PV} {f : Nat} (h : Z3q σ σ2 (vids p)) : Z0F P σ2 t p f = Z0F P σ t p f := by
 cases p with
 | ptr id ver off => simp only [Z0F]; rw [Z2A (h id (by simp [vids]))]
 | _ => rfl
theorem isNil_alike {σ σ2 : Heap} {p : PV} (h : Z3q σ σ2 (vids p)) : Z3Q σ2 p = Z3Q σ p := by
 cases p with
 | buf id len sz => simp only [Z3Q]; rw [Z2A (h id (by simp [vids]))]
 | v x =>
  cases x with
  | sl xs => cases xs <;> rfl
  | _ => rfl
 | _ => rfl
theorem binD_alike {P : Program} {σ σ2 : Heap} {op : BinOp} {t : TypeId} {x y : PV} (h : Z3q σ σ2 (vids x)) : binD P σ2 op t x y = binD P σ op t x y := by
 have hn := isNil_alike h
 unfold binD
 split <;> (try rfl)
 rw [hn]
theorem Z26 {σ σ2 : Heap} {op : Op} {x : Operand} {p : PV} (h : ∀ k ∈ touched X e op, Alike (σ.ent k) (σ2.ent k)) (hx : x ∈ ZI op) (hp : Z0 X e x = some p) : Z3q σ σ2 (vids p) := fun k hk => h k (Z2R hx hp hk)
theorem quiet_alike {call : Ze} {σ σ2 : Heap} {id : Nat} {op : Op} {x : PV} (hq : quiet op = true) (h : Z3 X call e σ id op = some (x, σ)) (hA : isRW op = true → ∀ k ∈ touched X e op, Alike (σ.ent k) (σ2.ent k)) : Z3 X call e σ2 id op = some (x, σ2) := by
 cases op <;> simp only [quiet, YA] at hq <;> simp only [Z3] at h ⊢
 case load t y =>
  simp only [Y0, Y2, Y3] at h;obtain ⟨z, ⟨p, hp, hz⟩, rfl, _⟩ := h
  have := loadD_alike (P := X.P) (t := t) (Z26 (hA rfl) (by simp [ZI]) hp)
  simp [hp, this, hz]
 case nilCheck y =>
  split at h
  ·rename_i id' ver off hy
   split at h
   ·rename_i hc;cases h;have := Z2A (k := ver) ((Z26 (hA rfl) (by simp [ZI]) hy) id' (by simp [vids]))
    simp [this, hc]
   ·cases h
  all_goals first
   | (cases h; rfl)
   | (cases h; done)
 case binOp op t y z ty =>
  split at h
  ·rename_i p q hp hq;simp only [Y0, Y3] at h;obtain ⟨r, hr, rfl, _⟩ := h
   have : binD X.P σ2 op t p q = binD X.P σ op t p q := by
    by_cases hk : op = .eql ∨ op = .neq
    ·have hrw : isRW (.binOp op t y z ty) = true := by rcases hk with rfl | rfl <;> rfl
     exact binD_alike (Z26 (hA hrw) (by simp [ZI]) hp)
    ·exact binD_pure (fun h => hk (.inl h)) (fun h => hk (.inr h))
   simp [this, hr]
  ·cases h
 case fieldAddr t y f =>
  simp only [Y0, Y2, Y3] at h;obtain ⟨z, ⟨p, hp, hz⟩, rfl, _⟩ := h
  have := Z4z (P := X.P) (t := t) (f := f) (Z26 (hA rfl) (by simp [ZI]) hp)
  simp [hp, this, hz]
 case indexAddr t y z =>
  split at h
  ·rename_i p q hp hq;simp only [Y0, Y3] at h;obtain ⟨r, hr, rfl, _⟩ := h
   have := Z4j (P := X.P) (t := t) (i := q) (Z26 (hA rfl) (by simp [ZI]) hp)
   simp [this, hr]
  ·cases h
 case makeFunc fn f c =>
  cases fn <;> simp only [YA] at hq h
  simp only
  split at h <;> cases h <;> rfl
 case call c =>
  unfold ZW at h ⊢
  split at h
  ·cases h
  ·rename_i args hargs
   split at h
   ·rename_i b hc;rw [hc] at hq;have hlk : ZI (.call c) = c.args.toList := by simp [ZI, hc]
    unfold Zf at h
    split at h
    ·rename_i t y hts;simp only [Y0, Y3] at h;obtain ⟨r, hr, rfl, _⟩ := h
     obtain ⟨w, h1, h2⟩ := Z2Z (i := 0) (y := y) hargs (by simp)
     have hrw : isRW (.call c) = true := by simp [isRW, Zb, hc]
     have := lenD_alike (P := X.P) (t := t) (Z26 (hA hrw) (by rw [hlk]; exact h1) h2)
     simp [Zf, hts, this, hr]
    ·simp at hq
    ·simp at hq
    ·simp only [Y0, Y3] at h;obtain ⟨r, hr, rfl, _⟩ := h
     simp [Zf, hr]
    ·simp only [Y0, Y3] at h;obtain ⟨r, hr, rfl, _⟩ := h
     simp [Zf, hr]
    ·cases h
   ·cases h
   ·rename_i f hc;rw [hc] at hq;simp at hq
 all_goals first
  | (simp only [Y0, Y3] at h; obtain ⟨z, hz, rfl, _⟩ := h; simp [hz]; done)
  | (split at h <;> first
    | (simp only [Y0, Y3] at h; obtain ⟨z, hz, rfl, _⟩ := h; simp_all; done)
    | (cases h; done))
theorem quiet_noW {op : Op} (hq : quiet op = true) : isW op = false ∧ Zb op ≠ .call := by
 cases op <;> simp only [quiet, YA] at hq <;> simp only [isW, Zb]
 case binOp op _ _ _ _ => cases op <;> simp
 case makeFunc fn _ _ => cases fn <;> simp at hq ⊢
 case call c =>
  cases hc : c.callee with
  | builtin b => rw [hc] at hq; cases b <;> simp at hq ⊢
  | _ => rw [hc] at hq; simp at hq
 all_goals simp
end Go.Dn

namespace Go.Dn
open Go
theorem one_bits {look : Nat → Nat} {o : Oper} {j : Nat} (h : (CheckFast.one look o).testBit j = true) :
  ∃ e ∈ o.after, Region.binds .any e = true ∧ (e.on = j ∨ (look e.on).testBit j = true) := by
 have key : ∀ (l : List Edge) (s : Nat), (l.foldl (fun s e => if Region.binds .any e then s ||| 2 ^ e.on ||| look e.on else s) s).testBit j = true →
   s.testBit j = true ∨ ∃ e ∈ l, Region.binds .any e = true ∧ (e.on = j ∨ (look e.on).testBit j = true) := by
  intro l
  induction l with
  | nil => intro s h; exact .inl h
  | cons e l ih =>
   intro s h
   rcases ih _ h with h | ⟨e', h1, h2⟩
   ·simp only at h
    split at h
    ·rename_i hb;rw [Nat.testBit_or, Nat.testBit_or, Ys, Ys] at h
     rcases h with (h | h) | h
     ·exact .inl h
     ·rw [Nat.testBit_two_pow] at h;exact .inr ⟨e, by simp, hb, .inl (by simpa using h)⟩
     ·exact .inr ⟨e, by simp, hb, .inr h⟩
    ·exact .inl h
   ·exact .inr ⟨e', by simp [h1], h2⟩
 unfold CheckFast.one at h
 rw [← Y0O] at h
 rcases key _ _ h with h | ⟨e, h1, h2⟩
 ·simp at h
 ·exact ⟨e, by simpa using h1, h2⟩
def befL (l : List Oper) (A : Array Nat) : Array Nat := l.foldl (fun acc o => acc.push (CheckFast.one (fun i => acc.getD i 0) o)) A
theorem befL_old : ∀ (l : List Oper) (A : Array Nat) (k : Nat), k < A.size → (befL l A).getD k 0 = A.getD k 0
 | [], _, _, _ => rfl
 | o :: l, A, k, hk => by
  have := befL_old l (A.push (CheckFast.one (fun i => A.getD i 0) o)) k (by simp; omega)
  have h2 : befL (o :: l) A = befL l (A.push (CheckFast.one (fun i => A.getD i 0) o)) := rfl
  rw [h2, this];simp [Y5, Array.getElem?_push, Nat.ne_of_lt hk]
theorem befL_bits {j : Nat} : ∀ (l : List Oper) (A : Array Nat) (k : Nat) (o : Oper), l[k]? = some o → ((befL l A).getD (A.size + k) 0).testBit j = true →
  ∃ e ∈ o.after, Region.binds .any e = true ∧ (e.on = j ∨ ((befL l A).getD e.on 0).testBit j = true)
 | [], _, _, _, h, _ => by simp at h
 | o :: l, A, 0, o', h, hb => by
  simp at h;subst h;have h2 : befL (o :: l) A = befL l (A.push (CheckFast.one (fun i => A.getD i 0) o)) := rfl
  rw [h2, Y0Q, befL_old _ _ _ (by simp)] at hb
  have h3 : (A.push (CheckFast.one (fun i => A.getD i 0) o)).getD A.size 0 = CheckFast.one (fun i => A.getD i 0) o := by simp [Y5]
  rw [h3] at hb;obtain ⟨e, h4, h5, h6⟩ := one_bits hb
  refine ⟨e, h4, h5, h6.imp id fun h6 => ?_⟩
  have hlt : e.on < A.size := by
   rcases YZ e.on A.size with h | h
   ·exact h
   ·simp [Y5, Yo h] at h6
  rw [befL_old _ _ _ hlt];exact h6
 | o :: l, A, k + 1, o', h, hb => by
  have h2 : befL (o :: l) A = befL l (A.push (CheckFast.one (fun i => A.getD i 0) o)) := rfl
  rw [h2] at hb ⊢;refine befL_bits l _ k o' (by simpa using h) ?_
  have : (A.push (CheckFast.one (fun i => A.getD i 0) o)).size + k = A.size + (k + 1) := by simp; omega
  rw [this];exact hb
theorem before_eq (ops : Array Oper) : Region.before ops = befL ops.toList #[] := by
 unfold Region.before befL
 rw [← Y0O]
 rfl
theorem Z5A {ops : Array Oper} {i j : Nat} {o : Oper} (ho : ops[i]? = some o) (h : ((Region.before ops).getD i 0).testBit j = true) :
  ∃ e ∈ o.after, Region.binds .any e = true ∧ (e.on = j ∨ ((Region.before ops).getD e.on 0).testBit j = true) := by
 rw [before_eq] at h ⊢
 exact befL_bits ops.toList #[] i o (by simpa using ho) (by simpa using h)
section
variable {X : Ctx} {n : Nat} {ops : Array Oper}
theorem Z3J (h : Z1f ops = true) : Region.lexB .any ops = true ∧
  (∀ i o, ops[i]? = some o → isW o.op = true → Z21 (Region.before ops) ops i = false) ∧
  ∀ i o, ops[i]? = some o → ∀ e ∈ o.after, Region.binds .any e = true → e.on < i := by
 unfold Z1f at h
 simp only [Y8, YF, Y0J] at h
 obtain ⟨⟨h1, h2⟩, h3⟩ := h
 refine ⟨h1, fun i o ho hw => ?_, fun i o ho e he hb => ?_⟩
 ·have := h3 i (Array.getElem?_eq_some_iff.1 ho).1
  rw [ho] at this;simp only [hw, if_true, Y8, YV] at this;exact this.1
 ·have := h3 i (Array.getElem?_eq_some_iff.1 ho).1
  rw [ho] at this;simp only [Y8] at this;have := Array.all_eq_true_iff_forall_mem.1 this.2 e he
  simpa [hb] using this
theorem bits_lt (ha : ∀ i o, ops[i]? = some o → ∀ e ∈ o.after, Region.binds .any e = true → e.on < i) {j : Nat} : ∀ (i : Nat), ((Region.before ops).getD i 0).testBit j = true → j < i := by
 intro i
 induction i using Nat.strongRecOn with
 | _ i ih =>
  intro h;cases ho : ops[i]? with
  | none =>
   exfalso
   have hsz : (Region.before ops).size = ops.size := by
    rw [before_eq];have key : ∀ (l : List Oper) (A : Array Nat), (befL l A).size = A.size + l.length := by
     intro l
     induction l with
     | nil => intro A; rfl
     | cons o l ih =>
      intro A;have h2 : befL (o :: l) A = befL l (A.push (CheckFast.one (fun i => A.getD i 0) o)) := rfl
      rw [h2, ih]
      simp
      omega
    rw [key]
    simp
   have : (Region.before ops)[i]? = none := Yo (by rw [hsz]; exact Array.getElem?_eq_none_iff.1 ho)
   simp [Y5, this] at h
  | some o =>
   obtain ⟨e, he, hb, h1⟩ := Z5A ho h
   have hlt := ha i o ho e he hb
   rcases h1 with h1 | h1
   ·omega
   ·have := ih e.on hlt h1
    omega
theorem lex_free : ∀ (fuel k : Nat) (L : Array Bool), Region.lexFrom .any ops fuel k L = true → ∀ j, k ≤ j → j < k + fuel →
  ∃ L' : Array Bool, (∀ m, j ≤ m → L'.getD m true = L.getD m true) ∧ Region.free .any ops L' j = true
 | 0, k, L, _, j, h1, h2 => by omega
 | fuel + 1, k, L, h, j, h1, h2 => by
  simp only [Region.lexFrom, Y8] at h
  rcases Nat.eq_or_lt_of_le h1 with rfl | hlt
  ·exact ⟨L, fun _ _ => rfl, h.1.2⟩
  ·obtain ⟨L', h3, h4⟩ := lex_free fuel (k + 1) _ h.2 j hlt (by omega)
   exact ⟨L', fun m hm => by rw [h3 m hm, getD_set_ne true (by omega)], h4⟩
theorem apart_of (h : Region.lexB .any ops = true) {i j : Nat} {oi oj : Oper} (hi : ops[i]? = some oi) (hj : ops[j]? = some oj) (hlt : j < i) (hno : ∀ e ∈ oi.after, Region.binds .any e = true → e.on ≠ j) : oj.apart ops oi = true := by
 simp only [Region.lexB, Y8] at h
 have hjs := (Array.getElem?_eq_some_iff.1 hj).1
 have his := (Array.getElem?_eq_some_iff.1 hi).1
 obtain ⟨L', h1, h2⟩ := lex_free _ _ _ h.2 j (Yh _) (by omega)
 refine Region.free_spec hj h2 i oi hi (by omega) ?_ hno
 rw [h1 i (by omega)]
 simp [Y5, his]
theorem Z4m {o : Oper} {e e' : Env} (h : ∀ t ∈ o.looksAt ops, e t = e' t) : sees e e' o.op.operands.toList := fun t ht => h t (by
 unfold Oper.looksAt
 rw [Yr]
 exact .inl (List.mem_filterMap.2 ⟨.tmp t, ht, rfl⟩))
theorem Z0B {o : Oper} {e e' : Env} (h : ∀ t ∈ o.looksAt ops, e t = e' t) : Zi ops e o = Zi ops e' o := by
 unfold Zi
 cases hg : o.guard with
 | none => rfl
 | some g =>
  obtain ⟨g, want⟩ := g
  simp only;cases hd : (ops[g]?).bind (·.dst) with
  | none => rfl
  | some d =>
   simp only;rw [h d (by unfold Oper.looksAt; rw [Yr, hg]; simp [hd])]
def lookIds (X : Ctx) (e : Env) (op : Op) (k : Nat) : Prop := (isRW op = true ∧ k ∈ touched X e op) ∨ k ∈ frozen X e op
theorem Z3R {call : Ze} (hcp : Z1U X call) {base i : Nat} {o : Oper} {e e' : Env} {σ σ' : Heap} (hna : Z1L (Region.before ops) ops i = false) (hns : ¬(Zi ops e o = some true ∧ ZZ X ops base i o e = false)) (h : Z00 X call n ops base i o e σ = some (e', σ')) :
  ∃ x δ, e' = putD n e o.dst x ∧ σ' = appl σ δ ∧ (Zi ops e o = some true → ZP X ops base i o e = true) ∧
   (∀ k en, (k, en) ∈ δ → Zi ops e o = some true ∧ (k = base + i ∨ (isW o.op = true ∧ k ∈ touched X e o.op) ∨ k ∈ frozen X e o.op)) ∧
   ∀ e2 σ2, Stable ops e e2 → (∀ t ∈ o.looksAt ops, e t = e2 t) → (Zi ops e o = some true → ∀ k, lookIds X e o.op k → σ2.ent k = σ.ent k) →
    Z00 X call n ops base i o e2 σ2 = some (putD n e2 o.dst x, appl σ2 δ) := by
 unfold Z00 at h
 rw [if_neg hns] at h
 unfold Z07 at h
 split at h
 ·rename_i hw;have hask : ZZ X ops base i o e = true := by
   cases hd : ZZ X ops base i o e with
   | true => rfl
   | false => exact absurd ⟨hw, hd⟩ hns
  have hask0 : ZP X ops base i o e = true := by
   unfold ZZ at hask;rw [hna, Bool.false_or] at hask;exact hask
  simp only [Y2, Y4, Y3] at h;obtain ⟨⟨x, σ1⟩, h1, rfl, rfl⟩ := h
  obtain ⟨δ, rfl, hk, hl⟩ := stepOp_local hcp hask0 h1
  refine ⟨x, δ, rfl, rfl, fun _ => hask0, fun k en hkk => ⟨hw, hk k en hkk⟩, fun e2 σ2 hst he hσ => ?_⟩
  have hs := Z4m (ops := ops) he
  unfold Z00;rw [← Z0B he, ← Z3S hst hs, if_neg (by rw [hask]; simp)]
  unfold Z07;rw [← Z0B he, hw];simp only;rw [← Z2u hs, hl σ2 (fun hr k hk => hσ hw k (.inl ⟨hr, hk⟩)) (fun k hk => hσ hw k (.inr hk))]
  rfl
 ·rename_i hw;cases h;refine ⟨.undef, [], rfl, rfl, fun h => (by rw [hw] at h; cases h), by simp, fun e2 σ2 _ he _ => ?_⟩
  unfold Z00;rw [← Z0B he, if_neg (by rw [hw]; simp)]
  unfold Z07;rw [← Z0B he, hw]
  rfl
 ·cases h
theorem isW_isRW {op : Op} (h : isW op = true) : isRW op = true := by
 unfold isW at h
 unfold isRW
 split at h <;> simp_all
theorem Z2F {op : Op} (h : isRW op = true) : Zb op = .read ∨ Zb op = .write := by
 unfold isRW at h
 split at h <;> simp_all
theorem Z4K {op : Op} : isW op = true ↔ Zb op = .write := by
 unfold isW
 split <;> simp_all
theorem Z3y {i j : Nat} {o : Oper} (hi : ops[i]? = some o) (hu : unord (Region.before ops) i j = true) (hp : isW o.op = true) : Z21 (Region.before ops) ops j = true := by
 unfold Z21
 rw [List.any_eq_true]
 refine ⟨i, List.mem_range.2 (Array.getElem?_eq_some_iff.1 hi).1, ?_⟩
 rw [hi]
 simp [hu, hp]
theorem freshAt_of {i j : Nat} {o : Oper} {e : Env} {k : Nat} (hj : ops[j]? = some o) (hu : unord (Region.before ops) i j = true) (hp : isRW o.op = true) (h : Z16 X e (Region.before ops) ops i k = false) : rootOp ops o.op = true ∧ k ∉ Z0u X ops e o.op := by
 unfold Z16 at h
 rw [List.any_eq_false] at h
 have := h j (List.mem_range.2 (Array.getElem?_eq_some_iff.1 hj).1)
 rw [hj] at this
 simpa [hu, hp] using this
theorem Z0a {bef : Array Nat} {i j : Nat} (h : unord bef i j = true) : unord bef j i = true := by
 unfold unord at h ⊢
 rw [Nat.max_comm, Nat.min_comm, bne_comm]
 exact h
theorem ask_read {base i : Nat} {o : Oper} {e : Env} (h : ZP X ops base i o e = true) (hr : Zb o.op = .read) {k : Nat} (hk : k ∈ touched X e o.op) :
  k < base ∨ (Z21 (Region.before ops) ops i = false ∧ ((Region.before ops).getD i 0).testBit (k - base) = true) := by
 unfold ZP at h
 rw [hr] at h
 simp only [Y8, YF] at h
 have := h.1 k hk
 simp only [Ys, decide_eq_true_eq, Y8, YV] at this
 exact this.imp id fun h => h.1
theorem ask_root {base i : Nat} {o : Oper} {e : Env} (hi : ops[i]? = some o) (h : ZP X ops base i o e = true) (hr : Zb o.op = .read) (ho : Z21 (Region.before ops) ops i = true) (hro : rootOp ops o.op = true) {k : Nat} (hk : k ∈ touched X e o.op) :
  k ∈ Z0u X ops e o.op := by
 unfold ZP at h
 rw [hr] at h
 simp only [Y8, Ys, YV, hro, YF, List.contains_iff_mem, Bool.true_eq_false, or_false] at h
 rcases h.2 with h | h
 ·unfold Z3M at h;rw [hi] at h;simp only [ho, hro, Bool.not_true, Bool.false_or, Bool.or_false] at h;rw [Z5T h];exact hk
 ·exact h k hk
theorem Z4v {base i : Nat} {o : Oper} {e : Env} (h : ZP X ops base i o e = true) (hr : Zb o.op = .write) {k : Nat} (hk : k ∈ touched X e o.op) :
  (k < base ∧ Z16 X e (Region.before ops) ops i k = false) ∨ (base ≤ k ∧ ((Region.before ops).getD i 0).testBit (k - base) = true) := by
 unfold ZP at h
 rw [hr] at h
 simp only [YF] at h
 have := h k hk
 simp only [Ys, decide_eq_true_eq, Y8, YV] at this
 exact this.imp id fun h => h.1
theorem key_read (hd : Z1f ops = true) {base i j : Nat} {oi oj : Oper} {ei ej : Env} (hst : Stable ops ej ei) (hi : ops[i]? = some oi) (hj : ops[j]? = some oj) (hu : unord (Region.before ops) i j = true)
  (hb : ((Region.before ops).getD i 0).testBit j = false) (hai : ZP X ops base i oi ei = true) (haj : ZP X ops base j oj ej = true) {k : Nat}
  (hk : k = base + j ∨ (isW oj.op = true ∧ k ∈ touched X ej oj.op)) (hri : isRW oi.op = true) (hki : k ∈ touched X ei oi.op) : False := by
 obtain ⟨_, hww, _⟩ := Z3J hd
 rcases hk with rfl | ⟨hw, hk⟩
 ·rcases Z2F hri with h | h
  ·rcases ask_read hai h hki with h | ⟨_, h⟩
   ·omega
   ·rw [Ya, hb] at h; cases h
  ·rcases Z4v hai h hki with ⟨h, _⟩ | ⟨_, h⟩
   ·omega
   ·rw [Ya, hb] at h; cases h
 ·rcases Z4v haj (Z4K.1 hw) hk with ⟨_, h⟩ | ⟨hge, _⟩
  ·obtain ⟨h1, h2⟩ := freshAt_of hi (Z0a hu) hri h
   rw [Z3O hst] at h2;have hold := Z3y hj (Z0a hu) hw
   rcases Z2F hri with h | h
   ·exact h2 (ask_root hi hai h hold h1 hki)
   ·have := hww i oi hi (Z4K.2 h)
    rw [hold] at this;cases this
  ·rcases Z2F hri with h | h
   ·rcases ask_read hai h hki with h | ⟨h, _⟩
    ·omega
    ·rw [Z3y hj (Z0a hu) hw] at h; cases h
   ·have := hww i oi hi (Z4K.2 h)
    rw [Z3y hj (Z0a hu) hw] at this;cases this
theorem Z41 {base i : Nat} {o : Oper} {e : Env} (h : ZP X ops base i o e = true) {k : Nat} (hk : k ∈ frozen X e o.op) :
  base ≤ k ∧ ((Region.before ops).getD i 0).testBit (k - base) = true ∧ ∀ j, j < ops.size → unord (Region.before ops) i j = true → ((Region.before ops).getD j 0).testBit (k - base) = false := by
 cases hop : o.op with
 | buildSlice t len parts =>
  unfold ZP at h;simp only [hop, Zb, YF] at h;rw [hop] at hk;have := h k hk
  simp only [Y8, decide_eq_true_eq, YF, Y0J, YV, Bool.and_eq_false_iff] at this;obtain ⟨⟨⟨h1, h2⟩, h3⟩, h4⟩ := this
  refine ⟨h1, h3, fun j hj hu => ?_⟩
  rcases h4 j hj with h | h
  ·rw [hu] at h; cases h
  ·exact h
 | _ => rw [hop] at hk; simp [frozen] at hk
theorem ask_rw {base i : Nat} {o : Oper} {e : Env} (h : ZP X ops base i o e = true) (hr : isRW o.op = true) {k : Nat} (hk : k ∈ touched X e o.op) : k < base ∨ ((Region.before ops).getD i 0).testBit (k - base) = true := by
 rcases Z2F hr with h' | h'
 ·exact (ask_read h h' hk).imp id fun h => h.2
 ·exact (Z4v h h' hk).imp (fun h => h.1) fun h => h.2
theorem key_look (hd : Z1f ops = true) {base i j : Nat} {oi oj : Oper} {ei ej : Env} (hst : Stable ops ej ei) (hi : ops[i]? = some oi) (hj : ops[j]? = some oj) (hu : unord (Region.before ops) i j = true)
  (hb : ((Region.before ops).getD i 0).testBit j = false) (hai : ZP X ops base i oi ei = true) (haj : ZP X ops base j oj ej = true) {k : Nat}
  (hk : k = base + j ∨ (isW oj.op = true ∧ k ∈ touched X ej oj.op) ∨ k ∈ frozen X ej oj.op) (hl : lookIds X ei oi.op k) : False := by
 have hil := (Array.getElem?_eq_some_iff.1 hi).1
 have hjl := (Array.getElem?_eq_some_iff.1 hj).1
 rcases hl with ⟨hr, ht⟩ | hf
 ·rcases hk with hk | hk | hk
  ·exact key_read hd hst hi hj hu hb hai haj (.inl hk) hr ht
  ·exact key_read hd hst hi hj hu hb hai haj (.inr hk) hr ht
  ·obtain ⟨h1, h2, h3⟩ := Z41 haj hk
   rcases ask_rw hai hr ht with h | h
   ·omega
   ·rw [h3 i hil (Z0a hu)] at h; cases h
 ·obtain ⟨h1, h2, h3⟩ := Z41 hai hf
  rcases hk with rfl | ⟨hw, hk⟩ | hk
  ·rw [Ya, hb] at h2; cases h2
  ·rcases ask_rw haj (isW_isRW hw) hk with h | h
   ·omega
   ·rw [h3 j hjl hu] at h; cases h
  ·obtain ⟨_, h4, h5⟩ := Z41 haj hk
   rw [h5 i hil (Z0a hu)] at h2; cases h2
theorem Z60 {i j : Nat} (hj : j < ops.size) (hu : unord (Region.before ops) i j = true) : Z1L (Region.before ops) ops i = false := by
 cases h : Z1L (Region.before ops) ops i with
 | false => rfl
 | true =>
  unfold Z1L at h;rw [YF] at h;have := h j (List.mem_range.2 hj)
  rw [hu] at this;cases this
theorem Z17 {e : Env} {dst : Option Tmp} {x : PV} {t : Nat} (h : dst ≠ some t) : putD n e dst x t = e t := by
 unfold putD
 cases dst with
 | none => rfl
 | some d =>
  simp only
  split
  ·simp only [upd];rw [if_neg (fun hh => h (by rw [hh]))]
  ·rfl
theorem upd_comm {α : Type} (f : Nat → α) {i j : Nat} (x y : α) (h : i ≠ j) : upd (upd f i x) j y = upd (upd f j y) i x := by
 funext k
 simp only [upd]
 by_cases h1 : k = j
 ·subst h1;rw [if_pos rfl, if_neg (fun hh => h hh.symm), if_pos rfl]
 ·rw [if_neg h1]
  by_cases h2 : k = i
  ·rw [if_pos h2, if_pos h2]
  ·rw [if_neg h2, if_neg h2, if_neg h1]
theorem Z4n {e : Env} {d d' : Option Tmp} {x y : PV} (h : ∀ t, d = some t → d' ≠ some t) : putD n (putD n e d x) d' y = putD n (putD n e d' y) d x := by
 cases d with
 | none => rfl
 | some t =>
  cases d' with
  | none => rfl
  | some t' =>
   have hne : t ≠ t' := fun hh => h t rfl (by rw [hh])
   simp only [putD]
   by_cases h1 : t < n
   ·by_cases h2 : t' < n
    ·simp only [if_pos h1, if_pos h2]; exact upd_comm _ _ _ hne
    ·simp only [if_pos h1, if_neg h2]
   ·by_cases h2 : t' < n
    ·simp only [if_neg h1, if_pos h2]
    ·simp only [if_neg h1, if_neg h2]
theorem appl_ne : ∀ {δ : List (Nat × Ent)} {σ : Heap} {k : Nat}, (∀ k' en, (k', en) ∈ δ → k' ≠ k) → (appl σ δ).ent k = σ.ent k
 | [], _, _, _ => rfl
 | (j, en) :: δ, σ, k, h => by
  show (appl (σ.put j en) δ).ent k = σ.ent k
  rw [appl_ne fun k' en' hm => h k' en' (YN _ hm)]
  simp only [Heap.put, upd];rw [if_neg fun hh => h j en YQ hh.symm]
theorem put_comm {σ : Heap} {j k : Nat} {en en' : Ent} (h : j ≠ k) : (σ.put j en).put k en' = (σ.put k en').put j en := by
 simp only [Heap.put]
 rw [upd_comm _ _ _ h]
theorem appl_put : ∀ {δ : List (Nat × Ent)} {σ : Heap} {j : Nat} {en : Ent}, (∀ k en', (k, en') ∈ δ → k ≠ j) → appl (σ.put j en) δ = (appl σ δ).put j en
 | [], _, _, _, _ => rfl
 | (k, en') :: δ, σ, j, en, h => by
  show appl ((σ.put j en).put k en') δ = (appl (σ.put k en') δ).put j en
  rw [put_comm fun hh => h k en' YQ hh.symm, appl_put fun k' en' hm => h k' en' (YN _ hm)]
theorem appl_comm : ∀ {δ δ' : List (Nat × Ent)} {σ : Heap}, (∀ k en k' en', (k, en) ∈ δ → (k', en') ∈ δ' → k ≠ k') → appl (appl σ δ) δ' = appl (appl σ δ') δ
 | [], _, _, _ => rfl
 | (j, en) :: δ, δ', σ, h => by
  show appl (appl (σ.put j en) δ) δ' = appl ((appl σ δ').put j en) δ
  rw [appl_comm fun k en k' en' h1 h2 => h k en k' en' (YN _ h1) h2, appl_put fun k en' hm hh => h j en k en' YQ hm hh.symm]
theorem quiet_ask {call : Ze} {base i : Nat} {o : Oper} {e e' : Env} {σ σ' : Heap} (hq : quiet o.op = true) (h : Z00 X call n ops base i o e σ = some (e', σ')) : ¬(Zi ops e o = some true ∧ ZZ X ops base i o e = false) := by
 intro c
 unfold Z00 at h
 rw [if_pos c] at h
 split at h
 ·rename_i hs;exact (quiet_noW hq).2 hs.1
 ·cases h
theorem Z5w {call : Ze} {base i : Nat} {o : Oper} {e e' : Env} {σ σ' : Heap} (hq : quiet o.op = true) (h : Z00 X call n ops base i o e σ = some (e', σ')) : σ' = σ := by
 have hns := quiet_ask hq h
 unfold Z00 at h
 rw [if_neg hns] at h
 unfold Z07 at h
 split at h
 ·simp only [Y2, Y4, Y3] at h;obtain ⟨⟨x, σ1⟩, h1, _, rfl⟩ := h
  exact Z5Y hq h1
 ·cases h; rfl
 ·cases h
theorem ask_lt {base i : Nat} {o : Oper} {e : Env} (h : ZP X ops base i o e = true) (hr : Zb o.op = .read) {k : Nat} (hk : k ∈ touched X e o.op) : k < base + ops.size := by
 unfold ZP at h
 rw [hr] at h
 simp only [Y8, YF] at h
 have := h.1 k hk
 simp only [Ys, decide_eq_true_eq, Y8, YV] at this
 rcases this with h | h
 ·omega
 ·exact h.2
theorem Z5a {call : Ze} {base i : Nat} {o : Oper} {e e2 e' : Env} {σ σ2 σ' : Heap} (hq : quiet o.op = true) (hna : Z1L (Region.before ops) ops i = false) (h : Z00 X call n ops base i o e σ = some (e', σ'))
  (hst : Stable ops e e2) (he : ∀ t ∈ o.looksAt ops, e t = e2 t) (hσ : ∀ k, k < base + ops.size → Alike (σ.ent k) (σ2.ent k)) : σ' = σ ∧ ∃ x, e' = putD n e o.dst x ∧ Z00 X call n ops base i o e2 σ2 = some (putD n e2 o.dst x, σ2) := by
 refine ⟨Z5w hq h, ?_⟩
 have hns := quiet_ask hq h
 have hse := Z4m (ops := ops) he
 unfold Z00 at h
 rw [if_neg hns] at h
 unfold Z07 at h
 split at h
 ·rename_i hw;have hask : ZZ X ops base i o e = true := by
   cases hd : ZZ X ops base i o e with
   | true => rfl
   | false => exact absurd ⟨hw, hd⟩ hns
  have hask0 : ZP X ops base i o e = true := by
   have h1 := hask
   unfold ZZ at h1;rw [hna, Bool.false_or] at h1;exact h1
  simp only [Y2, Y4, Y3] at h;obtain ⟨⟨x, σ1⟩, h1, rfl, rfl⟩ := h
  have hs1 := Z5Y hq h1
  subst hs1;refine ⟨x, rfl, ?_⟩;have h2 := quiet_alike (σ2 := σ2) hq h1 (fun hrw k hk => hσ k (by
   rcases Z2F hrw with h1 | h1
   ·exact ask_lt hask0 h1 hk
   ·have := (quiet_noW hq).1
    rw [Z4K.2 h1] at this;cases this))
  unfold Z00;rw [← Z0B he, ← Z3S hst hse, if_neg (by rw [hask]; simp)]
  unfold Z07;rw [← Z0B he, hw];simp only;rw [← Z2u hse, h2]
  rfl
 ·rename_i hw;cases h;refine ⟨.undef, rfl, ?_⟩;unfold Z00;rw [← Z0B he, if_neg (by rw [hw]; simp)]
  unfold Z07;rw [← Z0B he, hw]
 ·cases h
theorem Z5v {call : Ze} {base i : Nat} {o : Oper} {e e' : Env} {σ σ' : Heap} (c : Zi ops e o = some true ∧ ZZ X ops base i o e = false) (h : Z00 X call n ops base i o e σ = some (e', σ')) :
  Z24 X call ops base i o e σ ∧ ∃ x, e' = putD n e o.dst x ∧ Z3 X call e σ (base + i) o.op = some (x, σ') ∧ ∀ e2, Stable ops e e2 → (∀ t ∈ o.looksAt ops, e t = e2 t) → Z00 X call n ops base i o e2 σ = some (putD n e2 o.dst x, σ') := by
 unfold Z00 at h
 rw [if_pos c] at h
 split at h
 ·rename_i hs;unfold Z07 at h;rw [c.1] at h;simp only [Y2, Y4, Y3] at h;obtain ⟨⟨x, σ1⟩, h1, rfl, rfl⟩ := h
  refine ⟨hs, x, rfl, h1, fun e2 hst he => ?_⟩
  have hse := Z4m (ops := ops) he
  unfold Z00;rw [← Z0B he, ← Z3S hst hse, if_pos c, if_pos ((still_env hse).1 hs)];unfold Z07;rw [← Z0B he, c.1];simp only;rw [← Z2u hse, h1]
  rfl
 ·cases h
theorem Z5G {i j : Nat} {oj : Oper} (h : Z3x ops i = true) (hj : ops[j]? = some oj) (hu : unord (Region.before ops) i j = true) : quiet oj.op = true := by
 unfold Z3x at h
 rw [YF] at h
 have := h j (List.mem_range.2 (Array.getElem?_eq_some_iff.1 hj).1)
 rw [hj, hu] at this
 simpa using this
theorem swap {call : Ze} (hcp : Z1U X call) (hd : Z1f ops = true) {base i j : Nat} {oi oj : Oper} (hi : ops[i]? = some oi) (hj : ops[j]? = some oj) (hlt : j < i)
  (hno : ∀ e ∈ oi.after, Region.binds .any e = true → e.on ≠ j) (hb : ((Region.before ops).getD i 0).testBit j = false)
  {e e1 e2 : Env} {σ σ1 σ2 : Heap} (h1 : Z00 X call n ops base j oj e σ = some (e1, σ1)) (h2 : Z00 X call n ops base i oi e1 σ1 = some (e2, σ2)) :
  ∃ e1' σ1', Z00 X call n ops base i oi e σ = some (e1', σ1') ∧ Z00 X call n ops base j oj e1' σ1' = some (e2, σ2) := by
 obtain ⟨hlex, _, ha⟩ := Z3J hd
 obtain ⟨p1, p2, p3⟩ := Oper.apart_spec (apart_of hlex hi hj hlt hno)
 have hb' : ((Region.before ops).getD j 0).testBit i = false := by
  cases h : ((Region.before ops).getD j 0).testBit i with
  | false => rfl
  | true => have := bits_lt ha j h; omega
 have hu : unord (Region.before ops) i j = true := by
  unfold unord;rw [Nat.max_eq_left (Nat.le_of_lt hlt), Nat.min_eq_right (Nat.le_of_lt hlt), hb]
  simp
  omega
 have hjl := (Array.getElem?_eq_some_iff.1 hj).1
 have hil := (Array.getElem?_eq_some_iff.1 hi).1
 have hdst : ∀ {k : Nat} {o : Oper} {t : Nat}, ops[k]? = some o → (ops.any fun o => o.dst == some t) = false → o.dst ≠ some t := fun {k o t} hk h hh => by
  rw [Array.any_eq_false] at h;obtain ⟨hk1, hk2⟩ := Array.getElem?_eq_some_iff.1 hk
  have := h k hk1
  rw [hk2, hh] at this;simp at this
 have naj := Z60 hil (Z0a hu)
 have nai := Z60 hjl hu
 by_cases cj : Zi ops e oj = some true ∧ ZZ X ops base j oj e = false
 ·obtain ⟨hs, xj, rfl, q1, lj⟩ := Z5v cj h1
  have hqi := Z5G hs.2.1 hi (Z0a hu)
  have st1 : Stable ops (putD n e oj.dst xj) e := fun t ht => Z17 (hdst hj ht)
  have hei : ∀ t ∈ oi.looksAt ops, putD n e oj.dst xj t = e t := fun t ht => Z17 fun hh => p1 t hh ht
  obtain ⟨rfl, xi, rfl, s1⟩ := Z5a hqi nai h2 st1 hei (fun k hk => (hs.2.2 _ _ _ q1 k hk).symm)
  refine ⟨_, _, s1, ?_⟩;rw [lj (putD n e oi.dst xi) (fun t ht => (Z17 (hdst hi ht)).symm) (fun t ht => (Z17 fun hh => p3 t hh ht).symm), Z4n (fun t ht hh => p2 t hh ht)]
 by_cases ci : Zi ops e1 oi = some true ∧ ZZ X ops base i oi e1 = false
 ·obtain ⟨hs, xi, rfl, q1, li⟩ := Z5v ci h2
  have hqj := Z5G hs.2.1 hj hu
  have hσ1 := Z5w hqj h1
  subst hσ1;obtain ⟨xj, δj, rfl, _, _⟩ := Z3R hcp naj cj h1
  have s1 := li e (fun t ht => Z17 (hdst hj ht)) (fun t ht => Z17 fun hh => p1 t hh ht)
  refine ⟨_, _, s1, ?_⟩;obtain ⟨_, x', hx', s2⟩ := Z5a (σ2 := σ2) (e2 := putD n e oi.dst xi) hqj naj h1 (fun t ht => (Z17 (hdst hi ht)).symm) (fun t ht => (Z17 fun hh => p3 t hh ht).symm) (fun k hk => hs.2.2 _ _ _ q1 k hk)
  rw [s2, Z4n (fun t ht hh => p2 t hh ht), ← hx']
 obtain ⟨xj, δj, rfl, rfl, aj, kj, lj⟩ := Z3R hcp naj cj h1
 obtain ⟨xi, δi, rfl, rfl, ai, ki, li⟩ := Z3R hcp nai ci h2
 have st1 : Stable ops (putD n e oj.dst xj) e := fun t ht => Z17 (hdst hj ht)
 have st2 : Stable ops e (putD n e oj.dst xj) := fun t ht => (st1 t ht).symm
 have st3 : Stable ops e (putD n e oi.dst xi) := fun t ht => (Z17 (hdst hi ht)).symm
 have hei : ∀ t ∈ oi.looksAt ops, putD n e oj.dst xj t = e t := fun t ht => Z17 fun hh => p1 t hh ht
 have hej : ∀ t ∈ oj.looksAt ops, e t = putD n e oi.dst xi t := fun t ht => (Z17 fun hh => p3 t hh ht).symm
 have hij : ∀ k en, (k, en) ∈ δj → Zi ops (putD n e oj.dst xj) oi = some true → lookIds X (putD n e oj.dst xj) oi.op k → False := fun k en hk hw hm => by
  obtain ⟨w, hk⟩ := kj k en hk
  exact key_look hd st2 hi hj hu hb (ai hw) (aj w) hk hm
 have hji : ∀ k en, (k, en) ∈ δi → Zi ops e oj = some true → lookIds X e oj.op k → False := fun k en hk hw hm => by
  obtain ⟨w, hk⟩ := ki k en hk
  exact key_look hd st1 hj hi (Z0a hu) hb' (aj hw) (ai w) hk hm
 have s1 := li e σ st1 hei (fun hw k hk => (appl_ne fun k' en hh hke => hij k' en hh hw (hke ▸ hk)).symm)
 have s2 := lj (putD n e oi.dst xi) (appl σ δi) st3 hej (fun hw k hk => appl_ne fun k' en hh hke => hji k' en hh hw (hke ▸ hk))
 refine ⟨_, _, s1, ?_⟩
 rw [s2, Z4n (fun t ht hh => p2 t hh ht), appl_comm]
 intro k en k' en' hk hk' hkk
 subst hkk
 obtain ⟨wi, hki⟩ := ki k en hk
 obtain ⟨wj, hkj⟩ := kj k en' hk'
 rcases hki with hki | ⟨w1, w2⟩ | hf
 ·rcases hkj with hkj | ⟨w3, w4⟩ | hf
  ·omega
  ·exact hji k en hk wj (.inl ⟨isW_isRW w3, w4⟩)
  ·exact hji k en hk wj (.inr hf)
 ·exact hij k en' hk' wi (.inl ⟨isW_isRW w1, w2⟩)
 ·exact hij k en' hk' wi (.inr hf)
noncomputable def runs (X : Ctx) (call : Ze) (n : Nat) (ops : Array Oper) (base : Nat) : List (Nat × Oper) → Env → Heap → Option (Env × Heap)
 | [], e, σ => some (e, σ)
 | (i, o) :: l, e, σ => (Z00 X call n ops base i o e σ).bind fun r => runs X call n ops base l r.1 r.2
theorem Z4c {call : Ze} {base : Nat} : ∀ (l : List Oper) (i : Nat) (e : Env) (σ : Heap), Z0H X call n ops base i l e σ = runs X call n ops base (l.zipIdx i |>.map fun p => (p.2, p.1)) e σ
 | [], _, _, _ => rfl
 | o :: l, i, e, σ => by
  simp only [Z0H, List.zipIdx_cons, Y01, runs]
  congr 1
  funext r
  exact Z4c l (i + 1) r.1 r.2
def Closed (ops : Array Oper) (listed : Array Bool) : Prop := ∀ k, listed.getD k false = true → ∀ j, ((Region.before ops).getD k 0).testBit j = true → listed.getD j false = true
theorem getD_tf {listed : Array Bool} {i : Nat} (h : listed.getD i true = false) : listed.getD i false = false := by
 rcases YZ i listed.size with h' | h'
 ·simpa [Y5, h'] using h
 ·simp [Y5, Yo h']
theorem bubble {call : Ze} (hcp : Z1U X call) (hd : Z1f ops = true) {base i : Nat} {oi : Oper} {post : List (Nat × Oper)} {r : Env × Heap} (hi : ops[i]? = some oi) :
  ∀ (pre : List (Nat × Oper)) (e : Env) (σ : Heap), (∀ p ∈ pre, ops[p.1]? = some p.2 ∧ p.1 < i ∧ (∀ e ∈ oi.after, Region.binds .any e = true → e.on ≠ p.1) ∧ ((Region.before ops).getD i 0).testBit p.1 = false) →
   runs X call n ops base (pre ++ (i, oi) :: post) e σ = some r → runs X call n ops base ((i, oi) :: (pre ++ post)) e σ = some r
 | [], _, _, _, h => h
 | (j, oj) :: pre, e, σ, hp, h => by
  simp only [Y0B, runs, Y2] at h;obtain ⟨⟨e1, σ1⟩, h1, h2⟩ := h
  have := bubble hcp hd hi pre e1 σ1 (fun p hm => hp p (by simp [hm])) h2
  simp only [runs, Y2] at this;obtain ⟨⟨e2, σ2⟩, h3, h4⟩ := this
  obtain ⟨q1, q2, q3, q4⟩ := hp (j, oj) (by simp)
  obtain ⟨e1', σ1', s1, s2⟩ := swap hcp hd hi q1 q2 q3 q4 h1 h3
  simp only [Y0B, runs, s1, s2, Y1];exact h4
theorem Z5D {call : Ze} {base i : Nat} {o : Oper} {e : Env} {σ : Heap} {r : Env × Heap} (h : Z00 X call n ops base i o e σ = some r) : Z07 X call n ops base i o e σ = some r := by
 unfold Z00 at h
 split at h
 ·split at h
  ·exact h
  ·cases h
 ·exact h
variable {Q : Exit → Act → World → Prop} {m : Nat}
theorem draw_any {call : Ze} (hcall : Z1s X call) (htame : Z0R call) (hcp : Z1U X call) (hd : Z1f ops = true) {rd : Option Nat} {base : Nat} {e' : Env} {σ' : Heap} :
  ∀ (len : Nat) (rem : List (Nat × Oper)) (listed : Array Bool) (s : St) (e : Env) (a : Act), rem.length = len → Z04 X s → Inv s → EnvR s n e a →
   listed.size = ops.size → (∀ p ∈ rem, ops[p.1]? = some p.2 ∧ listed.getD p.1 true = false) → (∀ i, i < ops.size → listed.getD i true = false → ∃ p ∈ rem, p.1 = i) →
   rem.Pairwise (fun p q => p.1 < q.1) → Closed ops listed → (∀ p ∈ rem, s.σ.ent (base + p.1) = .none ∧ base + p.1 < s.σ.nx) →
   runs X call n ops base rem e s.σ = some (e', σ') → (∀ a' w' ι', Then s n a e' σ' a' w' ι' → Q .normal a' w') →
   wpAnyIn (Fw rd) m X.P .any ops Q len listed a s.w := by
 obtain ⟨hlex, hww, ha⟩ := Z3J hd
 intro len
 induction len with
 | zero =>
  intro rem listed s e a hl hG hi he hsz hr1 hr2 _ _ _ h hQ;have : rem = [] := List.length_eq_zero_iff.1 hl
  subst this;refine ⟨?_, ?_⟩
  ·refine List.eq_nil_iff_forall_not_mem.2 fun j hj => ?_
   obtain ⟨q1, o, q2, _⟩ := mem_ready.1 hj
   obtain ⟨p, hp, _⟩ := hr2 j (Array.getElem?_eq_some_iff.1 q2).1 q1
   cases hp
  ·simp [runs] at h;obtain ⟨rfl, rfl⟩ := h
   exact hQ a s.w s.ι ⟨hi, Ev.refl s, he, rfl⟩
 | succ len ih =>
  intro rem listed s e a hl hG hi he hsz hr1 hr2 hp hcl hf h hQ;refine ⟨fun h0 => ?_, fun i hir => ?_⟩
  ·exfalso
   cases rem with
   | nil => simp at hl
   | cons p rem =>
    obtain ⟨q1, q2⟩ := hr1 p (by simp)
    have : p.1 ∈ Region.ready .any ops listed := by
     refine mem_ready.2 ⟨q2, p.2, q1, fun e he hb => ?_⟩
     have hlt := ha _ _ q1 e he hb
     cases hc : listed.getD e.on false with
     | true => rfl
     | false =>
      exfalso
      have hes : e.on < ops.size := Nat.lt_trans hlt (Array.getElem?_eq_some_iff.1 q1).1
      have : listed.getD e.on true = false := by
       have h' : e.on < listed.size := by omega
       simpa [Y5, h'] using hc
      obtain ⟨p', hp', he'⟩ := hr2 _ hes this
      rcases List.mem_cons.1 hp' with rfl | hp'
      ·omega
      ·have := List.rel_of_pairwise_cons hp hp'
       omega
    rw [h0] at this;cases this
  ·obtain ⟨q1, oi, q2, q3⟩ := mem_ready.1 hir
   obtain ⟨p, hpm, hpi⟩ := hr2 i (Array.getElem?_eq_some_iff.1 q2).1 q1
   obtain ⟨pre, post, rfl⟩ := List.append_of_mem hpm
   have hpo : p = (i, oi) := by
    obtain ⟨h1, _⟩ := hr1 p hpm
    rw [hpi, q2] at h1;exact Prod.ext hpi (Option.some.inj h1).symm
   subst hpo;have hlast : ∀ p ∈ pre, p.1 < i := fun p hp' => (List.pairwise_append.1 hp).2.2 p hp' (i, oi) (by simp)
   have hbits : ∀ j, ((Region.before ops).getD i 0).testBit j = true → listed.getD j false = true := fun j hj => by
    obtain ⟨ed, he1, he2, he3⟩ := Z5A q2 hj
    have := q3 ed he1 he2
    rcases he3 with rfl | he3
    ·exact this
    ·exact hcl _ this j he3
   have hb := bubble hcp hd q2 pre e s.σ (fun p hp' => by
    obtain ⟨w1, w2⟩ := hr1 p (by simp [hp'])
    have w3 := getD_tf w2
    refine ⟨w1, hlast p hp', fun e he1 he2 he3 => ?_, ?_⟩
    ·have := q3 e he1 he2
     rw [he3, w3] at this;cases this
    ·cases hbb : ((Region.before ops).getD i 0).testBit p.1 with
     | false => rfl
     | true => rw [hbits _ hbb] at w3; cases w3) h
   simp only [runs, Y2] at hb;obtain ⟨⟨e1, σ1⟩, h1, h2⟩ := hb
   have h1 := Z5D h1
   have hT := Z39 htame h1
   obtain ⟨f1, f2⟩ := hf (i, oi) (by simp)
   have hne : ∀ p ∈ pre ++ post, p.1 ≠ i := fun p hp' => by
    rcases List.mem_append.1 hp' with h | h
    ·exact Nat.ne_of_lt (hlast p h)
    ·have := List.rel_of_pairwise_cons ((List.pairwise_append.1 hp).2.1) h
     exact Nat.ne_of_gt this
   have hmem : ∀ p ∈ pre ++ post, p ∈ pre ++ (i, oi) :: post := fun p hp' => by
    rcases List.mem_append.1 hp' with h | h <;> simp [h]
   have := stepO_ok (m := m) (Q := Q) (rd := rd) hcall hG hi he f1 f2 h1 (K := wpAnyIn (Fw rd) m X.P .any ops Q len (listed.setIfInBounds i true)) (fun a1 w1 ι1 ht => by
    refine ih (pre ++ post) _ ⟨w1, s.Y, σ1, ι1⟩ e1 a1 (by simp at hl ⊢; omega) (hG.mono ht.ev) ht.inv ht.env (by simpa using hsz) (fun p hp' => ?_) (fun k hk hkl => ?_) ?_ ?_ (fun p hp' => ?_) h2
     (fun a' w' ι' ht2 => hQ a' w' ι' ⟨ht2.inv, ht.ev.trans ht2.ev, ht2.env, ht2.defers.trans ht.defers⟩)
    ·obtain ⟨w1, w2⟩ := hr1 p (hmem p hp')
     exact ⟨w1, by rw [getD_set_ne true (Ne.symm (hne p hp'))]; exact w2⟩
    ·have hki : k ≠ i := by
      rintro rfl;have : k < listed.size := by omega
      simp [Y5, this] at hkl
     rw [getD_set_ne true (Ne.symm hki)] at hkl;obtain ⟨p, hp1, hp2⟩ := hr2 k hk hkl
     refine ⟨p, ?_, hp2⟩
     rcases List.mem_append.1 hp1 with h | h
     ·exact Yy _ h
     ·rcases List.mem_cons.1 h with rfl | h
      ·exact absurd hp2.symm hki
      ·exact Yv _ h
    ·rw [List.pairwise_append] at hp ⊢;exact ⟨hp.1, (List.pairwise_cons.1 hp.2.1).2, fun a ha b hb => hp.2.2 a ha b (by simp [hb])⟩
    ·intro k hk j hj
     by_cases hki : k = i
     ·subst hki;exact getD_set_true (hbits j hj)
     ·rw [getD_set_ne false (Ne.symm hki)] at hk;exact getD_set_true (hcl k hk j hj)
    ·obtain ⟨g1, g2⟩ := hf p (hmem p hp')
     exact ⟨hT.2 _ g2 (by have := hne p hp'; simp; omega) g1, YJ g2 hT.1⟩)
   unfold wpOpIn;rw [q2];exact this
def St.drawn (s : St) : St := ⟨{ s.w with drawn := s.w.drawn + 1 }, s.Y, s.σ, s.ι⟩
theorem drawn_ev (s : St) : Ev s s.drawn where
 Y := rfl
 size := Y9 _
 keep := fun _ _ _ => rfl
 live := fun id h _ => ⟨id, h, rfl⟩
 blk := fun id el cells lv h => ⟨cells, lv, h, Y9 _, fun _ => ⟨rfl, fun cs e fr h => ⟨cs, fr, h, rfl⟩⟩⟩
 loop := fun id fn e n ps as_ bo st pend h => ⟨⟨st, pend, h⟩, rfl⟩
 map := fun id kv h => ⟨⟨kv, h⟩, rfl⟩
 os := rfl
 tape := rfl
 output := rfl
theorem drawn_inv {s : St} (hi : Inv s) : Inv s.drawn :=
 ⟨fun id => Z64 (drawn_ev s) rfl rfl (hi.ent id), hi.inj, hi.notY, fun id el c h => ((drawn_ev s).imm _ (hi.fz id el c h)).1, hi.nx, hi.Ylt⟩
theorem draw_ok {s : St} {e : Env} {a : Act} {call : Ze} (hm : X.P.follows .mixedOrders = true) (hcall : Z1s X call) (htame : Z0R call) (hcp : Z1U X call) {rd : Option Nat} {id : Nat} {e' : Env} {σ' : Heap} (hd : Z1f ops = true) (hG : Z04 X s) (hi : Inv s) (he : EnvR s n e a)
  (h : Z0H X call n ops s.σ.nx 0 ops.toList e ⟨s.σ.nx + ops.size, s.σ.ent⟩ = some (e', σ')) (hQ : ∀ a' w' ι', Then s n a e' σ' a' w' ι' → Q .normal a' w') :
  (Code.region id ops true).wpIn (Fw rd) m X.P Q a s.w := by
 refine wpIn_region_any hm ?_
 have ev : Ev s (s.more ops.size).drawn := (Z1y _).trans (drawn_ev _)
 rw [Z4c] at h
 have := draw_any (m := m) (Q := Q) (rd := rd) hcall htame hcp hd (base := s.σ.nx) ops.size (ops.toList.zipIdx 0 |>.map fun p => (p.2, p.1)) (Array.replicate ops.size false) (s.more ops.size).drawn e a (by simp)
  (hG.mono ev) (drawn_inv (Z4D hi _)) (he.mono ev) (by simp)
  (fun p hp => by
   obtain ⟨q, hq, rfl⟩ := List.mem_map.1 hp
   have hq := List.mem_zipIdx_iff_getElem?.1 hq
   have hlt : q.2 < ops.size := by
    have := (List.getElem?_eq_some_iff.1 hq).1
    simpa using this
   exact ⟨by simpa using hq, by simp [Y5, hlt]⟩)
  (fun i hi _ => ⟨(i, ops[i]), List.mem_map.2 ⟨(ops[i], i), List.mem_zipIdx_iff_getElem?.2 (by simp [hi]), rfl⟩, rfl⟩)
  (by
   rw [List.pairwise_map];have key : ∀ (l : List Oper) (k : Nat), (l.zipIdx k).Pairwise (fun p q => p.2 < q.2) := by
    intro l
    induction l with
    | nil => intro k; simp
    | cons o l ih =>
     intro k;rw [List.zipIdx_cons, List.pairwise_cons];refine ⟨fun p hp => ?_, ih _⟩
     have := List.le_snd_of_mem_zipIdx hp
     simp only;omega
   exact key _ _)
  (fun k hk => by
   exfalso
   simp only [Y5] at hk
   rcases YZ k ops.size with h | h
   ·simp [h] at hk
   ·rw [Yo (by simpa using h)] at hk; cases hk)
  (fun p hp => by
   obtain ⟨q, hq, rfl⟩ := List.mem_map.1 hp
   have hq := List.mem_zipIdx_iff_getElem?.1 hq
   have hlt : q.2 < ops.size := by
    have := (List.getElem?_eq_some_iff.1 hq).1
    simpa using this
   exact ⟨hi.nx _ (by simp only; omega), by simp only [St.drawn, St.more]; omega⟩)
  h (fun a' w' ι' ht => hQ a' w' ι' ⟨ht.inv, ev.trans ht.ev, ht.env, ht.defers⟩)
 exact this
end
end Go.Dn

namespace Go.Dn
open Go
structure LPut (s : St) (id : Nat) (fn : FuncId) (e : Env) (n : Nat) (ps : List Nat) (as_ bo : Code) (st : LoopState) (pend : Option Code) (g : Nat) (w' : World) : Prop where
 old : (s.σ.ent id = .none ∧ s.w.heap.size ≤ g) ∨ ((∃ st0 pend0, s.σ.ent id = .loop fn e n ps as_ bo st0 pend0) ∧ g = s.ι id)
 size : s.w.heap.size ≤ w'.heap.size
 others : ∀ b, b < s.w.heap.size → b ≠ g → w'.heap[b]? = s.w.heap[b]?
 here : ∃ fn' tmps defers, w'.heap[g]? = some (.loop { state := st, pending := pend, fn := fn', tmps := tmps, params := ps.toArray, assign := as_, body := bo, defers := defers }) ∧
  tmps.size = n ∧ ∀ t, PVR s (e t) (tmps.getD t Go.undef)
 nx : id < s.σ.nx
 os : w'.os = s.w.os
 tape : w'.tape = s.w.tape
 output : w'.output = s.w.output
def St.lput (s : St) (id : Nat) (en : Ent) (g : Nat) (w' : World) : St := ⟨w', s.Y, s.σ.put id en, upd s.ι id g⟩
section
variable {s : St} {id : Nat} {fn : FuncId} {e : Env} {n : Nat} {ps : List Nat} {as_ bo : Code} {st : LoopState} {pend : Option Code} {g : Nat} {w' : World}
theorem LPut.old_rec (hi : Inv s) {st0 : LoopState} {pend0 : Option Code} (h : s.σ.ent id = .loop fn e n ps as_ bo st0 pend0) : ∃ fn' tmps defers, s.w.heap[s.ι id]? = some (.loop { state := st0, pending := pend0, fn := fn', tmps := tmps, params := ps.toArray, assign := as_, body := bo, defers := defers }) ∧
  tmps.size = n ∧ ∀ t, PVR s (e t) (tmps.getD t Go.undef) := by
 have := hi.ent id
 rw [h] at this
 exact this
theorem LPut.ne (hi : Inv s) (h : LPut s id fn e n ps as_ bo st pend g w') {id' : Nat} (hne : id' ≠ id) (hl : Live s.σ id') : s.ι id' ≠ g := by
 intro e
 rcases h.old with ⟨_, hp⟩ | ⟨⟨s0, p0, ho⟩, hp⟩
 ·have := hl.lt hi; omega
 ·exact hne (hi.inj id' id hl (.inr (.inl ⟨_, _, _, _, _, _, _, _, ho⟩)) (e.trans hp))
theorem LPut.blk_ne (hi : Inv s) (h : LPut s id fn e n ps as_ bo st pend g w') {b : Nat} {cs : Array Value} {el : TypeId} {fr : Nat × Nat} (hb : s.w.heap[b]? = some (.cells cs el fr)) : b ≠ g := by
 intro hg
 subst hg
 rcases h.old with ⟨_, hp⟩ | ⟨⟨s0, p0, ho⟩, hp⟩
 ·have := (Array.getElem?_eq_some_iff.1 hb).1; omega
 ·obtain ⟨f, t, d, q, _⟩ := LPut.old_rec hi ho
  rw [← hp, hb] at q;cases q
theorem LPut.ev (hi : Inv s) (h : LPut s id fn e n ps as_ bo st pend g w') : Ev s (s.lput id (.loop fn e n ps as_ bo st pend) g w') where
 Y := rfl
 size := h.size
 keep := fun b hb hl => by
  refine h.others b hb fun e => ?_
  rcases h.old with ⟨_, hp⟩ | ⟨⟨s0, p0, ho⟩, hp⟩
  ·omega
  ·exact hl id (.inr (.inl ⟨_, _, _, _, _, _, _, _, ho⟩)) (by rw [e, hp])
 live := fun id' hid hlt => by
  by_cases e : id' = id
  ·subst e;simp only [St.lput, Z6] at hlt ⊢
   rcases h.old with ⟨_, hp⟩ | ⟨⟨s0, p0, ho⟩, hp⟩
   ·omega
   ·exact ⟨id', .inr (.inl ⟨_, _, _, _, _, _, _, _, ho⟩), hp.symm⟩
  ·simp only [St.lput, ZC _ _ e] at hlt ⊢;exact ⟨id', (Zx e).1 hid, rfl⟩
 blk := fun id' el' cells lv hb => by
  have e : id' ≠ id := by
   rintro rfl
   rcases h.old with ⟨ho, _⟩ | ⟨⟨s0, p0, ho⟩, _⟩ <;> rw [ho] at hb <;> cases hb
  refine ⟨cells, lv, by simp [St.lput, Heap.put, ZC _ _ e, hb], Y9 _, fun _ => ⟨by simp [St.lput, ZC _ _ e], fun cs e' fr hcs => ?_⟩⟩
  refine ⟨cs, fr, ?_, rfl⟩;rw [← hcs];exact h.others _ (Array.getElem?_eq_some_iff.1 hcs).1 (h.blk_ne hi hcs)
 loop := fun id' fn' e1 n' ps' as' bo' st' pend' hl => by
  by_cases e' : id' = id
  ·subst e'
   rcases h.old with ⟨ho, _⟩ | ⟨⟨s0, p0, ho⟩, hp⟩
   ·rw [ho] at hl; cases hl
   ·rw [ho] at hl; cases hl;exact ⟨⟨st, pend, by simp [St.lput, Heap.put, Z6]⟩, by simp [St.lput, Z6, hp]⟩
  ·exact ⟨⟨st', pend', by simp [St.lput, Heap.put, ZC _ _ e', hl]⟩, by simp [St.lput, ZC _ _ e']⟩
 map := fun id' kv hl => by
  have e' : id' ≠ id := by
   rintro rfl
   rcases h.old with ⟨ho, _⟩ | ⟨⟨s0, p0, ho⟩, hp⟩ <;> rw [ho] at hl <;> cases hl
  exact ⟨⟨kv, by simp [St.lput, Heap.put, ZC _ _ e', hl]⟩, by simp [St.lput, ZC _ _ e']⟩
 os := h.os
 tape := h.tape
 output := h.output
theorem LPut.inv (hi : Inv s) (h : LPut s id fn e n ps as_ bo st pend g w') : Inv (s.lput id (.loop fn e n ps as_ bo st pend) g w') := by
 have hev := h.ev hi
 have hsame : (s.lput id (.loop fn e n ps as_ bo st pend) g w').σ.ent id = .loop fn e n ps as_ bo st pend := by simp [St.lput, Heap.put, Z6]
 refine ⟨fun id' => ?_, fun id1 id2 h1 h2 he => ?_, fun id' hl => ?_, fun id' el' c hb => ?_, fun id' hn => ?_, fun b hb => YJ (hi.Ylt b hb) h.size⟩
 ·by_cases e1 : id' = id
  ·subst e1;rw [hsame];obtain ⟨f, t, d, q1, q2, q3⟩ := h.here
   exact ⟨f, t, d, by simp only [St.lput, Z6]; exact q1, q2, fun k => hev.pvr (q3 k)⟩
  ·have h1 : (s.lput id (.loop fn e n ps as_ bo st pend) g w').σ.ent id' = s.σ.ent id' := by simp [St.lput, Heap.put, ZC _ _ e1]
   have h2 : (s.lput id (.loop fn e n ps as_ bo st pend) g w').ι id' = s.ι id' := by simp [St.lput, ZC _ _ e1]
   rw [h1];have he := hi.ent id'
   cases hent : s.σ.ent id' with
   | none => trivial
   | blk el' c lv =>
    rw [hent] at he;obtain ⟨cs, fr, q1, q2, q3, q4⟩ := he
    refine ⟨cs, fr, ?_, q2, q3, fun j x hj => ?_⟩
    ·rw [h2, ← q1];exact h.others _ (Array.getElem?_eq_some_iff.1 q1).1 (h.blk_ne hi q1)
    ·obtain ⟨u, hu, hp, ho⟩ := q4 j x hj
     exact ⟨u, hu, hev.pvr hp, ho⟩
   | loop fn' e' n' ps' as' bo' st' pend' =>
    rw [hent] at he;obtain ⟨fn2, tmps, defers, q1, q2, q3⟩ := he
    refine ⟨fn2, tmps, defers, ?_, q2, fun t => hev.pvr (q3 t)⟩
    rw [h2, ← q1];exact h.others _ (Array.getElem?_eq_some_iff.1 q1).1 (h.ne hi e1 (.inr (.inl ⟨_, _, _, _, _, _, _, _, hent⟩)))
   | map kv =>
    rw [hent] at he
    show w'.heap[_]? = _
    rw [h2, ← he];exact h.others _ (Array.getElem?_eq_some_iff.1 he).1 (h.ne hi e1 (.inr (.inr ⟨_, hent⟩)))
 ·by_cases e1 : id1 = id <;> by_cases e2 : id2 = id
  ·rw [e1, e2]
  ·subst e1;simp only [St.lput, Z6, ZC _ _ e2] at he;exact absurd he.symm (h.ne hi e2 ((Zx e2).1 h2))
  ·subst e2;simp only [St.lput, Z6, ZC _ _ e1] at he;exact absurd he (h.ne hi e1 ((Zx e1).1 h1))
  ·simp only [St.lput, ZC _ _ e1, ZC _ _ e2] at he;exact hi.inj id1 id2 ((Zx e1).1 h1) ((Zx e2).1 h2) he
 ·by_cases e1 : id' = id
  ·subst e1;simp only [St.lput, Z6];intro hy
   rcases h.old with ⟨_, hp⟩ | ⟨⟨s0, p0, ho⟩, hp⟩
   ·have := hi.Ylt _ hy; omega
   ·rw [hp] at hy; exact hi.notY id' (.inr (.inl ⟨_, _, _, _, _, _, _, _, ho⟩)) hy
  ·simp only [St.lput, ZC _ _ e1];exact hi.notY id' ((Zx e1).1 hl)
 ·by_cases e1 : id' = id
  ·subst e1;rw [hsame] at hb; cases hb
  ·have hb' : s.σ.ent id' = .blk el' c false := by simpa [St.lput, Heap.put, ZC _ _ e1] using hb
   have : (s.lput id (.loop fn e n ps as_ bo st pend) g w').ι id' = s.ι id' := by simp [St.lput, ZC _ _ e1]
   rw [this];exact (hev.imm _ (hi.fz id' el' c hb')).1
 ·have hne : id' ≠ id := by
   intro e; subst e;have := h.nx
   simp only [St.lput, Heap.put] at hn;omega
  simp only [St.lput, Heap.put, ZC _ _ hne];exact hi.nx id' hn
end
def St.push (s : St) (o : Obj) : St := ⟨s.w.alloc o, s.Y, s.σ, s.ι⟩
theorem Z1g {w : World} {o : Obj} {b : Nat} (h : b < w.heap.size) : (w.alloc o).heap[b]? = w.heap[b]? := by
 show (w.heap.push o)[b]? = _
 rw [Array.getElem?_push]
 rw [if_neg (by omega)]
theorem Z2g (w : World) (o : Obj) : (w.alloc o).heap.size = w.heap.size + 1 := by
 show (w.heap.push o).size = _
 simp
theorem push_ev (s : St) (o : Obj) : Ev s (s.push o) where
 Y := rfl
 size := by rw [St.push, Z2g]; exact Nat.le_succ _
 keep := fun b hb _ => Z1g hb
 live := fun id h _ => ⟨id, h, rfl⟩
 blk := fun id el cells lv h => ⟨cells, lv, h, Y9 _, fun _ => ⟨rfl, fun cs e fr h => ⟨cs, fr, by rw [← h]; exact Z1g (Array.getElem?_eq_some_iff.1 h).1, rfl⟩⟩⟩
 loop := fun id fn e n ps as_ bo st pend h => ⟨⟨st, pend, h⟩, rfl⟩
 map := fun id kv h => ⟨⟨kv, h⟩, rfl⟩
 os := rfl
 tape := rfl
 output := rfl
theorem push_inv {s : St} (hi : Inv s) (o : Obj) : Inv (s.push o) := by
 have hev := push_ev s o
 refine ⟨fun id => ?_, hi.inj, hi.notY, fun id el c h => (hev.imm _ (hi.fz id el c h)).1, hi.nx, fun b hb => YJ (hi.Ylt b hb) hev.size⟩
 have he := hi.ent id
 change EntOK _ id (s.σ.ent id)
 cases hent : s.σ.ent id with
 | none => trivial
 | blk el' c lv =>
  rw [hent] at he;obtain ⟨cs, fr, q1, q2, q3, q4⟩ := he
  exact ⟨cs, fr, (Z1g (Array.getElem?_eq_some_iff.1 q1).1).trans q1, q2, q3, fun j x hj => by
   obtain ⟨u, hu, hp, ho⟩ := q4 j x hj
   exact ⟨u, hu, hev.pvr hp, ho⟩⟩
 | loop fn' e' n' ps' as' bo' st' pend' =>
  rw [hent] at he;obtain ⟨fn2, tmps, defers, q1, q2, q3⟩ := he
  exact ⟨fn2, tmps, defers, (Z1g (Array.getElem?_eq_some_iff.1 q1).1).trans q1, q2, fun t => hev.pvr (q3 t)⟩
 | map kv => rw [hent] at he; exact (Z1g (Array.getElem?_eq_some_iff.1 he).1).trans he
def mark (r : Nat) : Deferred := { target := .collected r, args := #[] }
def Marks (s : St) (n0 : Nat) (ms : List Nat) : Prop := ms.Nodup ∧ ∀ r ∈ ms, n0 ≤ r ∧ s.imm r ∧ s.w.heap[r]? = some (.deferred (some []))
theorem Marks.nil (s : St) (n0 : Nat) : Marks s n0 [] := ⟨List.nodup_nil, fun r h => by cases h⟩
theorem Marks.mono {s s' : St} {n0 : Nat} {ms : List Nat} (h : Marks s n0 ms) (hev : Ev s s') : Marks s' n0 ms :=
 ⟨h.1, fun r hr => by
  obtain ⟨h1, h2, h3⟩ := h.2 r hr
  obtain ⟨h4, h5⟩ := hev.imm r h2
  exact ⟨h1, h4, h5.trans h3⟩⟩
theorem Marks.append {s s' : St} {n0 : Nat} {ms ms' : List Nat} (h : Marks s n0 ms) (hev : Ev s s') (h' : Marks s' s.w.heap.size ms') (hle : n0 ≤ s.w.heap.size) : Marks s' n0 (ms' ++ ms) := by
 have h1 := h.mono hev
 refine ⟨List.nodup_append.2 ⟨h'.1, h.1, fun r hr r' hr' e => ?_⟩, fun r hr => ?_⟩
 ·subst e;have := (h'.2 r hr).1
  have := (h.2 r hr').2.1.1
  omega
 ·rcases List.mem_append.1 hr with hr | hr
  ·obtain ⟨q1, q2⟩ := h'.2 r hr
   exact ⟨YX hle q1, q2⟩
  ·exact h1.2 r hr
structure Aft (s : St) (n : Nat) (a : Act) (e' : Env) (σ' : Heap) (a' : Act) (w' : World) (ι' : Nat → Nat) : Prop where
 inv : Inv ⟨w', s.Y, σ', ι'⟩
 ev : Ev s ⟨w', s.Y, σ', ι'⟩
 env : EnvR ⟨w', s.Y, σ', ι'⟩ n e' a'
 marks : ∃ ms, a'.defers = ms.map mark ++ a.defers ∧ Marks ⟨w', s.Y, σ', ι'⟩ s.w.heap.size ms
theorem Then.aft {s : St} {n : Nat} {a : Act} {e' : Env} {σ' : Heap} {a' : Act} {w' : World} {ι' : Nat → Nat} (h : Then s n a e' σ' a' w' ι') : Aft s n a e' σ' a' w' ι' :=
 ⟨h.inv, h.ev, h.env, [], by simp [h.defers], Marks.nil _ _⟩
theorem Aft.refl {s : St} {n : Nat} {e : Env} {a : Act} (hi : Inv s) (he : EnvR s n e a) : Aft s n a e s.σ a s.w s.ι :=
 ⟨hi, Ev.refl s, he, [], rfl, Marks.nil _ _⟩
theorem Aft.trans {s : St} {n : Nat} {a : Act} {e1 e2 : Env} {σ1 σ2 : Heap} {a1 a2 : Act} {w1 w2 : World} {ι1 ι2 : Nat → Nat}
  (h : Aft s n a e1 σ1 a1 w1 ι1) (h' : Aft ⟨w1, s.Y, σ1, ι1⟩ n a1 e2 σ2 a2 w2 ι2) : Aft s n a e2 σ2 a2 w2 ι2 := by
 obtain ⟨ms, q1, q2⟩ := h.marks
 obtain ⟨ms', q1', q2'⟩ := h'.marks
 exact ⟨h'.inv, h.ev.trans h'.ev, h'.env, ms' ++ ms, by rw [q1', q1, Y05, Yn], q2.append h'.ev q2' h.ev.size⟩
def Ex.out : Ex → Exit
 | .normal => .normal
 | .exit id => .exit id
 | .ret => .ret
def RdOK (rd : Option Nat) (s : St) : Prop := ∀ l, rd = some l → ∃ id, s.σ.isLoop id ∧ s.ι id = l
theorem RdOK.mono {rd : Option Nat} {s s' : St} (h : RdOK rd s) (hev : Ev s s') : RdOK rd s' := fun l hl => by
 obtain ⟨id, ⟨fn, e, n, ps, as_, bo, st, pend, h1⟩, h2⟩ := h l hl
 obtain ⟨⟨st', pend', h3⟩, h4⟩ := hev.loop _ _ _ _ _ _ _ _ _ h1
 exact ⟨id, ⟨_, _, _, _, _, _, _, _, h3⟩, h4.trans h2⟩
variable {X : Ctx} {n : Nat}
theorem enter_ok {s : St} {e : Env} {a : Act} {rd : Option Nat} (hi : Inv s) (he : EnvR s n e a) (hrd : RdOK rd s) (fn fn0 : FuncId) (ps : Array Nat) (as_ bo : Code) :
  ∃ l ms w1 ι1, (Instr.enterLoop fn0 a.tmps ps as_ bo rd).run X.P s.w = .ok (l, ms.map mark) w1 ∧
   Inv ⟨w1, s.Y, ⟨s.σ.nx + 1, upd s.σ.ent s.σ.nx (.loop fn e n ps.toList as_ bo .ready none)⟩, ι1⟩ ∧
   Ev s ⟨w1, s.Y, ⟨s.σ.nx + 1, upd s.σ.ent s.σ.nx (.loop fn e n ps.toList as_ bo .ready none)⟩, ι1⟩ ∧ ι1 s.σ.nx = l ∧
   Marks ⟨w1, s.Y, ⟨s.σ.nx + 1, upd s.σ.ent s.σ.nx (.loop fn e n ps.toList as_ bo .ready none)⟩, ι1⟩ s.w.heap.size ms := by
 cases rd with
 | none =>
  have ev0 : Ev s ((s.push (.deferred (some []))).more 1) := (push_ev _ _).trans (Z1y _)
  have i0 := Z4D (push_inv hi (.deferred (some []))) 1
  have hp : LPut ((s.push (.deferred (some []))).more 1) s.σ.nx fn e n ps.toList as_ bo .ready none (s.w.heap.size + 1)
    ((s.w.alloc (.deferred (some []))).alloc (.loop { state := .ready, pending := none, fn := fn0, tmps := a.tmps, params := ps, assign := as_, body := bo, defers := s.w.heap.size })) := by
   refine ⟨.inl ⟨hi.nx _ (Y9 _), by simp only [St.push, St.more, Z2g]; exact Y9 _⟩, by simp only [St.push, St.more, Z2g]; omega, fun b hb _ => Z1g hb, ⟨fn0, a.tmps, s.w.heap.size, ?_, he.1, fun t => ev0.pvr (he.2 t)⟩, Nat.lt_succ_self _, rfl, rfl, rfl⟩
   have := World.alloc_heap_new (s.w.alloc (.deferred (some []))) (.loop { state := .ready, pending := none, fn := fn0, tmps := a.tmps, params := ps, assign := as_, body := bo, defers := s.w.heap.size })
   rw [Z2g] at this;exact this
  have hev := hp.ev i0
  refine ⟨s.w.heap.size + 1, [s.w.heap.size], _, _, run_enterLoop_outer _ _ _ _ _, hp.inv i0, ev0.trans hev, Z6 _ _ _, ?_⟩;have m0 : Marks ((s.push (.deferred (some []))).more 1) s.w.heap.size [s.w.heap.size] := by
   refine ⟨by simp, fun r hr => ?_⟩
   simp only [YW] at hr;subst hr;refine ⟨Y9 _, ⟨by simp only [St.push, St.more, Z2g]; omega, fun hy => ?_, fun id hl hh => ?_⟩, World.alloc_heap_new _ _⟩
   ·exact Nat.lt_irrefl _ (hi.Ylt _ hy)
   ·have := hl.lt hi
    simp only [St.more, St.push] at hh;omega
  exact m0.mono hev
 | some l0 =>
  obtain ⟨id0, ⟨f1, e1, n1, ps1, as1, bo1, st1, pend1, h1⟩, h2⟩ := hrd l0 rfl
  have h3 := hi.ent id0
  rw [h1] at h3;obtain ⟨f2, tm, df, h4, _⟩ := h3
  rw [h2] at h4;have i0 := Z4D hi 1
  have hp : LPut (s.more 1) s.σ.nx fn e n ps.toList as_ bo .ready none s.w.heap.size
    (s.w.alloc (.loop { state := .ready, pending := none, fn := fn0, tmps := a.tmps, params := ps, assign := as_, body := bo, defers := df })) := by
   refine ⟨.inl ⟨hi.nx _ (Y9 _), Y9 _⟩, by simp only [St.more, Z2g]; omega, fun b hb _ => Z1g hb, ⟨fn0, a.tmps, df, World.alloc_heap_new _ _, he.1, fun t => (Z1y 1).pvr (he.2 t)⟩, Nat.lt_succ_self _, rfl, rfl, rfl⟩
  have hev := hp.ev i0
  refine ⟨s.w.heap.size, [], _, _, ?_, hp.inv i0, (Z1y 1).trans hev, Z6 _ _ _, Marks.nil _ _⟩;unfold Instr.enterLoop;simp only [Sem.run_bind, run_getLoop h4, run_newObj_alloc, Result.andThen, Sem.run_pure, List.map_nil]
theorem range_resolve {a : Act} {g : Operand} {l : Nat} {f : FuncId} {fv cv : Array Value} (h : a.eval g = .func (.func f) fv cv) :
  resolve a.eval (rangeCall g l) 0 = pure { target := .fn (.func f) cv, args := fv ++ #[.func (.yield l) #[] #[]] } := by
 simp only [resolve, rangeCall, h, Deferred.ofValue]
 simp [Act.eval]
variable {Q : Exit → Act → World → Prop} {m : Nat}
theorem range_ok {call : Ze} (hcall : Z1s X call) {s : St} {e : Env} {a : Act} {rd : Option Nat} {fn : FuncId} {lf : Nat} {g : Operand} {ps : Array Nat} {as_ bo : Code} {x : Ex} {e' : Env} {σ' : Heap}
  (hG : Z04 X s) (hi : Inv s) (he : EnvR s n e a) (hrd : RdOK rd s) (h : Z4 X call lf n fn (.rangeFunc g ps as_ bo) e s.σ = some (x, e', σ'))
  (hQ : ∀ a' w' ι', Aft s n a e' σ' a' w' ι' → Q x.out a' w') : (Code.rangeFunc g ps as_ bo).wpIn (Fw rd) m X.P Q a s.w := by
 refine wpIn_rangeFunc fun fn0 _ => ?_
 obtain ⟨l, ms, w1, ι1, hent, i1, ev1, hl, hms⟩ := enter_ok (X := X) hi he hrd fn fn0 ps as_ bo
 simp only [Z4] at h
 split at h
 ·rename_i gv hg;have hgv := Z2 hG he hg
  have key : ∀ f (first caps : List PV) fv cv, a.eval g = .func (.func f) fv cv → PVRs s first fv → PVRs s caps cv →
    (∃ r σ2, call (.fn f) (first ++ [PV.yld s.σ.nx] ++ caps) ⟨s.σ.nx + 1, upd s.σ.ent s.σ.nx (.loop fn e n ps.toList as_ bo .ready none)⟩ = some (r, σ2) ∧
     ∃ fn' e2 n' ps' as' bo' st pend, σ2.ent s.σ.nx = .loop fn' e2 n' ps' as' bo' st pend ∧ st ≠ .busy ∧ jumpD pend = some x ∧ e' = e ∧ σ' = σ2.put s.σ.nx (.loop fn' e2 n' ps' as' bo' .exhausted pend)) →
    ∃ (l : Nat) (mark : List Deferred) (w₁ : World) (d : Deferred) (w₁' : World) (f : FuncId) (args : Array Value) (w₂ : World),
     (Instr.enterLoop fn0 a.tmps ps as_ bo (Fw rd).round).run X.P s.w = .ok (l, mark) w₁ ∧
     (resolve a.eval (rangeCall g l) 0).run X.P w₁ = .ok d w₁' ∧
     (∀ f', Target.leads X.P w₁' d.target d.args = some f' → (Fw rd).fn f') ∧
     (invoke d.target d.args).run X.P w₁' = .ok (.enter f args) w₂ ∧
     ((Fw rd).depth.isSome = true → 1 ≤ m) ∧
     CallsIn (Fw rd) (m - 1) X.P f args w₂ (rangePost (Fw rd) m X.P l Q { a with defers := mark ++ a.defers }) := by
   rintro f first caps fv cv hev hf hc ⟨r, σ2, hr, fn', e2, n', ps', as', bo', st, pend, hen, hst, hj, rfl, rfl⟩;have hy : PVR ⟨w1, s.Y, ⟨s.σ.nx + 1, upd s.σ.ent s.σ.nx (.loop fn e' n ps.toList as_ bo .ready none)⟩, ι1⟩ (.yld s.σ.nx) (.func (.yield l) #[] #[]) := by
    rw [← hl];exact .yld (s := ⟨w1, s.Y, ⟨s.σ.nx + 1, upd s.σ.ent s.σ.nx (.loop fn e' n ps.toList as_ bo .ready none)⟩, ι1⟩) ⟨_, _, _, _, _, _, _, _, Z6 _ _ _⟩
   have hys : PVRs ⟨w1, s.Y, ⟨s.σ.nx + 1, upd s.σ.ent s.σ.nx (.loop fn e' n ps.toList as_ bo .ready none)⟩, ι1⟩ [.yld s.σ.nx] #[.func (.yield l) #[] #[]] :=
    ⟨rfl, fun i y hi => by
     cases i with
     | zero => simp at hi; subst hi; exact hy
     | succ i => simp at hi⟩
   obtain ⟨h1, h2⟩ := hcall (.fn f) _ r σ2 ⟨w1, s.Y, _, ι1⟩ hr i1 (hG.mono ev1) (fv ++ #[.func (.yield l) #[] #[]] ++ cv) (Z2M (Z2M (hf.mono ev1) hys) (hc.mono ev1))
   refine ⟨l, ms.map mark, w1, _, w1, f, fv ++ #[.func (.yield l) #[] #[]] ++ cv, w1, hent, by rw [range_resolve hev, Sem.run_pure], fun _ _ => trivial, ?_, Z4h rd m, ?_⟩
   ·simp only [invoke];exact h1
   ·refine (Calls.wide rd h2 (m - 1)).mono fun en w3 hh => ?_
    obtain ⟨v, rfl, ι2, i3, ev3, _⟩ := hh
    have e3 := i3.ent s.σ.nx
    rw [hen] at e3;obtain ⟨fn2, tm, df, q1, q2, q3⟩ := e3
    obtain ⟨⟨_, _, hlo⟩, hι⟩ := ev3.loop s.σ.nx _ _ _ _ _ _ _ _ (Z6 _ _ _)
    simp only at hlo hι;rw [hen] at hlo
    injection hlo with a1 a2 a3 a4 a5 a6 a7 a8
    have hl2 : ι2 s.σ.nx = l := hι.trans hl
    simp only [hl2] at q1;have hp : LPut ⟨w3, s.Y, σ2, ι2⟩ s.σ.nx fn' e2 n' ps' as' bo' .exhausted pend l (w3.putObj l (.loop { state := .exhausted, pending := pend, fn := fn2, tmps := tm, params := ps'.toArray, assign := as', body := bo', defers := df })) := by
     refine ⟨.inr ⟨⟨st, pend, hen⟩, hl2.symm⟩, by simp, fun b _ hb => World.putObj_heap_other hb, ⟨fn2, tm, df, World.putObj_heap_same (Array.getElem?_eq_some_iff.1 q1).1, q2, q3⟩, ?_, rfl, rfl, rfl⟩
     rcases YZ s.σ.nx σ2.nx with h | h
     ·exact h
     ·have := i3.nx _ h
      simp only at this;rw [hen] at this;cases this
    have i4 := hp.inv i3
    have ev4 := (ev1.trans ev3).trans (hp.ev i3)
    have hQ' := hQ { a with defers := ms.map mark ++ a.defers } _ _ ⟨i4, ev4, (he.mono ev4), ms, rfl, (hms.mono ev3).mono (hp.ev i3)⟩
    refine ⟨pend, _, run_endLoop q1 hst, ?_⟩;cases pend with
    | none =>
     simp only [jumpD, Y4] at hj;subst hj;exact hQ'
    | some c =>
     cases c <;> simp only [jumpD, Y4] at hj <;> (try (cases hj; done))
     ·subst hj;exact wpIn_exit hQ'
     ·subst hj;exact wpIn_ret hQ'
  have fin : ∀ (r : Option (PV × Heap)), (match r with
    | some (_, σ2) =>
     match σ2.ent s.σ.nx with
     | .loop fn' e' n' ps' as' bo' st pend =>
      if st = LoopState.busy then none else
      match jumpD pend with
      | some x => some (x, e, σ2.put s.σ.nx (.loop fn' e' n' ps' as' bo' .exhausted pend))
      | none => none
     | _ => none
    | none => none) = some (x, e', σ') → ∃ q σ2, r = some (q, σ2) ∧ ∃ fn' e2 n' ps' as' bo' st pend, σ2.ent s.σ.nx = .loop fn' e2 n' ps' as' bo' st pend ∧ st ≠ .busy ∧ jumpD pend = some x ∧ e' = e ∧ σ' = σ2.put s.σ.nx (.loop fn' e2 n' ps' as' bo' .exhausted pend) := by
   intro r hr
   split at hr
   ·rename_i q σ2
    split at hr
    ·rename_i fn' e2 n' ps' as' bo' st pend hen
     split at hr
     ·cases hr
     ·rename_i hst
      split at hr
      ·rename_i x' hj;simp only [Y4, Y3] at hr;obtain ⟨rfl, rfl, rfl⟩ := hr
       exact ⟨q, σ2, rfl, fn', e2, n', ps', as', bo', st, pend, hen, hst, hj, rfl, rfl⟩
      ·cases hr
    ·cases hr
   ·cases hr
  cases gv with
  | v y =>
   cases y with
   | fn f =>
    have hfv := fn_inv hgv
    obtain ⟨q, σ2, h1, h2⟩ := fin _ h
    exact key f [] [] #[] #[] hfv ⟨rfl, fun i y hi => by simp at hi⟩ ⟨rfl, fun i y hi => by simp at hi⟩ ⟨q, σ2, h1, h2⟩
   | _ => simp at h
  | clo f first caps =>
   obtain ⟨fv, cv, hfv, hf1, hf2⟩ := clo_inv hgv
   obtain ⟨q, σ2, h1, h2⟩ := fin _ h
   exact key f first caps fv cv hfv hf1 hf2 ⟨q, σ2, h1, h2⟩
  | _ => simp at h
 ·cases h
theorem Z1E {P : Program} {b : Frame} {a : Act} {k : List Item} {cs : List Frame} {w : World} {c : Code} : step P (lone (b.atR a (.code (.scope c) :: k)) cs w) = .next (lone (b.atR a (.code c :: .inScope c :: k)) cs w) :=
 step_lone_go (by simp [stepG, stepG.exec, Frame.atR])
theorem stepR_inScope {P : Program} {b : Frame} {a : Act} {k : List Item} {cs : List Frame} {w : World} {c : Code} : step P (lone (b.atR a (.inScope c :: k)) cs w) = .next (lone (b.atR a k) cs w) :=
 step_lone_go (by simp [stepG, stepG.exec, Frame.atR])
theorem wpIn_scope {F : Fence} {n : Nat} {P : Program} {Q : Exit → Act → World → Prop} {a : Act} {w : World} {c : Code} (h : c.wpIn F n P (fun e a w => (∀ l, e ≠ .goto l) ∧ Q e a w) a w) : (Code.scope c).wpIn F n P Q a w := by
 intro b k cs hro hb hr
 have h0 : (lone (b.atR a (.code (.scope c) :: k)) cs w).fenced P F := fenced_calm hb hr rfl
 obtain ⟨e, a₁, w₁, hq, harr⟩ := h b (.inScope c :: k) cs hro hb hr
 cases e with
 | normal => exact ⟨.normal, a₁, w₁, hq.2, .head h0 Z1E (StepsIn.trans harr (.one (fenced_calm hb hr rfl) stepR_inScope))⟩
 | exit id =>
  have hx : exitTo id (.inScope c :: k) = exitTo id k := by simp [exitTo]
  exact ⟨.exit id, a₁, w₁, hq.2, fun k' hk => .head h0 Z1E (harr.1 k' (by rw [hx]; exact hk)),
   fun hr' hk => let ⟨k₁, h1, h2⟩ := harr.2 hr' (by rw [hx]; exact hk); ⟨k₁, h1, .head h0 Z1E h2⟩⟩
 | goto l => exact absurd rfl (hq.1 l)
 | ret => exact ⟨_, a₁, w₁, hq.2, .of_steps (.one h0 Z1E) harr⟩
 | panic ch => exact ⟨_, a₁, w₁, hq.2, .of_steps (.one h0 Z1E) harr⟩
 | outgrown => exact ⟨_, a₁, w₁, hq.2, .of_steps (.one h0 Z1E) harr⟩
theorem code_ok {call : Ze} (hm : X.P.follows .mixedOrders = true) (hcall : Z1s X call) (htame : Z0R call) (hcp : Z1U X call) {lf : Nat} {fn : FuncId} {rd : Option Nat} : ∀ (c : Code) {Q : Exit → Act → World → Prop} {s : St} {e : Env} {a : Act} {x : Ex} {e' : Env} {σ' : Heap},
  Z04 X s → Inv s → EnvR s n e a → RdOK rd s → Z4 X call lf n fn c e s.σ = some (x, e', σ') → (∀ a' w' ι', Aft s n a e' σ' a' w' ι' → Q x.out a' w') → c.wpIn (Fw rd) m X.P Q a s.w := by
 intro c
 induction c with
 | label l =>
  intro Q s e a x e' σ' hG hi he hrd h hQ;simp only [Z4, Y4, Y3] at h;obtain ⟨rfl, rfl, rfl⟩ := h
  exact wpIn_label (hQ a s.w s.ι (Aft.refl hi he))
 | scope c ih =>
  intro Q s e a x e' σ' hG hi he hrd h hQ;simp only [Z4] at h;refine wpIn_scope ?_;exact ih hG hi he hrd h fun a' w' ι' ht => ⟨fun l => by cases x <;> simp [Ex.out], hQ a' w' ι' ht⟩
 | skip =>
  intro Q s e a x e' σ' hG hi he hrd h hQ;simp only [Z4, Y4, Y3] at h;obtain ⟨rfl, rfl, rfl⟩ := h
  exact wpIn_skip (hQ a s.w s.ι (Aft.refl hi he))
 | region id ops draw =>
  intro Q s e a x e' σ' hG hi he hrd h hQ;simp only [Z4] at h
  split at h
  ·rename_i hd;subst hd
   split at h
   ·rename_i hok;simp only [Y0, Y3] at h;obtain ⟨⟨e1, σ1⟩, h1, rfl, rfl, rfl⟩ := h
    exact draw_ok hm hcall htame hcp hok hG hi he h1 fun a' w' ι' ht => hQ a' w' ι' ht.aft
   ·cases h
  ·rename_i hd;simp only [Bool.not_eq_true] at hd;subst hd;simp only [Y0, Y3] at h;obtain ⟨⟨e1, σ1⟩, h1, rfl, rfl, rfl⟩ := h
   exact region_ok hcall htame hG hi he h1 fun a' w' ι' ht => hQ a' w' ι' ht.aft
 | seq c1 c2 ih1 ih2 =>
  intro Q s e a x e' σ' hG hi he hrd h hQ;simp only [Z4] at h;refine wpIn_seq ?_
  split at h
  ·rename_i e1 σ1 h1;refine ih1 hG hi he hrd h1 fun a1 w1 ι1 ht => ?_
   exact ih2 (s := ⟨w1, s.Y, σ1, ι1⟩) (hG.mono ht.ev) ht.inv ht.env (hrd.mono ht.ev) h fun a' w' ι' ht' => hQ a' w' ι' (ht.trans ht')
  ·rename_i hn;refine ih1 hG hi he hrd h fun a1 w1 ι1 ht => ?_
   cases x with
   | normal => exact absurd h (hn _ _)
   | exit id => exact hQ _ _ _ ht
   | ret => exact hQ _ _ _ ht
 | cond c c1 c2 ih1 ih2 =>
  intro Q s e a x e' σ' hG hi he hrd h hQ;simp only [Z4] at h
  split at h
  ·rename_i hc;exact wpIn_cond_true (Z0o (Z2 hG he hc)) (ih1 hG hi he hrd h hQ)
  ·rename_i hc;exact wpIn_cond_false (Z0o (Z2 hG he hc)) (ih2 hG hi he hrd h hQ)
  ·cases h
 | block id c ih =>
  intro Q s e a x e' σ' hG hi he hrd h hQ;simp only [Z4] at h;refine wpIn_block ?_
  split at h
  ·rename_i id' e1 σ1 h1;refine ih hG hi he hrd h1 fun a1 w1 ι1 ht => ?_
   simp only [Ex.out, Exit.inBlock]
   split at h
   ·rename_i hid;rw [if_pos hid];simp only [Y4, Y3] at h;obtain ⟨rfl, rfl, rfl⟩ := h
    exact hQ _ _ _ ht
   ·rename_i hid;rw [if_neg hid];simp only [Y4, Y3] at h;obtain ⟨rfl, rfl, rfl⟩ := h
    exact hQ _ _ _ ht
  ·rename_i hn;refine ih hG hi he hrd h fun a1 w1 ι1 ht => ?_
   cases x with
   | normal => exact hQ _ _ _ ht
   | exit id => exact absurd h (hn _ _ _)
   | ret => exact hQ _ _ _ ht
 | loop c ih =>
  intro Q s e a x e' σ' hG hi he hrd h hQ;simp only [Z4] at h;refine wpIn_loop_rounds lf ?_;have key : ∀ (k : Nat) {s : St} {e : Env} {a : Act}, Z04 X s → Inv s → EnvR s n e a → RdOK rd s → Z0x (Z4 X call lf n fn c) k e s.σ = some (x, e', σ') →
    (∀ a' w' ι', Aft s n a e' σ' a' w' ι' → Q x.out a' w') → Code.roundsIn (Fw rd) m X.P c Q k a s.w := by
   intro k
   induction k with
   | zero => intro s e a _ _ _ _ h; simp [Z0x] at h
   | succ k ihk =>
    intro s e a hG hi he hrd h hQ;simp only [Z0x] at h;rw [roundsIn_succ]
    split at h
    ·rename_i e1 σ1 h1;refine ih hG hi he hrd h1 fun a1 w1 ι1 ht => ?_
     exact ihk (s := ⟨w1, s.Y, σ1, ι1⟩) (hG.mono ht.ev) ht.inv ht.env (hrd.mono ht.ev) h fun a' w' ι' ht' => hQ a' w' ι' (ht.trans ht')
    ·rename_i hn;refine ih hG hi he hrd h fun a1 w1 ι1 ht => ?_
     cases x with
     | normal => exact absurd h (hn _ _)
     | exit id => exact hQ _ _ _ ht
     | ret => exact hQ _ _ _ ht
  exact key lf hG hi he hrd h hQ
 | exit id =>
  intro Q s e a x e' σ' hG hi he hrd h hQ;simp only [Z4, Y4, Y3] at h;obtain ⟨rfl, rfl, rfl⟩ := h
  exact wpIn_exit (hQ a s.w s.ι (Aft.refl hi he))
 | ret =>
  intro Q s e a x e' σ' hG hi he hrd h hQ;simp only [Z4, Y4, Y3] at h;obtain ⟨rfl, rfl, rfl⟩ := h
  exact wpIn_ret (hQ a s.w s.ι (Aft.refl hi he))
 | rangeFunc g ps as_ bo _ _ =>
  intro Q s e a x e' σ' hG hi he hrd h hQ;exact range_ok hcall hG hi he hrd h hQ
 | _ =>
  intro Q s e a x e' σ' hG hi he hrd h hQ;simp [Z4] at h
end Go.Dn

namespace Go.Dn
open Go
variable {X : Ctx} {s : St} {n : Nat}
def shut (w : World) : List Nat → World
 | [] => w
 | r :: rs => shut (w.putObj r (.deferred none)) rs
theorem Z5h : ∀ (ms : List Nat) (w : World), (shut w ms).heap.size = w.heap.size ∧ (∀ b, b ∉ ms → (shut w ms).heap[b]? = w.heap[b]?) ∧ (shut w ms).os = w.os ∧ (shut w ms).tape = w.tape ∧ (shut w ms).output = w.output
 | [], w => ⟨rfl, fun _ _ => rfl, rfl, rfl, rfl⟩
 | r :: rs, w => by
  obtain ⟨h1, h2, h3, h4, h5⟩ := Z5h rs (w.putObj r (.deferred none))
  refine ⟨by simp only [shut]; rw [h1]; simp, fun b hb => ?_, h3, h4, h5⟩
  simp only [List.mem_cons, not_or] at hb;simp only [shut];rw [h2 b hb.2];exact World.putObj_heap_other hb.1
theorem Z4E {F : Fence} {m : Nat} {P : Program} {fn : Func} {tmps : Array Value} {R : Ending → World → Prop} : ∀ (ms : List Nat) (w : World), ms.Nodup → (∀ r ∈ ms, w.heap[r]? = some (.deferred (some []))) →
  (∃ v, (results fn tmps).run P (shut w ms) = .ok v (shut w ms) ∧ R (.returned v) (shut w ms)) → LeavesInM F m P fn tmps R (ms.map mark) .returning w
 | [], w, _, _, h => h
 | r :: rs, w, hn, hd, h => by
  obtain ⟨hr, hrs⟩ := List.nodup_cons.1 hn
  refine ⟨by simp, .inl ⟨r, _, rfl, run_takeDeferred (hd r (by simp)), ?_⟩⟩
  refine Z4E rs _ hrs (fun r' hr' => ?_) h
  rw [World.putObj_heap_other (fun e : r' = r => hr (e ▸ hr'))]
  exact hd r' (by simp [hr'])
section shut
variable {ms : List Nat} {w2 : World}
theorem shut_cell (hkeep : ∀ b, b ∉ ms → w2.heap[b]? = s.w.heap[b]?) (hms : ∀ r ∈ ms, s.w.heap[r]? = some (.deferred (some []))) {b i : Nat} {u : Value} (h : s.w.cell? ⟨b, i, none⟩ = some u) : w2.cell? ⟨b, i, none⟩ = some u := by
 have : b ∉ ms := fun hb => by
  simp only [World.cell?, hms b hb] at h;cases h
 rw [← h]
 simp only [World.cell?, hkeep b this]
theorem Z5j (hkeep : ∀ b, b ∉ ms → w2.heap[b]? = s.w.heap[b]?) (hms : ∀ r ∈ ms, s.w.heap[r]? = some (.deferred (some []))) {b : Nat} {cs : Array Value} {el : TypeId} {fr : Nat × Nat} (h : s.w.heap[b]? = some (.cells cs el fr)) : w2.heap[b]? = some (.cells cs el fr) := by
 have : b ∉ ms := fun hb => by
  rw [hms b hb] at h;cases h
 rw [hkeep b this, h]
theorem shut_imm (hsz : w2.heap.size = s.w.heap.size) (b : Nat) : s.imm b ↔ (⟨w2, s.Y, s.σ, s.ι⟩ : St).imm b := by
 simp only [St.imm, Imm, hsz]
theorem shut_fvr (hsz : w2.heap.size = s.w.heap.size) (hkeep : ∀ b, b ∉ ms → w2.heap[b]? = s.w.heap[b]?) (hms : ∀ r ∈ ms, s.w.heap[r]? = some (.deferred (some []))) {x : FV} {v : Value} (h : FVR s.w s.imm x v) : FVR w2 (⟨w2, s.Y, s.σ, s.ι⟩ : St).imm x v := by
 induction h with
 | bool b => exact .bool b
 | int k n => exact .int k n
 | str s => exact .str s
 | nilp => exact .nilp
 | nilf => exact .nilf
 | fn f => exact .fn f
 | nil => exact .nil
 | empty a cap => exact .empty a cap
 | sl xs b off cap sz vals himm hcap hsz' hcell hval ih =>
  exact .sl xs b off cap sz vals ((shut_imm hsz b).1 himm) hcap hsz' (fun i j hi hj => shut_cell hkeep hms (hcell i j hi hj)) ih
theorem shut_pvr (hsz : w2.heap.size = s.w.heap.size) (hkeep : ∀ b, b ∉ ms → w2.heap[b]? = s.w.heap[b]?) (hms : ∀ r ∈ ms, s.w.heap[r]? = some (.deferred (some []))) {x : PV} {v : Value} (h : PVR s x v) : PVR ⟨w2, s.Y, s.σ, s.ι⟩ x v := by
 induction h with
 | undef => exact .undef
 | v hx => exact .v (shut_fvr hsz hkeep hms hx)
 | nils => exact .nils
 | full hx => exact .full (shut_fvr hsz hkeep hms hx)
 | buf hb hv ho hk =>
  refine .buf (s := ⟨w2, s.Y, s.σ, s.ι⟩) hb hv ho fun e => ?_
  obtain ⟨cap, cs, el, fr, q1, q2, q3, q4⟩ := hk e
  exact ⟨cap, cs, el, fr, q1, q2, Z5j hkeep hms q3, q4⟩
 | ptr hb hv ho hk => exact .ptr (s := ⟨w2, s.Y, s.σ, s.ι⟩) hb hv ho hk
 | fptr himm hcell =>
  refine .fptr ((shut_imm hsz _).1 himm) fun j x hj => ?_
  obtain ⟨u, h1, h2⟩ := hcell j x hj
  exact ⟨u, shut_cell hkeep hms h1, shut_fvr hsz hkeep hms h2⟩
 | clo hf hc _ _ ih1 ih2 => exact .clo hf hc ih1 ih2
 | yld hl => exact .yld (s := ⟨w2, s.Y, s.σ, s.ι⟩) hl
 | agg hs _ ho ih => exact .agg hs ih ho
 | tup hs _ ih => exact .tup hs ih
 | mp hm => exact .mp (s := ⟨w2, s.Y, s.σ, s.ι⟩) hm
 | view hb hv ho hk => exact .view (s := ⟨w2, s.Y, s.σ, s.ι⟩) hb hv ho hk
theorem shut_inv (hsz : w2.heap.size = s.w.heap.size) (hkeep : ∀ b, b ∉ ms → w2.heap[b]? = s.w.heap[b]?) (hms : ∀ r ∈ ms, s.w.heap[r]? = some (.deferred (some []))) (hi : Inv s) : Inv ⟨w2, s.Y, s.σ, s.ι⟩ := by
 refine ⟨fun id => ?_, hi.inj, hi.notY, fun id el c h => (shut_imm hsz _).1 (hi.fz id el c h), hi.nx, fun b hb => by simp only [hsz]; exact hi.Ylt b hb⟩
 have he := hi.ent id
 simp only
 cases hent : s.σ.ent id with
 | none => trivial
 | blk el' c lv =>
  rw [hent] at he;obtain ⟨cs, fr, q1, q2, q3, q4⟩ := he
  exact ⟨cs, fr, Z5j hkeep hms q1, q2, q3, fun j x hj => by
   obtain ⟨u, hu, hp, ho⟩ := q4 j x hj
   exact ⟨u, hu, shut_pvr hsz hkeep hms hp, ho⟩⟩
 | loop fn' e' n' ps' as' bo' st' pend' =>
  rw [hent] at he;obtain ⟨fn2, tmps, defers, q1, q2, q3⟩ := he
  have : s.ι id ∉ ms := fun hb => by
   rw [hms _ hb] at q1;cases q1
  exact ⟨fn2, tmps, defers, (hkeep _ this).trans q1, q2, fun t => shut_pvr hsz hkeep hms (q3 t)⟩
 | map kv =>
  rw [hent] at he;have : s.ι id ∉ ms := fun hb => by
   have q1 : s.w.heap[s.ι id]? = some (mobj kv) := he
   rw [hms _ hb] at q1;cases q1
  exact (hkeep _ this).trans he
end shut
theorem shut_ev {s0 : St} {ms : List Nat} {w2 : World} (hev : Ev s0 s) (hsz : w2.heap.size = s.w.heap.size) (hkeep : ∀ b, b ∉ ms → w2.heap[b]? = s.w.heap[b]?) (hms : ∀ r ∈ ms, s0.w.heap.size ≤ r)
  (ho : w2.os = s.w.os) (ht : w2.tape = s.w.tape) (hp : w2.output = s.w.output) : Ev s0 ⟨w2, s.Y, s.σ, s.ι⟩ where
 Y := hev.Y
 size := by simp only [hsz]; exact hev.size
 keep := fun b hb hl => by
  rw [← hev.keep b hb hl];exact hkeep b fun hm => by have := hms b hm; omega
 live := hev.live
 blk := fun id el cells lv h => by
  obtain ⟨c', l', e', hle, hk⟩ := hev.blk id el cells lv h
  refine ⟨c', l', e', hle, fun heq => ?_⟩
  obtain ⟨h1, h2⟩ := hk heq
  refine ⟨h1, fun cs e fr hc => ?_⟩
  obtain ⟨cs', fr', h3, h4⟩ := h2 cs e fr hc
  exact ⟨cs', fr', by rw [← h3]; exact hkeep _ fun hm => by have := hms _ hm; have := (Array.getElem?_eq_some_iff.1 hc).1; omega, h4⟩
 loop := hev.loop
 map := hev.map
 os := ho.trans hev.os
 tape := ht.trans hev.tape
 output := hp.trans hev.output
theorem grow_ev {w' : World} (hi : Inv s) (hsz : s.w.heap.size ≤ w'.heap.size) (hk : ∀ b, b < s.w.heap.size → w'.heap[b]? = s.w.heap[b]?) (ho : w'.os = s.w.os) (ht : w'.tape = s.w.tape) (hp : w'.output = s.w.output) :
  Ev s ⟨w', s.Y, s.σ, s.ι⟩ ∧ Inv ⟨w', s.Y, s.σ, s.ι⟩ := by
 have hev : Ev s ⟨w', s.Y, s.σ, s.ι⟩ :=
  { Y := rfl, size := hsz, keep := fun b hb _ => hk b hb, live := fun id h _ => ⟨id, h, rfl⟩, blk := fun id el cells lv h => ⟨cells, lv, h, Y9 _, fun _ => ⟨rfl, fun cs e fr h => ⟨cs, fr, by rw [← h]; exact hk _ (Array.getElem?_eq_some_iff.1 h).1, rfl⟩⟩⟩, loop := fun id fn e n ps as_ bo st pend h => ⟨⟨st, pend, h⟩, rfl⟩, map := fun id kv h => ⟨⟨kv, h⟩, rfl⟩, os := ho, tape := ht, output := hp }
 refine ⟨hev, fun id => ?_, hi.inj, hi.notY, fun id el c h => (hev.imm _ (hi.fz id el c h)).1, hi.nx, fun b hb => YJ (hi.Ylt b hb) hsz⟩
 have he := hi.ent id
 simp only
 cases hent : s.σ.ent id with
 | none => trivial
 | blk el' c lv =>
  rw [hent] at he;obtain ⟨cs, fr, q1, q2, q3, q4⟩ := he
  exact ⟨cs, fr, (hk _ (Array.getElem?_eq_some_iff.1 q1).1).trans q1, q2, q3, fun j x hj => by
   obtain ⟨u, hu, hp, ho⟩ := q4 j x hj
   exact ⟨u, hu, hev.pvr hp, ho⟩⟩
 | loop fn' e' n' ps' as' bo' st' pend' =>
  rw [hent] at he;obtain ⟨fn2, tmps, defers, q1, q2, q3⟩ := he
  exact ⟨fn2, tmps, defers, (hk _ (Array.getElem?_eq_some_iff.1 q1).1).trans q1, q2, fun t => hev.pvr (q3 t)⟩
 | map kv => rw [hent] at he; exact (hk _ (Array.getElem?_eq_some_iff.1 he).1).trans he
def Z3g : PV → Bool
 | .undef | .v _ | .fptr _ => true
 | .agg cs => cs.all PV.isV
 | _ => false
def flat : PV → Bool
 | .tup xs => xs.all Z3g
 | x => Z3g x
theorem Z57 {s' : St} {x : PV} {v : Value} (hm : ∀ b, s.imm b → s'.imm b ∧ s'.w.heap[b]? = s.w.heap[b]?) (hf : Z3g x = true) (h : PVR s x v) : PVR s' x v := by
 cases h with
 | undef => exact .undef
 | v hx => exact .v (hx.mono hm)
 | fptr himm hcell =>
  refine .fptr (hm _ himm).1 fun j x hj => ?_
  obtain ⟨u, h1, h2⟩ := hcell j x hj
  refine ⟨u, ?_, h2.mono hm⟩;rw [← h1];simp only [World.cell?, (hm _ himm).2]
 | @agg cells cs hs h ho =>
  refine .agg hs (fun i x hi => ?_) ho
  simp only [Z3g, YF] at hf;have h1 := hf x (YB hi)
  have h2 := h i x hi
  cases x <;> simp [PV.isV] at h1
  generalize cs.getD i Go.undef = u at h2;cases h2 with
  | v hx => exact .v (hx.mono hm)
 | _ => simp [Z3g] at hf
theorem flat_pvr {s' : St} {x : PV} {v : Value} (hm : ∀ b, s.imm b → s'.imm b ∧ s'.w.heap[b]? = s.w.heap[b]?) (hf : flat x = true) (h : PVR s x v) : PVR s' x v := by
 cases x with
 | tup xs =>
  cases h with
  | tup hs h =>
   refine .tup hs fun i x hi => ?_
   simp only [flat, YF] at hf;exact Z57 hm (hf x (YB hi)) (h i x hi)
 | _ => exact Z57 hm hf h
theorem pure_flat {x : PV} (h : x.pure = true) : flat x = true ∧ Z3g x = true := by
 cases x <;> simp [PV.pure] at h <;> simp [flat, Z3g]
 ·exact h
theorem vs_all (xs : List FV) : (vs xs).all PV.isV = true := by
 rw [YF]
 intro x hx
 simp only [vs, List.mem_map] at hx
 obtain ⟨y, _, rfl⟩ := hx
 rfl
theorem Z5Q {σ σ' : Heap} {x y : PV} (h : Z08 σ x = some (y, σ')) : Z3g y = true ∧ ∀ ts, y ≠ .tup ts := by
 have one : ∀ {x : PV}, (ZR 6 σ x).bind (fun r => some (PV.v r.1, r.2)) = some (y, σ') → Z3g y = true ∧ ∀ ts, y ≠ .tup ts := by
  intro x h;simp only [Y2, Y4, Y3] at h;obtain ⟨⟨z, σ1⟩, h1, rfl, rfl⟩ := h
  exact ⟨rfl, by simp⟩
 unfold Z08 at h
 split at h
 ·simp only [Y2, Y4, Y3] at h;obtain ⟨⟨z, σ1⟩, h1, rfl, rfl⟩ := h
  exact ⟨vs_all _, by simp⟩
 ·cases h; exact ⟨rfl, by simp⟩
 ·cases h; exact ⟨rfl, by simp⟩
 ·cases h
 ·exact one h
theorem Z4X : ∀ {xs ys : List PV} {σ σ' : Heap}, Z0J σ xs = some (ys, σ') → ys.all Z3g = true
 | [], ys, σ, σ', h => by simp [Z0J] at h; rw [h.1]; rfl
 | x :: xs, ys, σ, σ', h => by
  simp only [Z0J, Y2, Y4, Y3] at h;obtain ⟨⟨y, σ1⟩, h1, ⟨zs, σ2⟩, h2, rfl, rfl⟩ := h
  simp only [Ye, Y8];exact ⟨(Z5Q h1).1, Z4X h2⟩
theorem expRes_flat {σ σ' : Heap} {x y : PV} (h : Z0U σ x = some (y, σ')) : flat y = true := by
 unfold Z0U at h
 split at h
 ·simp only [Y2, Y4, Y3] at h;obtain ⟨⟨z, σ1⟩, h1, rfl, rfl⟩ := h
  exact Z4X h1
 ·obtain ⟨h1, h2⟩ := Z5Q h
  cases y <;> first | exact h1 | exact absurd rfl (h2 _)
theorem expCell_v {σ : Heap} {y : FV} : ZR 6 σ (.v y) = some (y, σ) := rfl
theorem Z3i {σ : Heap} : ∀ (cs : List PV), cs.all PV.isV = true → ∃ ys, ZX (ZR 6) σ cs = some (ys, σ) ∧ vs ys = cs
 | [], _ => ⟨[], rfl, rfl⟩
 | x :: cs, h => by
  simp only [Ye, Y8] at h;obtain ⟨ys, h1, h2⟩ := Z3i (σ := σ) cs h.2
  cases x <;> simp [PV.isV] at h
  rename_i y;exact ⟨y :: ys, by simp only [ZX, expCell_v, Y1, h1], by simp only [vs, Y01] at h2 ⊢; rw [h2]⟩
theorem Z3T {σ : Heap} {x : PV} (h : x.pure = true) : Z1c σ x = some (x, σ) := by
 cases x <;> simp [PV.pure] at h
 ·rfl
 ·rfl
 ·rename_i cs;obtain ⟨ys, h1, h2⟩ := Z3i (σ := σ) cs (by simpa using h)
  simp [Z1c, Z08, Z3W, h1, h2]
theorem Z0t {σ : Heap} : ∀ {xs : List PV}, xs.all PV.pure = true → Zy σ xs = some (xs, σ)
 | [], _ => rfl
 | x :: xs, h => by
  simp only [Ye, Y8] at h;simp [Zy, Z3T h.1, Z0t h.2]
theorem pure_calm {xs : List PV} (h : xs.all PV.pure = true) : xs.all PV.calm = true := by
 rw [YF] at h ⊢
 intro x hx
 have := h x hx
 cases x <;> simp only [PV.pure, PV.calm, YA] at this ⊢
 rw [YF] at this ⊢
 intro y hy
 have := this y hy
 cases y <;> simp only [PV.isV, PV.isN, YA] at this ⊢
theorem Z3m : ∀ (cs : List PV), cs.all PV.isN = true → ∃ ys, ∀ σ, ZX (ZR 6) σ cs = some (ys, σ)
 | [], _ => ⟨[], fun _ => rfl⟩
 | x :: cs, h => by
  simp only [Ye, Y8] at h;obtain ⟨ys, h1⟩ := Z3m cs h.2
  have h0 : ∃ y, ∀ σ, ZR 6 σ x = some (y, σ) := by
   cases x <;> simp only [PV.isN, YA, false_and] at h
   ·exact ⟨_, fun _ => rfl⟩
   ·exact ⟨_, fun _ => rfl⟩
   ·exact ⟨_, fun _ => rfl⟩
  obtain ⟨y, hy⟩ := h0
  exact ⟨y :: ys, fun σ => by simp only [ZX, hy, Y1, h1]⟩
theorem expArg_calm {x : PV} (h : x.calm = true) : ∃ y : PV, y.pure = true ∧ ∀ σ, Z1c σ x = some (y, σ) := by
 have one : ∀ {y : FV}, (∀ σ, Z1c σ x = some (.v y, σ)) → ∃ y : PV, y.pure = true ∧ ∀ σ, Z1c σ x = some (y, σ) := fun {y} h => ⟨.v y, rfl, h⟩
 cases x with
 | v y => exact one (y := y) fun _ => rfl
 | nils => exact one (y := .sl []) fun _ => rfl
 | full xs => exact one (y := .sl xs) fun _ => rfl
 | fptr cs => exact ⟨.fptr cs, rfl, fun _ => rfl⟩
 | agg cs =>
  obtain ⟨ys, h1⟩ := Z3m cs h
  refine ⟨.agg (vs ys), ?_, fun σ => ?_⟩
  ·simp [PV.pure, vs, PV.isV]
  ·simp only [Z1c, Z08, Z3W, h1, Y1]
 | _ => simp only [PV.calm, YA] at h
theorem Z46 : ∀ {xs : List PV}, xs.all PV.calm = true → ∃ ys : List PV, ys.all PV.pure = true ∧ ∀ σ, Zy σ xs = some (ys, σ)
 | [], _ => ⟨[], rfl, fun _ => rfl⟩
 | x :: xs, h => by
  simp only [Ye, Y8] at h;obtain ⟨y, h1, h2⟩ := expArg_calm h.1
  obtain ⟨ys, h3, h4⟩ := Z46 h.2
  exact ⟨y :: ys, by simp only [Ye, h1, h3, Y0N], fun σ => by simp only [Zy, h2, Y1, h4]⟩
theorem results_ok (hi : Inv s) {fn : Func} {e : Env} {a : Act} (he : EnvR s n e a) {xs : List PV} (h : Zh X.P e s.σ fn.results.toList = some xs) :
  ∃ v, (results fn a.tmps).run X.P s.w = .ok v s.w ∧ PVR s (Z0K xs) v := by
 let q : ResultVar → Sem Value := fun
  | .tmp t => pure (a.tmps.getD t undef)
  | .cell ad t => do loadVar t (← asAddr (a.tmps.getD ad undef))
 have key : ∀ (rs : List ResultVar) (xs : List PV), Zh X.P e s.σ rs = some xs → ∃ us : List Value, (rs.mapM q).run X.P s.w = .ok us s.w ∧ us.length = xs.length ∧ ∀ (i : Nat) (x : PV), xs[i]? = some x → PVR s x ((us[i]?).getD Go.undef) := by
  intro rs
  induction rs with
  | nil => intro xs h; simp [Zh] at h; subst h; exact ⟨[], by simp, rfl, by simp⟩
  | cons r rs ih =>
   intro xs h;have one : ∃ x ys u, (q r).run X.P s.w = .ok u s.w ∧ PVR s x u ∧ Zh X.P e s.σ rs = some ys ∧ xs = x :: ys := by
    cases r with
    | tmp t =>
     simp only [Zh, Y0] at h;obtain ⟨ys, h1, rfl⟩ := h
     exact ⟨e t, ys, _, by simp [q], he.2 t, h1, rfl⟩
    | cell ad t =>
     simp only [Zh, Y2, Y0] at h;obtain ⟨x, h1, ys, h2, rfl⟩ := h
     obtain ⟨addr, u, h3, h4, h5⟩ := load_ok (P := X.P) hi (he.2 ad) h1
     refine ⟨x, ys, u, ?_, h5, h2, rfl⟩
     show ((do loadVar t (← asAddr (a.tmps.getD ad undef)) : Sem Value)).run X.P s.w = _
     rw [h3];simp [asAddr, h4]
   obtain ⟨x, ys, u, h1, h2, h3, rfl⟩ := one
   obtain ⟨us, h4, h5, h6⟩ := ih ys h3
   refine ⟨u :: us, by simp [List.mapM_cons, h1, h4], by simp [h5], fun i y hi => ?_⟩
   cases i with
   | zero => simp at hi; subst hi; exact h2
   | succ i => exact h6 i y (by simpa using hi)
 obtain ⟨us, h1, h2, h3⟩ := key _ _ h
 have hr : (results fn a.tmps).run X.P s.w = .ok (if h : us.toArray.size = 1 then us.toArray[0] else .tuple us.toArray) s.w := by
  have : results fn a.tmps = (do let vs ← fn.results.mapM q; pure (if h : vs.size = 1 then vs[0] else .tuple vs)) := rfl
  rw [this, Array.mapM_eq_mapM_toList];simp [Sem.run_bind, h1]
 refine ⟨_, hr, ?_⟩
 cases xs with
 | nil =>
  have : us = [] := List.length_eq_zero_iff.1 h2
  subst this;exact .tup rfl (fun i x hi => by simp at hi)
 | cons x xs =>
  cases xs with
  | nil =>
   cases us with
   | nil => simp at h2
   | cons u us =>
    have : us = [] := List.length_eq_zero_iff.1 (by simpa using h2)
    subst this;have := h3 0 x (by simp)
    simpa [Z0K] using this
  | cons y ys =>
   have hne : us.toArray.size ≠ 1 := by simp [h2]
   rw [dif_neg hne];refine .tup (by simp [h2]) fun i z hz => ?_
   have := h3 i z hz
   simpa [Y5] using this
theorem env_of {args : List PV} {vs : Array Value} {k : Nat} (h : PVRs s args vs) : EnvR s (max k args.length) (Z2j args) { tmps := vs ++ Array.replicate (k - vs.size) undef, defers := [] } := by
 refine ⟨by simp [h.1]; omega, fun t => ?_⟩
 unfold Z2j
 rw [Y0I]
 simp only [Y5, Array.getElem?_append]
 by_cases ht : t < args.length
 ·have h1 := h.2 t args[t] (by simp [ht])
  have ht' : t < vs.size := by rw [← h.1]; exact ht
  simpa [ht, ht', Y5] using h1
 ·have ht' : ¬ t < vs.size := by rw [← h.1]; exact ht
  rw [if_neg ht', Yj (by omega)]
  simp only [Option.getD_none]
  by_cases h2 : t - vs.size < k - vs.size
  ·simp [h2]; exact .undef
  ·simp [h2]; exact .undef
theorem body_ok {call : Ze} (hm : X.P.follows .mixedOrders = true) (hnm : ∀ (f : FuncId) (fn : Func), X.P.funcs[f]? = some fn → (fn.name == "runtime.NumGoroutine") = false)
  (hcall : Z1s X call) (htame : Z0R call) (hcp : Z1U X call) {lf : Nat} {f : FuncId} {args : List PV} {vs : Array Value} {r : PV} {σ' : Heap} (hi : Inv s) (hG : Z04 X s) (hv : PVRs s args vs) (h : Z0L X call lf f args s.σ = some (r, σ')) :
  (callFunc f vs).run X.P s.w = .ok (.enter f vs) s.w ∧ Calls X.P f vs s.w fun en w' => ∃ v, en = .returned v ∧ Post s r σ' v w' := by
 unfold Z0L at h
 split at h
 ·cases h
 ·rename_i fn hfn
  split at h
  ·cases h
  ·rename_i c hb;refine ⟨?_, ?_⟩
   ·have hp : (program).run X.P s.w = .ok X.P s.w := rfl
    simp only [callFunc, Sem.run_bind, hp, Result.andThen_ok, hfn, hnm f fn hfn, hb]
    simp
   ·have fin : ∀ (x : Ex) (e1 : Env) (σ1 : Heap), Z4 X call lf (max fn.ntmps args.length) f c (Z2j args) s.σ = some (x, e1, σ1) → (x = .normal ∨ x = .ret) →
      ((Zh X.P e1 σ1 fn.results.toList).map fun xs => (Z0K xs, σ1)) = some (r, σ') → Calls X.P f vs s.w fun en w' => ∃ v, en = .returned v ∧ Post s r σ' v w' := by
     intro x e1 σ1 h1 hx h2;simp only [Y0, Y3] at h2;obtain ⟨xs, h2, rfl, rfl⟩ := h2
     have hw : CallsIn (Fw none) 0 X.P f vs s.w fun en w' => ∃ v, en = .returned v ∧ Post s (Z0K xs) σ1 v w' := by
      refine callsIn_of_wp_marks hfn hb trivial ?_ rfl;refine code_ok hm hcall htame hcp c hG hi (env_of hv) (fun l hl => by cases hl) h1 fun a' w' ι' ht => ?_
      obtain ⟨ms, hd, hmk⟩ := ht.marks
      have hd : a'.defers = ms.map mark := by simpa using hd
      have hml : ∀ r ∈ ms, w'.heap[r]? = some (.deferred (some [])) := fun r hr => (hmk.2 r hr).2.2
      obtain ⟨g1, g2, g3, g4, g5⟩ := Z5h ms w'
      have hi2 := shut_inv (s := ⟨w', s.Y, σ1, ι'⟩) g1 g2 hml ht.inv
      have he2 : EnvR ⟨shut w' ms, s.Y, σ1, ι'⟩ (max fn.ntmps args.length) e1 a' := ⟨ht.env.1, fun t => shut_pvr (s := ⟨w', s.Y, σ1, ι'⟩) g1 g2 hml (ht.env.2 t)⟩
      have hev2 := shut_ev ht.ev g1 g2 (fun r hr => (hmk.2 r hr).1) g3 g4 g5
      obtain ⟨v, h3, h4⟩ := results_ok (X := X) hi2 he2 h2
      have hl : LeavesInM (Fw none) 0 X.P fn a'.tmps (fun en w' => ∃ v, en = .returned v ∧ Post s (Z0K xs) σ1 v w') a'.defers .returning w' := by
       rw [hd];exact Z4E ms w' hmk.1 hml ⟨v, h3, v, rfl, ι', hi2, hev2, h4⟩
      rcases hx with rfl | rfl
      ·exact hl
      ·exact hl
     exact (callsIn_wide (n := 0)).1 hw
    split at h
    ·rename_i e1 σ1 h1;exact fin .normal e1 σ1 h1 (.inl rfl) h
    ·rename_i e1 σ1 h1;exact fin .ret e1 σ1 h1 (.inr rfl) h
    ·cases h
end Go.Dn

namespace Go.Dn
open Go
variable {X : Ctx} {s : St} {n : Nat}
theorem Z5J {call : Ze} (hc : Z0R call) {ops : Array Oper} {base : Nat} {p : Nat → Prop} (hp : ∀ k, p k → k < base) : ∀ (l : List Oper) (i : Nat) (e : Env) (σ : Heap) (e' : Env) (σ' : Heap),
  base ≤ σ.nx → (∀ k, p k → σ.ent k = .none) → Z0c X call n ops base i l e σ = some (e', σ') → base ≤ σ'.nx ∧ ∀ k, p k → σ'.ent k = .none
 | [], i, e, σ, e', σ', hb, hk, h => by
  simp [Z0c] at h;obtain ⟨_, rfl⟩ := h
  exact ⟨hb, hk⟩
 | o :: l, i, e, σ, e', σ', hb, hk, h => by
  simp only [Z0c, Y2] at h;obtain ⟨⟨e1, σ1⟩, h1, h2⟩ := h
  have ht := Z39 hc h1
  exact Z5J hc hp l (i + 1) e1 σ1 e' σ' (YX hb ht.1) (fun k hpk => ht.2 k (by have := hp k hpk; omega) (by have := hp k hpk; simp; omega) (hk k hpk)) h2
theorem Z4P {call : Ze} (hc : Z0R call) {ops : Array Oper} {base : Nat} {p : Nat → Prop} (hp : ∀ k, p k → k < base) : ∀ (l : List Oper) (i : Nat) (e : Env) (σ : Heap) (e' : Env) (σ' : Heap),
  base ≤ σ.nx → (∀ k, p k → σ.ent k = .none) → Z0H X call n ops base i l e σ = some (e', σ') → base ≤ σ'.nx ∧ ∀ k, p k → σ'.ent k = .none
 | [], i, e, σ, e', σ', hb, hk, h => by
  simp [Z0H] at h;obtain ⟨_, rfl⟩ := h
  exact ⟨hb, hk⟩
 | o :: l, i, e, σ, e', σ', hb, hk, h => by
  simp only [Z0H, Y2] at h;obtain ⟨⟨e1, σ1⟩, h1, h2⟩ := h
  have ht := Z39 hc (Z5D h1)
  exact Z4P hc hp l (i + 1) e1 σ1 e' σ' (YX hb ht.1) (fun k hpk => ht.2 k (by have := hp k hpk; omega) (by have := hp k hpk; simp; omega) (hk k hpk)) h2
theorem Z20 {call : Ze} (hc : Z0R call) {lf : Nat} {fn : FuncId} : ∀ (c : Code) (e : Env) (σ : Heap) (x : Ex) (e' : Env) (σ' : Heap), Z4 X call lf n fn c e σ = some (x, e', σ') → Tame σ none σ' := by
 intro c
 induction c with
 | skip => intro e σ x e' σ' h; simp only [Z4, Y4, Y3] at h; rw [← h.2.2]; exact Tame.refl _ _
 | label l => intro e σ x e' σ' h; simp only [Z4, Y4, Y3] at h; rw [← h.2.2]; exact Tame.refl _ _
 | scope c ih => intro e σ x e' σ' h; simp only [Z4] at h; exact ih e σ x e' σ' h
 | region id ops draw =>
  intro e σ x e' σ' h;simp only [Z4] at h
  split at h
  ·split at h
   ·simp only [Y0, Y3] at h;obtain ⟨⟨e1, σ1⟩, h1, _, _, rfl⟩ := h
    obtain ⟨q1, q2⟩ := Z4P hc (p := fun k => k < σ.nx ∧ σ.ent k = .none) (fun k hk => hk.1) ops.toList 0 e ⟨σ.nx + ops.size, σ.ent⟩ e1 σ1 (Nat.le_add_right _ _) (fun k hk => hk.2) h1
    exact ⟨q1, fun k hk _ hn => q2 k ⟨hk, hn⟩⟩
   ·cases h
  ·simp only [Y0, Y3] at h;obtain ⟨⟨e1, σ1⟩, h1, _, _, rfl⟩ := h
   obtain ⟨q1, q2⟩ := Z5J hc (p := fun k => k < σ.nx ∧ σ.ent k = .none) (fun k hk => hk.1) ops.toList 0 e ⟨σ.nx + ops.size, σ.ent⟩ e1 σ1 (Nat.le_add_right _ _) (fun k hk => hk.2) h1
   exact ⟨q1, fun k hk _ hn => q2 k ⟨hk, hn⟩⟩
 | seq c1 c2 ih1 ih2 =>
  intro e σ x e' σ' h;simp only [Z4] at h
  split at h
  ·rename_i h1;exact (ih1 _ _ _ _ _ h1).trans (ih2 _ _ _ _ _ h)
  ·exact ih1 _ _ _ _ _ h
 | cond c c1 c2 ih1 ih2 =>
  intro e σ x e' σ' h;simp only [Z4] at h
  split at h
  ·exact ih1 _ _ _ _ _ h
  ·exact ih2 _ _ _ _ _ h
  ·cases h
 | block id c ih =>
  intro e σ x e' σ' h;simp only [Z4] at h
  split at h
  ·rename_i h1;have := ih _ _ _ _ _ h1
   split at h <;> simp only [Y4, Y3] at h <;> rw [← h.2.2] <;> exact this
  ·exact ih _ _ _ _ _ h
 | loop c ih =>
  intro e σ x e' σ' h;simp only [Z4] at h;have key : ∀ (k : Nat) (e : Env) (σ : Heap), Z0x (Z4 X call lf n fn c) k e σ = some (x, e', σ') → Tame σ none σ' := by
   intro k
   induction k with
   | zero => intro e σ h; simp [Z0x] at h
   | succ k ihk =>
    intro e σ h;simp only [Z0x] at h
    split at h
    ·rename_i h1;exact (ih _ _ _ _ _ h1).trans (ihk _ _ h)
    ·exact ih _ _ _ _ _ h
  exact key lf e σ h
 | exit id => intro e σ x e' σ' h; simp only [Z4, Y4, Y3] at h; rw [← h.2.2]; exact Tame.refl _ _
 | ret => intro e σ x e' σ' h; simp only [Z4, Y4, Y3] at h; rw [← h.2.2]; exact Tame.refl _ _
 | rangeFunc g ps as_ bo _ _ =>
  intro e σ x e' σ' h;simp only [Z4] at h
  split at h
  ·rename_i gv hg;have fin : ∀ (r : Option (PV × Heap)), (∀ q σ2, r = some (q, σ2) → Tame ⟨σ.nx + 1, upd σ.ent σ.nx (.loop fn e n ps.toList as_ bo .ready none)⟩ none σ2) → (match r with
    | some (_, σ2) =>
     match σ2.ent σ.nx with
     | .loop fn' e' n' ps' as' bo' st pend =>
      if st = LoopState.busy then none else
      match jumpD pend with
      | some x => some (x, e, σ2.put σ.nx (.loop fn' e' n' ps' as' bo' .exhausted pend))
      | none => none
     | _ => none
    | none => none) = some (x, e', σ') → Tame σ none σ' := by
    intro r ht hr
    split at hr
    ·rename_i q σ2;have ht := ht q σ2 rfl
     split at hr
     ·split at hr
      ·cases hr
      ·split at hr
       ·simp only [Y4, Y3] at hr;obtain ⟨_, _, rfl⟩ := hr
        refine ⟨YX (Nat.le_succ _) ht.1, fun k hk _ hn => ?_⟩
        simp only [Heap.put, ZC _ _ (Nat.ne_of_lt hk)];exact ht.2 k (Nat.lt_succ_of_lt hk) (by simp) (by simp only [ZC _ _ (Nat.ne_of_lt hk)]; exact hn)
       ·cases hr
     ·cases hr
    ·cases hr
   cases gv with
   | v y =>
    cases y with
    | fn f => exact fin _ (fun q σ2 hq => hc _ _ _ _ _ hq) h
    | _ => simp at h
   | clo f first caps => exact fin _ (fun q σ2 hq => hc _ _ _ _ _ hq) h
   | _ => simp at h
  ·cases h
 | _ =>
  intro e σ x e' σ' h;simp [Z4] at h
theorem Z5t {call : Ze} (hc : Z0R call) {lf : Nat} {f : FuncId} {args : List PV} {σ σ' : Heap} {r : PV} (h : Z0L X call lf f args σ = some (r, σ')) : Tame σ none σ' := by
 unfold Z0L at h
 split at h
 ·cases h
 ·split at h
  ·cases h
  ·split at h
   ·rename_i h1;simp only [Y0, Y3] at h;obtain ⟨_, _, _, rfl⟩ := h
    exact Z20 hc _ _ _ _ _ _ h1
   ·rename_i h1;simp only [Y0, Y3] at h;obtain ⟨_, _, _, rfl⟩ := h
    exact Z20 hc _ _ _ _ _ _ h1
   ·cases h
theorem callD_fn {k : Nat} {f : FuncId} {args : List PV} {σ σ' : Heap} {r : PV} (h : Zw X (k + 1) (.fn f) args σ = some (r, σ')) :
  (X.intr f args = some r ∧ args.all PV.pure = true ∧ σ' = σ) ∨
  ∃ args' σ1, ((X.keep f = true ∧ args' = args ∧ σ1 = σ) ∨ Zy σ args = some (args', σ1)) ∧
   ((X.opn f = true ∧ Z0L X (Zw X k) k f args' σ1 = some (r, σ')) ∨
    (X.opn f = false ∧ args'.all PV.pure = true ∧ σ' = σ1 ∧ ∃ q σ2 σ3, Z0L X (Zw X k) k f args' Heap.empty = some (q, σ2) ∧ Z0U σ2 q = some (r, σ3)) ∨
    (X.opn f = false ∧ args'.all PV.pure = false ∧ ∃ q σ2, Z0L X (Zw X k) k f args' σ1 = some (q, σ2) ∧ Z0U σ2 q = some (r, σ'))) := by
 simp only [Zw] at h
 split at h
 ·rename_i r' hr
  split at h
  ·rename_i hp;simp only [Y4, Y3] at h;obtain ⟨rfl, rfl⟩ := h
   exact .inl ⟨hr, hp, rfl⟩
  ·cases h
 ·split at h
  ·cases h
  ·rename_i args' σ1 ha;refine .inr ⟨args', σ1, ?_, ?_⟩
   ·split at ha
    ·rename_i hk;simp only [Y4, Y3] at ha;exact .inl ⟨hk, ha.1.symm, ha.2.symm⟩
    ·exact .inr ha
   ·split at h
    ·rename_i ho;exact .inl ⟨ho, h⟩
    ·rename_i ho;simp only [Bool.not_eq_true] at ho
     split at h
     ·rename_i hp;simp only [Y2, Y0, Y3] at h;obtain ⟨⟨q, σ2⟩, h1, ⟨r', σ3⟩, h2, rfl, rfl⟩ := h
      exact .inr (.inl ⟨ho, hp, rfl, q, σ2, σ3, h1, h2⟩)
     ·rename_i hp;simp only [Bool.not_eq_true] at hp;simp only [Y2] at h;obtain ⟨⟨q, σ2⟩, h1, h2⟩ := h
      exact .inr (.inr ⟨ho, hp, q, σ2, h1, h2⟩)
theorem callD_yld {k : Nat} {id : Nat} {args : List PV} {σ σ' : Heap} {r : PV} (h : Zw X (k + 1) (.yld id) args σ = some (r, σ')) :
  ∃ fn e n ps as_ bo args' σ1 e1 σ2 pend x e3 σ3, σ.ent id = .loop fn e n ps as_ bo .ready none ∧ ps.length = args.length ∧ Zy σ args = some (args', σ1) ∧
   Z4 X (Zw X k) k n fn as_ (Z1i e n ps args') σ1 = some (.normal, e1, σ2) ∧ (∃ fn' e' n' ps' as' bo', σ2.ent id = .loop fn' e' n' ps' as' bo' .ready pend) ∧
   Z4 X (Zw X k) k n fn bo e1 (σ2.put id (.loop fn e n ps as_ bo .busy pend)) = some (x, e3, σ3) ∧
   ((x = .normal ∧ r = .v (.bool true) ∧ σ' = σ3.put id (.loop fn e n ps as_ bo .ready none)) ∨
    (∃ t, x = .exit t ∧ r = .v (.bool false) ∧ σ' = σ3.put id (.loop fn e n ps as_ bo .done (some (.exit t)))) ∨
    (x = .ret ∧ r = .v (.bool false) ∧ σ' = σ3.put id (.loop fn e n ps as_ bo .done (some .ret)))) := by
 simp only [Zw] at h
 split at h
 ·rename_i fn e n ps as_ bo hen
  split at h
  ·rename_i hlen
   split at h
   ·cases h
   ·rename_i args' σ1 ha
    split at h
    ·rename_i e1 σ2 h1
     split at h
     ·rename_i fn' e' n' ps' as' bo' pend h2
      split at h
      ·rename_i x e3 σ3 h3;refine ⟨fn, e, n, ps, as_, bo, args', σ1, e1, σ2, pend, x, e3, σ3, hen, hlen, ha, h1, ⟨_, _, _, _, _, _, h2⟩, h3, ?_⟩
       split at h <;> simp only [Y4, Y3] at h
       ·exact .inl ⟨rfl, h.1.symm, h.2.symm⟩
       ·exact .inr (.inl ⟨_, rfl, h.1.symm, h.2.symm⟩)
       ·exact .inr (.inr ⟨rfl, h.1.symm, h.2.symm⟩)
      ·cases h
     ·cases h
    ·cases h
  ·cases h
 ·cases h
theorem Z5x : ∀ k, Z0R (Zw X k)
 | 0 => fun c args σ r σ' h => by cases c <;> simp [Zw] at h
 | k + 1 => fun c args σ r σ' h => by
  have ih := Z5x k
  cases c with
  | fn f =>
   rcases callD_fn h with ⟨_, _, rfl⟩ | ⟨args', σ1, h1, h2⟩
   ·exact Tame.refl _ _
   ·have t1 : Tame σ none σ1 := by
     rcases h1 with ⟨_, _, rfl⟩ | h1
     ·exact Tame.refl _ _
     ·exact Z30 h1
    rcases h2 with ⟨_, h2⟩ | ⟨_, _, rfl, _⟩ | ⟨_, _, q, σ2, h2, h3⟩
    ·exact t1.trans (Z5t ih h2)
    ·exact t1
    ·exact t1.trans ((Z5t ih h2).trans (expRes_tame h3))
  | yld id =>
   obtain ⟨fn, e, n, ps, as_, bo, args', σ1, e1, σ2, pend, x, e3, σ3, hen, _, ha, h1, _, h3, h4⟩ := callD_yld h
   have t1 := (Z30 ha).trans (Z20 ih _ _ _ _ _ _ h1)
   have t2 := Z20 ih _ _ _ _ _ _ h3
   have t3 : σ.nx ≤ σ3.nx ∧ ∀ k, k < σ.nx → k ≠ id → σ.ent k = .none → σ3.ent k = .none := by
    refine ⟨YX t1.1 t2.1, fun k hk hne hn => t2.2 k (YJ hk t1.1) (by simp) ?_⟩
    simp only [Heap.put, ZC _ _ hne];exact t1.2 k hk (by simp) hn
   have t4 : ∀ en, Tame σ none (σ3.put id en) := fun en => ⟨t3.1, fun k hk _ hn => by
    have hne : k ≠ id := by rintro rfl; rw [hen] at hn; cases hn
    simp only [Heap.put, ZC _ _ hne];exact t3.2 k hk hne hn⟩
   rcases h4 with ⟨_, _, rfl⟩ | ⟨_, _, _, rfl⟩ | ⟨_, _, rfl⟩ <;> exact t4 _
theorem callD_pure : ∀ k, Z1U X (Zw X k)
 | 0 => fun f args σ r σ' h => by simp [Zw] at h
 | k + 1 => fun f args σ r σ' h hp ho hk => by
  obtain ⟨ys, hy, he⟩ := Z46 hp
  simp only [Zw, hk, ho, YA, if_false, he, hy, if_true] at h ⊢
  split at h
  ·split at h
   ·rename_i hpu;simp only [Y4, Y3] at h;obtain ⟨rfl, rfl⟩ := h
    exact ⟨rfl, fun σ2 => by simp only [hpu, if_true]⟩
   ·cases h
  ·simp only [Y2, Y0, Y3] at h;obtain ⟨⟨q, σ2⟩, h1, ⟨r', σ3⟩, h2, rfl, rfl⟩ := h
   refine ⟨rfl, fun σ4 => ?_⟩
   simp only [h1, Y1, h2, Y7]
def IntrOK (X : Ctx) : Prop := ∀ f args r, X.intr f args = some r → ∀ (s : St), Inv s → Z04 X s → ∀ vs, PVRs s args vs → args.all PV.pure = true →
 (callFunc f vs).run X.P s.w = .ok (.enter f vs) s.w ∧ Calls X.P f vs s.w fun en w' => ∃ v, en = .returned v ∧ Post s r s.σ v w'
def St.under (s : St) : St := ⟨s.w, fun b => s.Y b ∨ ∃ id, Live s.σ id ∧ s.ι id = b, Heap.empty, fun _ => 0⟩
theorem Z0q {id : Nat} : ¬ Live Heap.empty id := by
 rintro (⟨el, c, h⟩ | ⟨_, _, _, _, _, _, _, _, h⟩ | ⟨_, h⟩) <;> cases h
theorem under_imm {b : Nat} : s.under.imm b ↔ s.imm b := by
 simp only [St.imm, Imm, St.under, not_or, not_exists, not_and]
 constructor
 ·rintro ⟨h1, ⟨h2, h3⟩, _⟩;exact ⟨h1, h2, h3⟩
 ·rintro ⟨h1, h2, h3⟩;exact ⟨h1, ⟨h2, h3⟩, fun id h => absurd h Z0q⟩
theorem under_inv (hi : Inv s) : Inv s.under :=
 ⟨fun _ => trivial, fun _ _ h => absurd h Z0q, fun _ h => absurd h Z0q, fun _ _ _ h => (by cases h), fun _ _ => rfl,
  fun b hb => hb.elim (hi.Ylt b) fun ⟨_, hl, e⟩ => e ▸ hl.lt hi⟩
theorem under_pvr {x : PV} {v : Value} (hp : x.pure = true) (h : PVR s x v) : PVR s.under x v :=
 Z57 (fun b hb => ⟨under_imm.2 hb, rfl⟩) (pure_flat hp).2 h
theorem under_pvrs {xs : List PV} {vs : Array Value} (hp : xs.all PV.pure = true) (h : PVRs s xs vs) : PVRs s.under xs vs :=
 ⟨h.1, fun i x hi => under_pvr (by rw [YF] at hp; exact hp x (YB hi)) (h.2 i x hi)⟩
theorem under_glob (hG : Z04 X s) : Z04 X s.under := fun g cells hg => under_pvr rfl (hG g cells hg)
theorem under_post {q r : PV} {σ2 σ3 : Heap} {v : Value} {w' : World} (hi : Inv s) (h : Post s.under q σ2 v w') (hr : Z0U σ2 q = some (r, σ3)) : Post s r s.σ v w' := by
 obtain ⟨ι', h1, h2, h3⟩ := h
 obtain ⟨⟨e1, _⟩, e2⟩ := expRes_ok (s := ⟨w', s.under.Y, σ2, ι'⟩) hr h1 h3
 obtain ⟨g1, g2⟩ := grow_ev hi h2.size (fun b hb => h2.keep b hb fun id hl => absurd hl Z0q) h2.os h2.tape h2.output
 refine ⟨s.ι, g2, g1, flat_pvr (s := ⟨w', s.under.Y, σ3, ι'⟩) (fun b hb => ⟨?_, rfl⟩) (expRes_flat hr) e2⟩
 obtain ⟨q1, q2, q3⟩ := hb
 simp only [St.under, not_or, not_exists, not_and] at q2
 exact ⟨q1, q2.1, q2.2⟩
theorem Z5i : ∀ {ps : List Nat} {xs : List PV} {us : List Value} {e : Env} {a : Act}, EnvR s n e a → xs.length = us.length → (∀ (i : Nat) (x : PV), xs[i]? = some x → PVR s x ((us[i]?).getD Go.undef)) →
  EnvR s n (Z1i e n ps xs) { a with tmps := (ps.zip us).foldl (fun tmps (t, a) => tmps.setIfInBounds t a) a.tmps }
 | [], _, _, _, _, he, _, _ => by simpa [Z1i] using he
 | p :: ps, [], [], _, _, he, _, _ => by simpa [Z1i] using he
 | p :: ps, x :: xs, u :: us, e, a, he, hl, hx => by
  have h0 := hx 0 x (by simp)
  have h1 := he.put (dst := some p) (x := x) (v := u) (by simpa using h0)
  have := Z5i (ps := ps) (xs := xs) (us := us) h1 (by simpa using hl) (fun i y hy => by have := hx (i + 1) y (by simpa using hy); simpa using this)
  simpa [Z1i, Act.put] using this
 | _ :: _, [], _ :: _, _, _, _, hl, _ => by simp at hl
 | _ :: _, _ :: _, [], _, _, _, hl, _ => by simp at hl
structure CtxOK (X : Ctx) : Prop where
 prog : ProgOK X.P
 intr : IntrOK X
theorem Z3s {s' : St} (hi : Inv s') {id : Nat} {fn : FuncId} {e : Env} {ps : List Nat} {as_ bo : Code} {st : LoopState} {pend : Option Code} (h : s'.σ.ent id = .loop fn e n ps as_ bo st pend) :
  id < s'.σ.nx ∧ ∃ fn' tmps defers, s'.w.heap[s'.ι id]? = some (.loop { state := st, pending := pend, fn := fn', tmps := tmps, params := ps.toArray, assign := as_, body := bo, defers := defers }) ∧ tmps.size = n ∧ ∀ t, PVR s' (e t) (tmps.getD t Go.undef) := by
 refine ⟨?_, LPut.old_rec hi h⟩
 rcases YZ id s'.σ.nx with h' | h'
 ·exact h'
 ·have := hi.nx _ h'
  rw [h] at this;cases this
theorem callD_ok (hX : CtxOK X) : ∀ k, Z1s X (Zw X k)
 | 0 => fun c args r σ' s h => by cases c <;> simp [Zw] at h
 | k + 1 => fun c args r σ' s h hi hG vs hv => by
  have ih := callD_ok hX k
  have it := Z5x (X := X) k
  have ip := callD_pure (X := X) k
  have body := fun {s : St} {f : FuncId} {args : List PV} {vs : Array Value} {r : PV} {σ' : Heap} => body_ok (X := X) (s := s) hX.prog.mixed hX.prog.names ih it ip (lf := k) (f := f) (args := args) (vs := vs) (r := r) (σ' := σ')
  cases c with
  | fn f =>
   simp only
   rcases callD_fn h with ⟨h1, hp, rfl⟩ | ⟨args', σ1, h1, h2⟩
   ·exact hX.intr f args r h1 s hi hG vs hv hp
   ·have t1 : Exp s σ1 ∧ PVRs ⟨s.w, s.Y, σ1, s.ι⟩ args' vs := by
     rcases h1 with ⟨_, rfl, rfl⟩ | h1
     ·exact ⟨Exp.refl hi, hv⟩
     ·obtain ⟨e1, e2, e3⟩ := Z3t args s (fun j => vs.getD j Go.undef) args' σ1 h1 hi hv.2
      exact ⟨e1, by rw [e2]; exact hv.1, e3⟩
    obtain ⟨⟨i1, ev1⟩, v1⟩ := t1
    have post : ∀ {r : PV} {σ' : Heap} {v : Value} {w' : World}, Post ⟨s.w, s.Y, σ1, s.ι⟩ r σ' v w' → Post s r σ' v w' := fun ⟨ι', p1, p2, p3⟩ => ⟨ι', p1, ev1.trans p2, p3⟩
    rcases h2 with ⟨_, h2⟩ | ⟨_, hp, rfl, q, σ2, σ3, h2, h3⟩ | ⟨_, _, q, σ2, h2, h3⟩
    ·obtain ⟨b1, b2⟩ := body (s := ⟨s.w, s.Y, σ1, s.ι⟩) i1 (hG.mono ev1) v1 h2
     exact ⟨b1, b2.mono fun en w' ⟨v, e, p⟩ => ⟨v, e, post p⟩⟩
    ·obtain ⟨b1, b2⟩ := body (s := St.under ⟨s.w, s.Y, σ', s.ι⟩) (under_inv i1) (under_glob (hG.mono ev1)) (under_pvrs hp v1) h2
     exact ⟨b1, b2.mono fun en w' ⟨v, e, p⟩ => ⟨v, e, post (under_post i1 p h3)⟩⟩
    ·obtain ⟨b1, b2⟩ := body (s := ⟨s.w, s.Y, σ1, s.ι⟩) i1 (hG.mono ev1) v1 h2
     refine ⟨b1, b2.mono fun en w' ⟨v, e, p⟩ => ⟨v, e, post ?_⟩⟩
     obtain ⟨ι', p1, p2, p3⟩ := p
     obtain ⟨⟨x1, x2⟩, x3⟩ := expRes_ok (s := ⟨w', s.Y, σ2, ι'⟩) h3 p1 p3
     exact ⟨ι', x1, p2.trans x2, x3⟩
  | yld id =>
   simp only;obtain ⟨fn, e, n, ps, as_, bo, args', σ1, e1, σ2, pend, x, e3, σ3, hen, hlen, ha, h1, ⟨fn', e', n', ps', as', bo', h2⟩, h3, h4⟩ := callD_yld h
   obtain ⟨hnx, f0, tm, df, q1, q2, q3⟩ := Z3s hi hen
   obtain ⟨⟨i1, ev1⟩, l1, v1⟩ := Z3t args s (fun j => vs.getD j Go.undef) args' σ1 ha hi hv.2
   have hsz : vs.size = ps.length := by rw [hlen]; exact hv.1.symm
   refine ⟨_, _, _, _, _, run_yield q1 (by simpa using hsz), fun m => ?_⟩
   refine roundIn_of_wpIn trivial ?_;have he0 : EnvR ⟨s.w, s.Y, σ1, s.ι⟩ n e { tmps := tm, defers := [] } := ⟨q2, fun t => ev1.pvr (q3 t)⟩
   have he1 := Z5i (ps := ps) (xs := args') (us := vs.toList) he0 (by rw [l1, hv.1]; simp) (fun i y hy => by
    have := v1 i y hy
    simpa [Y5] using this)
   have hfold : (ps.toArray.zip vs).foldl (fun tmps (x : Nat × Value) => tmps.setIfInBounds x.1 x.2) tm = (ps.zip vs.toList).foldl (fun tmps (x : Nat × Value) => tmps.setIfInBounds x.1 x.2) tm := by
    rw [← Y0O]
    simp
   have hrd : RdOK (some (s.ι id)) ⟨s.w, s.Y, σ1, s.ι⟩ := fun l hl => by
    cases hl;obtain ⟨⟨st', pend', e4⟩, e5⟩ := ev1.loop _ _ _ _ _ _ _ _ _ hen
    exact ⟨id, ⟨_, _, _, _, _, _, _, _, e4⟩, rfl⟩
   have he2 : EnvR ⟨s.w, s.Y, σ1, s.ι⟩ n (Z1i e n ps args') { tmps := (ps.toArray.zip vs).foldl (fun tmps (x : Nat × Value) => tmps.setIfInBounds x.1 x.2) tm, defers := [] } := by
    rw [hfold];exact he1
   refine code_ok (rd := some (s.ι id)) hX.prog.mixed ih it ip as_ (s := ⟨s.w, s.Y, σ1, s.ι⟩) (hG.mono ev1) i1 he2 hrd h1 fun a1 w1 ι1 ht => ?_
   simp only [Ex.out, Exit.then];have evA := ev1.trans ht.ev
   obtain ⟨⟨stA, pendA, eA⟩, hιA⟩ := evA.loop _ _ _ _ _ _ _ _ _ hen
   simp only at eA hιA;rw [h2] at eA
   injection eA with a1' a2 a3 a4 a5 a6 a7 a8
   subst a1' a2 a3 a4 a5 a6 a7 a8;obtain ⟨hnx2, f2, tm2, df2, r1, r2, r3⟩ := Z3s (s' := ⟨w1, s.Y, σ2, ι1⟩) ht.inv h2
   simp only [hιA] at r1;have hpB : LPut ⟨w1, s.Y, σ2, ι1⟩ id fn' e' n' ps' as' bo' .busy pend (s.ι id) (w1.putObj (s.ι id) (.loop { state := .busy, pending := pend, fn := f2, tmps := tm2, params := ps'.toArray, assign := as', body := bo', defers := df2 })) :=
    ⟨.inr ⟨⟨_, _, h2⟩, hιA.symm⟩, by simp, fun b _ hb => World.putObj_heap_other hb, ⟨f2, tm2, df2, World.putObj_heap_same (Array.getElem?_eq_some_iff.1 r1).1, r2, r3⟩, hnx2, rfl, rfl, rfl⟩
   have iB := hpB.inv ht.inv
   have evB := evA.trans (hpB.ev ht.inv)
   refine ⟨_, run_beginRound r1 rfl, ?_⟩;refine code_ok (rd := some (s.ι id)) hX.prog.mixed ih it ip bo' (s := (St.lput ⟨w1, s.Y, σ2, ι1⟩ id (.loop fn' e' n' ps' as' bo' .busy pend) (s.ι id) _)) (hG.mono evB) iB (ht.env.mono (hpB.ev ht.inv)) ((hrd.mono ht.ev).mono (hpB.ev ht.inv)) h3 fun a3 w3 ι3 ht3 => ?_
   have evC := evB.trans ht3.ev
   obtain ⟨⟨stC, pendC, eC⟩, hιC⟩ := evC.loop _ _ _ _ _ _ _ _ _ hen
   simp only at eC hιC;obtain ⟨hnx3, f3, tm3, df3, u1, u2, u3⟩ := Z3s (s' := ⟨w3, s.Y, σ3, ι3⟩) ht3.inv eC
   simp only [hιC] at u1;have fin : ∀ (jump : Option Code) (b : Bool), b = jump.isNone → ∃ v w', (Instr.endRound (s.ι id) jump).run X.P w3 = .ok v w' ∧ ∃ v', Ending.returned v = .returned v' ∧ Post s (.v (.bool b)) (σ3.put id (.loop fn' e' n' ps' as' bo' (if jump.isNone then .ready else .done) jump)) v' w' := by
    intro jump b hb;have hpC : LPut ⟨w3, s.Y, σ3, ι3⟩ id fn' e' n' ps' as' bo' (if jump.isNone then .ready else .done) jump (s.ι id) (w3.putObj (s.ι id) (.loop { state := if jump.isNone then .ready else .done, pending := jump, fn := f3, tmps := tm3, params := ps'.toArray, assign := as', body := bo', defers := df3 })) :=
     ⟨.inr ⟨⟨_, _, eC⟩, hιC.symm⟩, by simp, fun b _ hb => World.putObj_heap_other hb, ⟨f3, tm3, df3, World.putObj_heap_same (Array.getElem?_eq_some_iff.1 u1).1, u2, u3⟩, hnx3, rfl, rfl, rfl⟩
    subst hb;exact ⟨_, _, run_endRound jump u1, _, rfl, _, hpC.inv ht3.inv, evC.trans (hpC.ev ht3.inv), .v (.bool _)⟩
   rcases h4 with ⟨rfl, rfl, rfl⟩ | ⟨t, rfl, rfl, rfl⟩ | ⟨rfl, rfl, rfl⟩
   ·exact fin none true rfl
   ·exact fin (some (.exit t)) false rfl
   ·exact fin (some .ret) false rfl
end Go.Dn

namespace Go.Dn
open Go
def App {α : Type} (F : Nat → Option α) (r : Option α) : Prop := ∀ a, r = some a → ∃ K, ∀ k, K ≤ k → F k = some a
theorem App.const {α : Type} (r : Option α) : App (fun _ => r) r := fun _ h => ⟨0, fun _ _ => h⟩
theorem App.bind {α β : Type} {F : Nat → Option α} {r : Option α} {G : Nat → α → Option β} {g : α → Option β} (h : App F r) (hg : ∀ a, App (fun k => G k a) (g a)) : App (fun k => (F k).bind (G k)) (r.bind g) := fun b hb => by
 rw [Y2] at hb
 obtain ⟨a, ha, hb⟩ := hb
 obtain ⟨K1, h1⟩ := h a ha
 obtain ⟨K2, h2⟩ := hg a b hb
 exact ⟨max K1 K2, fun k hk => by show (F k).bind (G k) = _; rw [h1 k (by omega)]; exact h2 k (by omega)⟩
theorem App.map {α β : Type} {F : Nat → Option α} {r : Option α} (h : App F r) (g : α → β) : App (fun k => (F k).map g) (r.map g) := fun b hb => by
 rw [Y0] at hb
 obtain ⟨a, ha, rfl⟩ := hb
 obtain ⟨K1, h1⟩ := h a ha
 exact ⟨K1, fun k hk => by show (F k).map g = _; rw [h1 k hk]; rfl⟩
def AppC (F : Nat → Ze) (c : Ze) : Prop := ∀ f args σ, App (fun k => F k f args σ) (c f args σ)
variable {X : Ctx} {n : Nat} {F : Nat → Ze} {call : Ze}
theorem callOp_app (hc : AppC F call) {e : Env} {σ : Heap} {id0 : Nat} {c : Call} : App (fun k => ZW X (F k) e σ id0 c) (ZW X call e σ id0 c) := by
 intro a h
 unfold ZW at h
 split at h
 ·cases h
 ·rename_i args hargs
  split at h
  ·rename_i b hb;exact ⟨0, fun k _ => by simp only [ZW, hargs, hb]; exact h⟩
  ·cases h
  ·rename_i f hf
   split at h
   ·rename_i g hg;obtain ⟨K, hK⟩ := hc _ _ _ _ h
    exact ⟨K, fun k hk => by simp only [ZW, hargs, hf, hg]; exact hK k hk⟩
   ·rename_i g fi ca hg;obtain ⟨K, hK⟩ := hc _ _ _ _ h
    exact ⟨K, fun k hk => by simp only [ZW, hargs, hf, hg]; exact hK k hk⟩
   ·rename_i id hg;obtain ⟨K, hK⟩ := hc _ _ _ _ h
    exact ⟨K, fun k hk => by simp only [ZW, hargs, hf, hg]; exact hK k hk⟩
   ·cases h
theorem Z5d (hc : AppC F call) {e : Env} {σ : Heap} {id0 : Nat} {op : Op} : App (fun k => Z3 X (F k) e σ id0 op) (Z3 X call e σ id0 op) := by
 cases op <;> first | exact callOp_app hc | exact App.const _ | (rename_i g _ _; cases g <;> exact App.const _) | (rename_i _ g; cases g <;> exact App.const _)
theorem Z50 (hc : AppC F call) {ops : Array Oper} {base i : Nat} {o : Oper} {e : Env} {σ : Heap} : App (fun k => Z07 X (F k) n ops base i o e σ) (Z07 X call n ops base i o e σ) := by
 intro a h
 unfold Z07 at h
 split at h
 ·rename_i hw;obtain ⟨K, hK⟩ := (Z5d (X := X) hc).bind (G := fun _ r => some (putD n e o.dst r.1, r.2)) (fun r => App.const _) a h
  exact ⟨K, fun k hk => by simp only [Z07, hw]; exact hK k hk⟩
 ·rename_i hw;exact ⟨0, fun k _ => by simp only [Z07, hw]; exact h⟩
 ·cases h
theorem Z65 (hc : AppC F call) {ops : Array Oper} {base : Nat} : ∀ (l : List Oper) (i : Nat) (e : Env) (σ : Heap), App (fun k => Z0c X (F k) n ops base i l e σ) (Z0c X call n ops base i l e σ)
 | [], _, _, _ => App.const _
 | o :: l, i, _, _ => (Z50 hc).bind fun r => Z65 hc l (i + 1) r.1 r.2
theorem Z5b {call : Ze} {e : Env} {σ : Heap} {id id' : Nat} {op : Op} (h : Zb op = .call) : Z3 X call e σ id op = Z3 X call e σ id' op := by
 cases op <;> simp only [Zb] at h <;> (try (cases h; done))
 case makeFunc fn _ _ => cases fn <;> cases h
 case binOp op _ _ _ _ => cases op <;> cases h
 case call c =>
  simp only [Z3, ZW];cases hc : c.callee with
  | builtin b => rw [hc] at h; cases b <;> cases h
  | _ => rfl
theorem stepW_app (hc : AppC F call) {ops : Array Oper} {base i : Nat} {o : Oper} {e : Env} {σ : Heap} : App (fun k => Z00 X (F k) n ops base i o e σ) (Z00 X call n ops base i o e σ) := by
 intro a h
 unfold Z00 at h
 split at h
 ·rename_i hw
  split at h
  ·rename_i hs;obtain ⟨K, hK⟩ := Z50 (X := X) hc a h
   -- what the call comes to is the same from some fuel on
   unfold Z07 at h;rw [hw.1] at h;simp only [Y2] at h;obtain ⟨⟨x, σ1⟩, h1, _⟩ := h
   obtain ⟨K2, hK2⟩ := Z5d (X := X) hc (x, σ1) h1
   refine ⟨max K K2, fun k hk => ?_⟩
   have hs2 : Z24 X (F k) ops base i o e σ := by
    refine ⟨hs.1, hs.2.1, fun id r σ' hr k' hk' => ?_⟩
    have e1 := hK2 k (by omega)
    have e2 : Z3 X (F k) e σ id o.op = some (x, σ1) := by rw [Z5b hs.1]; exact e1
    rw [e2] at hr;cases hr;exact hs.2.2 _ _ _ h1 k' hk'
   simp only [Z00];rw [if_pos hw, if_pos hs2];exact hK k (by omega)
  ·cases h
 ·rename_i hw;obtain ⟨K, hK⟩ := Z50 (X := X) hc a h
  exact ⟨K, fun k hk => by simp only [Z00, if_neg hw]; exact hK k hk⟩
theorem Z5L (hc : AppC F call) {ops : Array Oper} {base : Nat} : ∀ (l : List Oper) (i : Nat) (e : Env) (σ : Heap), App (fun k => Z0H X (F k) n ops base i l e σ) (Z0H X call n ops base i l e σ)
 | [], _, _, _ => App.const _
 | o :: l, i, _, _ => (stepW_app hc).bind fun r => Z5L hc l (i + 1) r.1 r.2
theorem Z1q (hc : AppC F call) {lf : Nat} {L : Nat → Nat} (hL : ∃ K, ∀ k, K ≤ k → lf ≤ L k) {fn : FuncId} : ∀ (c : Code) (e : Env) (σ : Heap), App (fun k => Z4 X (F k) (L k) n fn c e σ) (Z4 X call lf n fn c e σ) := by
 intro c
 induction c with
 | skip => intro e σ; exact App.const _
 | label l => intro e σ; exact App.const _
 | scope c ih => intro e σ; simp only [Z4]; exact ih e σ
 | region id ops draw =>
  intro e σ;cases draw with
  | false => simp only [Z4, YA, if_false]; exact (Z65 hc _ _ _ _).map _
  | true =>
   by_cases hd : Z1f ops = true
   ·simp only [Z4, if_true, hd]; exact (Z5L hc _ _ _ _).map _
   ·simp only [Z4, if_true, if_neg hd]; exact App.const _
 | seq a b iha ihb =>
  intro e σ out h;simp only [Z4] at h
  split at h
  ·rename_i e1 σ1 h1;obtain ⟨K1, q1⟩ := iha e σ _ h1
   obtain ⟨K2, q2⟩ := ihb e1 σ1 _ h
   exact ⟨max K1 K2, fun k hk => by simp only [Z4, q1 k (by omega)]; exact q2 k (by omega)⟩
  ·rename_i hn;obtain ⟨K1, q1⟩ := iha e σ _ h
   refine ⟨K1, fun k hk => ?_⟩
   simp only [Z4, q1 k hk]
   split
   ·rename_i heq; rw [h] at hn; cases heq; exact absurd rfl (hn _ _)
   ·rfl
 | cond c a b iha ihb =>
  intro e σ out h;simp only [Z4] at h
  split at h
  ·rename_i h1;obtain ⟨K1, q1⟩ := iha e σ _ h
   exact ⟨K1, fun k hk => by simp only [Z4, h1]; exact q1 k hk⟩
  ·rename_i h1;obtain ⟨K1, q1⟩ := ihb e σ _ h
   exact ⟨K1, fun k hk => by simp only [Z4, h1]; exact q1 k hk⟩
  ·cases h
 | block id c ih =>
  intro e σ out h;simp only [Z4] at h
  split at h
  ·rename_i id' e1 σ1 h1;obtain ⟨K1, q1⟩ := ih e σ _ h1
   exact ⟨K1, fun k hk => by simp only [Z4, q1 k hk]; exact h⟩
  ·rename_i hn;obtain ⟨K1, q1⟩ := ih e σ _ h
   refine ⟨K1, fun k hk => ?_⟩
   simp only [Z4, q1 k hk]
   split
   ·rename_i heq; rw [h] at hn; cases heq; exact absurd rfl (hn _ _ _)
   ·rfl
 | loop c ih =>
  intro e σ out h;simp only [Z4] at h;have key : ∀ (m : Nat) (e : Env) (σ : Heap), Z0x (Z4 X call lf n fn c) m e σ = some out → ∃ K, ∀ k, K ≤ k → ∀ m', m ≤ m' → Z0x (Z4 X (F k) (L k) n fn c) m' e σ = some out := by
   intro m
   induction m with
   | zero => intro e σ h; simp [Z0x] at h
   | succ m ihm =>
    intro e σ h;simp only [Z0x] at h
    split at h
    ·rename_i e1 σ1 h1;obtain ⟨K1, q1⟩ := ih e σ _ h1
     obtain ⟨K2, q2⟩ := ihm e1 σ1 h
     refine ⟨max K1 K2, fun k hk m' hm' => ?_⟩
     obtain ⟨m', rfl⟩ : ∃ j, m' = j + 1 := ⟨m' - 1, by omega⟩
     simp only [Z0x, q1 k (by omega)]
     exact q2 k (by omega) m' (by omega)
    ·rename_i hn;obtain ⟨K1, q1⟩ := ih e σ _ h
     refine ⟨K1, fun k hk m' hm' => ?_⟩
     obtain ⟨m', rfl⟩ : ∃ j, m' = j + 1 := ⟨m' - 1, by omega⟩
     simp only [Z0x, q1 k hk]
     split
     ·rename_i heq; rw [h] at hn; cases heq; exact absurd rfl (hn _ _)
     ·rfl
  obtain ⟨K1, q1⟩ := key lf e σ h
  obtain ⟨K2, q2⟩ := hL
  exact ⟨max K1 K2, fun k hk => by simp only [Z4]; exact q1 k (by omega) (L k) (q2 k (by omega))⟩
 | exit id => intro e σ; exact App.const _
 | ret => intro e σ; exact App.const _
 | rangeFunc g ps as_ bo _ _ =>
  intro e σ out h;simp only [Z4] at h ⊢
  split at h
  ·rename_i gv hg;have fin : ∀ (f : Callee) (args : List PV) (σ1 : Heap), (match call f args σ1 with
     | some (_, σ2) =>
      match σ2.ent σ.nx with
      | .loop fn' e' n' ps' as' bo' st pend =>
       if st = LoopState.busy then none else
       match jumpD pend with
       | some x => some (x, e, σ2.put σ.nx (.loop fn' e' n' ps' as' bo' .exhausted pend))
       | none => none
      | _ => none
     | none => none) = some out → ∃ K, ∀ k, K ≤ k → (match F k f args σ1 with
     | some (_, σ2) =>
      match σ2.ent σ.nx with
      | .loop fn' e' n' ps' as' bo' st pend =>
       if st = LoopState.busy then none else
       match jumpD pend with
       | some x => some (x, e, σ2.put σ.nx (.loop fn' e' n' ps' as' bo' .exhausted pend))
       | none => none
      | _ => none
     | none => none) = some out := by
    intro f args σ1 h;cases hr : call f args σ1 with
    | none => rw [hr] at h; cases h
    | some r =>
     rw [hr] at h;obtain ⟨K, hK⟩ := hc _ _ _ _ hr
     exact ⟨K, fun k hk => by have hk' : F k f args σ1 = some r := hK k hk; rw [hk']; exact h⟩
   cases gv with
   | v y =>
    cases y with
    | fn f => simp only [hg]; exact fin _ _ _ h
    | _ => simp at h
   | clo f first caps => simp only [hg]; exact fin _ _ _ h
   | _ => simp at h
  ·cases h
 | _ => intro e σ out h; simp [Z4] at h
theorem Z54 (hc : AppC F call) {lf : Nat} {L : Nat → Nat} (hL : ∃ K, ∀ k, K ≤ k → lf ≤ L k) {f : FuncId} {args : List PV} {σ : Heap} : App (fun k => Z0L X (F k) (L k) f args σ) (Z0L X call lf f args σ) := by
 intro out h
 unfold Z0L at h
 split at h
 ·cases h
 ·rename_i fn hfn
  split at h
  ·cases h
  ·rename_i c hb
   split at h
   ·rename_i h1;obtain ⟨K, hK⟩ := Z1q hc hL c _ _ _ h1
    exact ⟨K, fun k hk => by simp only [Z0L, hfn, hb, hK k hk]; exact h⟩
   ·rename_i h1;obtain ⟨K, hK⟩ := Z1q hc hL c _ _ _ h1
    exact ⟨K, fun k hk => by simp only [Z0L, hfn, hb, hK k hk]; exact h⟩
   ·cases h
noncomputable def Z2O (X : Ctx) (call : Ze) (lf : Nat) : Ze
 | .fn f, args, σ =>
  match X.intr f args with
  | some r => if args.all PV.pure then some (r, σ) else none
  | none =>
   match (if X.keep f then some (args, σ) else Zy σ args) with
   | none => none
   | some (args, σ) =>
    if X.opn f then Z0L X call lf f args σ
    else if args.all PV.pure then (Z0L X call lf f args Heap.empty).bind fun r => (Z0U r.2 r.1).map fun s => (s.1, σ)
    else (Z0L X call lf f args σ).bind fun r => Z0U r.2 r.1
 | .yld id, args, σ =>
  match σ.ent id with
  | .loop fn e n ps as_ bo .ready none =>
   if ps.length = args.length then
    match Zy σ args with
    | none => none
    | some (args, σ) =>
    match Z4 X call lf n fn as_ (Z1i e n ps args) σ with
    | some (.normal, e1, σ1) =>
     match σ1.ent id with
     | .loop _ _ _ _ _ _ .ready pend =>
      match Z4 X call lf n fn bo e1 (σ1.put id (.loop fn e n ps as_ bo .busy pend)) with
      | some (x, _, σ2) =>
       match x with
       | .normal => some (.v (.bool true), σ2.put id (.loop fn e n ps as_ bo .ready none))
       | .exit t => some (.v (.bool false), σ2.put id (.loop fn e n ps as_ bo .done (some (.exit t))))
       | .ret => some (.v (.bool false), σ2.put id (.loop fn e n ps as_ bo .done (some .ret)))
      | none => none
     | _ => none
    | _ => none
   else none
  | _ => none
theorem Z3n (k : Nat) : Zw X (k + 1) = Z2O X (Zw X k) k := by
 funext c args σ
 cases c <;> (simp only [Zw, Z2O]; rfl)
theorem callS_app (hc : AppC F call) {lf : Nat} {L : Nat → Nat} (hL : ∃ K, ∀ k, K ≤ k → lf ≤ L k) : AppC (fun k => Z2O X (F k) (L k)) (Z2O X call lf) := by
 intro c args σ
 cases c with
 | fn f =>
  simp only [Z2O]
  split
  ·exact App.const _
  ·split
   ·exact App.const _
   ·split
    ·exact Z54 hc hL
    ·split
     ·exact (Z54 hc hL).bind fun r => App.const _
     ·exact (Z54 hc hL).bind fun r => App.const _
 | yld id =>
  simp only [Z2O]
  split
  ·split
   ·split
    ·exact App.const _
    ·rename_i fn e n ps as_ bo _ _ _ args' σ1 _;intro out h
     split at h
     ·rename_i e1 σ2 h1;obtain ⟨K1, q1⟩ := Z1q hc hL _ _ _ _ h1
      split at h
      ·rename_i h2
       split at h
       ·rename_i x e3 σ3 h3;obtain ⟨K2, q2⟩ := Z1q hc hL _ _ _ _ h3
        exact ⟨max K1 K2, fun k hk => by simp only [q1 k (by omega), h2, q2 k (by omega)]; exact h⟩
       ·cases h
      ·cases h
     ·cases h
   ·exact App.const _
  ·exact App.const _
theorem Z5F : ∀ k, AppC (fun _ => Zw X (k + 1)) (Zw X k)
 | 0 => fun c args σ out h => by cases c <;> simp [Zw] at h
 | k + 1 => by
  have ih := callS_app (X := X) (Z5F k) (lf := k) (L := fun _ => k + 1) ⟨0, fun _ _ => Nat.le_succ k⟩
  rw [Z3n k];rw [Z3n (k + 1)];exact ih
theorem Z44 {k k' : Nat} (h : k ≤ k') {c : Callee} {args : List PV} {σ : Heap} {r : PV × Heap} (hr : Zw X k c args σ = some r) : Zw X k' c args σ = some r := by
 induction h with
 | refl => exact hr
 | @step m _ ih =>
  obtain ⟨K, hK⟩ := Z5F m c args σ r ih
  exact hK K (Y9 _)
open Classical in
noncomputable def Zr (X : Ctx) : Ze := fun c args σ => if h : ∃ r, ∃ k, Zw X k c args σ = some r then some h.choose else none
theorem Z1K {c : Callee} {args : List PV} {σ : Heap} {r : PV × Heap} : Zr X c args σ = some r ↔ ∃ k, Zw X k c args σ = some r := by
 unfold Zr
 constructor
 ·intro h
  split at h
  ·rename_i hex;cases h;exact hex.choose_spec
  ·cases h
 ·rintro ⟨k, h⟩;have hex : ∃ r, ∃ k, Zw X k c args σ = some r := ⟨r, k, h⟩
  rw [dif_pos hex];obtain ⟨k', h'⟩ := hex.choose_spec
  have e1 := Z44 (Nat.le_max_left k k') h
  have e2 := Z44 (Nat.le_max_right k k') h'
  rw [e1] at e2;exact e2.symm
theorem callL_app : AppC (fun k => Zw X k) (Zr X) := fun c args σ r h => by
 obtain ⟨k, hk⟩ := Z1K.1 h
 exact ⟨k, fun k' hk' => Z44 hk' hk⟩
theorem Z1D {lf : Nat} {c : Callee} {args : List PV} {σ : Heap} {r : PV × Heap} (h : Z2O X (Zr X) lf c args σ = some r) : Zr X c args σ = some r := by
 obtain ⟨K, hK⟩ := callS_app (X := X) callL_app (lf := lf) (L := fun k => k) ⟨lf, fun k hk => hk⟩ c args σ r h
 exact Z1K.2 ⟨K + 1, by rw [Z3n]; exact hK K (Y9 _)⟩
structure Runs (X : Ctx) (n : Nat) (fn : FuncId) (c : Code) (e : Env) (σ : Heap) (Q : Ex → Env → Heap → Prop) : Prop where
 run : ∃ lf x e' σ', Z4 X (Zr X) lf n fn c e σ = some (x, e', σ') ∧ Q x e' σ'
variable {fn : FuncId} {c a b : Code} {e : Env} {σ : Heap} {Q : Ex → Env → Heap → Prop}
theorem Z1b {lf lf' : Nat} (h : lf ≤ lf') {out : Out} (hr : Z4 X call lf n fn c e σ = some out) : Z4 X call lf' n fn c e σ = some out := by
 obtain ⟨K, hK⟩ := Z1q (F := fun _ => call) (fun f args σ => App.const _) (lf := lf) (L := fun _ => lf') ⟨0, fun _ _ => h⟩ c e σ out hr
 exact hK K (Y9 _)
theorem Runs.skip (h : Q .normal e σ) : Runs X n fn .skip e σ Q := ⟨0, _, _, _, rfl, h⟩
theorem Runs.exit {id : Nat} (h : Q (.exit id) e σ) : Runs X n fn (.exit id) e σ Q := ⟨0, _, _, _, rfl, h⟩
theorem Runs.ret (h : Q .ret e σ) : Runs X n fn .ret e σ Q := ⟨0, _, _, _, rfl, h⟩
theorem Runs.label {l : Nat} (h : Q .normal e σ) : Runs X n fn (.label l) e σ Q := ⟨0, _, _, _, rfl, h⟩
theorem Runs.scope (h : Runs X n fn c e σ Q) : Runs X n fn (.scope c) e σ Q := by
 obtain ⟨l1, x, e1, σ1, h1, h2⟩ := h.run
 exact ⟨l1, x, e1, σ1, by simp only [Z4]; exact h1, h2⟩
theorem Runs.seq (h : Runs X n fn a e σ fun x e' σ' => match x with | .normal => Runs X n fn b e' σ' Q | x => Q x e' σ') : Runs X n fn (.seq a b) e σ Q := by
 obtain ⟨l1, x, e1, σ1, h1, h2⟩ := h.run
 cases x with
 | normal =>
  obtain ⟨l2, y, e2, σ2, h3, h4⟩ := h2.run
  exact ⟨max l1 l2, y, e2, σ2, by simp only [Z4, Z1b (Nat.le_max_left l1 l2) h1]; exact Z1b (Nat.le_max_right l1 l2) h3, h4⟩
 | exit id => exact ⟨l1, _, e1, σ1, by simp only [Z4, h1], h2⟩
 | ret => exact ⟨l1, _, e1, σ1, by simp only [Z4, h1], h2⟩
theorem Runs.mono {Q' : Ex → Env → Heap → Prop} (h : Runs X n fn c e σ Q) (hq : ∀ x e σ, Q x e σ → Q' x e σ) : Runs X n fn c e σ Q' := by
 obtain ⟨l1, x, e1, σ1, h1, h2⟩ := h.run
 exact ⟨l1, x, e1, σ1, h1, hq _ _ _ h2⟩
theorem Runs.block {id : Nat} (h : Runs X n fn c e σ fun x e' σ' => if x = .exit id then Q .normal e' σ' else Q x e' σ') : Runs X n fn (.block id c) e σ Q := by
 obtain ⟨l1, x, e1, σ1, h1, h2⟩ := h.run
 cases x with
 | normal => exact ⟨l1, .normal, e1, σ1, by simp only [Z4, h1], by simpa using h2⟩
 | ret => exact ⟨l1, .ret, e1, σ1, by simp only [Z4, h1], by simpa using h2⟩
 | exit id' =>
  by_cases hid : id' = id
  ·subst hid;exact ⟨l1, .normal, e1, σ1, by simp only [Z4, h1, if_true], by simpa using h2⟩
  ·exact ⟨l1, .exit id', e1, σ1, by simp only [Z4, h1, if_neg hid], by simpa [hid] using h2⟩
theorem Runs.cond {t : Operand} {v : Bool} (ht : Z0 X e t = some (.v (.bool v))) (h1 : v = true → Runs X n fn a e σ Q) (h2 : v = false → Runs X n fn b e σ Q) : Runs X n fn (.cond t a b) e σ Q := by
 cases v with
 | true =>
  obtain ⟨l1, x, e1, σ1, h1, h2⟩ := (h1 rfl).run
  exact ⟨l1, x, e1, σ1, by simp only [Z4, ht]; exact h1, h2⟩
 | false =>
  obtain ⟨l1, x, e1, σ1, h1, h2⟩ := (h2 rfl).run
  exact ⟨l1, x, e1, σ1, by simp only [Z4, ht]; exact h1, h2⟩
theorem Runs.ops {id : Nat} {ops : Array Oper} {r : Env × Heap} (h : Z0c X (Zr X) n ops σ.nx 0 ops.toList e ⟨σ.nx + ops.size, σ.ent⟩ = some r) (hq : Q .normal r.1 r.2) : Runs X n fn (.region id ops false) e σ Q :=
 ⟨0, _, _, _, by simp only [Z4, YA, if_false, h, Y7], hq⟩
theorem Runs.draw {id : Nat} {ops : Array Oper} {r : Env × Heap} (hd : Z1f ops = true) (h : Z0H X (Zr X) n ops σ.nx 0 ops.toList e ⟨σ.nx + ops.size, σ.ent⟩ = some r) (hq : Q .normal r.1 r.2) : Runs X n fn (.region id ops true) e σ Q :=
 ⟨0, _, _, _, by simp only [Z4, if_true, hd, h, Y7], hq⟩
theorem Runs.loop (I : Nat → Env → Heap → Prop) {m : Nat} (h0 : I m e σ)
  (hs : ∀ m e σ, I m e σ → Runs X n fn c e σ fun x e' σ' => match x with | .normal => ∃ m', m' < m ∧ I m' e' σ' | x => Q x e' σ') : Runs X n fn (.loop c) e σ Q := by
 have key : ∀ m e σ, I m e σ → ∃ lf, ∀ lf', lf ≤ lf' → ∃ j x e' σ', Z0x (Z4 X (Zr X) lf' n fn c) j e σ = some (x, e', σ') ∧ Q x e' σ' := by
  intro m
  induction m using Nat.strongRecOn with
  | _ m ih =>
   intro e σ hI;obtain ⟨l1, x, e1, σ1, h1, h2⟩ := (hs m e σ hI).run
   cases x with
   | normal =>
    obtain ⟨m', hlt, hI'⟩ := h2
    obtain ⟨l2, q2⟩ := ih m' hlt e1 σ1 hI'
    refine ⟨max l1 l2, fun lf' hl => ?_⟩
    obtain ⟨j, x, e', σ', q3, q4⟩ := q2 lf' (by omega)
    exact ⟨j + 1, x, e', σ', by simp only [Z0x, Z1b (show l1 ≤ lf' by omega) h1]; exact q3, q4⟩
   | exit id => exact ⟨l1, fun lf' hl => ⟨1, _, e1, σ1, by simp only [Z0x, Z1b hl h1], h2⟩⟩
   | ret => exact ⟨l1, fun lf' hl => ⟨1, _, e1, σ1, by simp only [Z0x, Z1b hl h1], h2⟩⟩
 obtain ⟨lf, hl⟩ := key m e σ h0
 obtain ⟨j, x, e', σ', q1, q2⟩ := hl lf (Y9 _)
 have up : ∀ (step step' : Env → Heap → Option Out) (hst : ∀ e σ r, step e σ = some r → step' e σ = some r) (j j' : Nat) (hj : j ≤ j') (e : Env) (σ : Heap) (r : Out), Z0x step j e σ = some r → Z0x step' j' e σ = some r := by
  intro step step' hst j
  induction j with
  | zero => intro j' _ e σ r h; simp [Z0x] at h
  | succ j ihj =>
   intro j' hj e σ r h;obtain ⟨j', rfl⟩ : ∃ i, j' = i + 1 := ⟨j' - 1, by omega⟩
   simp only [Z0x] at h ⊢
   split at h
   ·rename_i h1;rw [hst _ _ _ h1];exact ihj j' (by omega) _ _ _ h
   ·rename_i hn;rw [hst _ _ _ h]
    split
    ·rename_i heq; rw [h] at hn; cases heq; exact absurd rfl (hn _ _)
    ·rfl
 refine ⟨max lf j, x, e', σ', ?_, q2⟩
 simp only [Z4]
 exact up _ _ (fun e σ r h => Z1b (Nat.le_max_left lf j) h) j _ (Nat.le_max_right lf j) _ _ _ q1
structure Fn (X : Ctx) (f : FuncId) (args : List PV) (r : PV) : Prop where
 call : ∀ σ, Zr X (.fn f) args σ = some (r, σ)
 pure : args.all PV.pure = true
 keep : X.keep f = false
 opn : X.opn f = false
theorem Fn.of {f : FuncId} {args : List PV} {r : PV} {fu : Func} {c : Code} (hf : X.P.funcs[f]? = some fu) (hb : fu.body = some c) (hi : X.intr f args = none) (hk : X.keep f = false) (ho : X.opn f = false) (hp : args.all PV.pure = true)
  (h : Runs X (max fu.ntmps args.length) f c (Z2j args) Heap.empty fun x e σ => (x = .normal ∨ x = .ret) ∧ ∃ xs σ', Zh X.P e σ fu.results.toList = some xs ∧ Z0U σ (Z0K xs) = some (r, σ')) : Fn X f args r := by
 refine ⟨fun σ => ?_, hp, hk, ho⟩
 obtain ⟨lf, x, e', σ', h1, hx, xs, σ2, h2, h3⟩ := h.run
 refine Z1D (lf := lf) ?_
 have hbody : Z0L X (Zr X) lf f args Heap.empty = some (Z0K xs, σ') := by
  simp only [Z0L, hf, hb, h1]
  rcases hx with rfl | rfl <;> simp only [h2, Y7]
 simp only [Z2O, hi, hk, YA, if_false, Z0t hp, ho, hp, if_true, hbody, Y1, h3, Y7]
theorem Fn.intr {f : FuncId} {args : List PV} {r : PV} (hi : X.intr f args = some r) (hp : args.all PV.pure = true) (hk : X.keep f = false) (ho : X.opn f = false) : Fn X f args r :=
 ⟨fun σ => Z1D (lf := 0) (by simp only [Z2O, hi, hp, if_true]), hp, hk, ho⟩
theorem Fn.run {f : FuncId} {args : List PV} {r : PV} (k : Nat) (h : ∀ σ, Zw X k (.fn f) args σ = some (r, σ)) (hp : args.all PV.pure = true) (hk : X.keep f = false) (ho : X.opn f = false) : Fn X f args r :=
 ⟨fun σ => Z1K.2 ⟨k, h σ⟩, hp, hk, ho⟩
end Go.Dn

namespace Go.Dn
open Go
def set (e : Env) (d : Nat) (v : PV) : Env := fun j => bif Nat.beq j d then v else e j
theorem set_eq (e : Env) (d : Nat) (v : PV) : set e d v = upd e d v := by
 funext j
 simp only [set, upd]
 by_cases h : j = d
 ·subst h; simp
 ·have : Nat.beq j d = false := by
   cases hb : Nat.beq j d with
   | false => rfl
   | true => exact absurd (Yw hb) h
  rw [this, if_neg h]
  rfl
structure Ops (X : Ctx) (n : Nat) (dr : Bool) (ops : Array Oper) (base i : Nat) (l : List Oper) (e : Env) (σ : Heap) (K : Env → Heap → Prop) : Prop where
 run : ∃ e' σ', (if dr then Z0H X (Zr X) n ops base i l e σ else Z0c X (Zr X) n ops base i l e σ) = some (e', σ') ∧ K e' σ'
variable {X : Ctx} {n : Nat} {dr : Bool} {fn : FuncId} {ops : Array Oper} {base i : Nat} {l : List Oper} {e : Env} {σ : Heap} {K : Env → Heap → Prop} {Q : Ex → Env → Heap → Prop} {c a b : Code}
def Then' (R : Env → Heap → Prop) (Q : Ex → Env → Heap → Prop) : Ex → Env → Heap → Prop
 | .normal, e, σ => R e σ
 | x, e, σ => Q x e σ
def InBlock (id : Nat) (Q : Ex → Env → Heap → Prop) : Ex → Env → Heap → Prop
 | .exit id', e, σ => if id' = id then Q .normal e σ else Q (.exit id') e σ
 | x, e, σ => Q x e σ
theorem Runs.then (h : Runs X n fn a e σ (Then' (fun e σ => Runs X n fn b e σ Q) Q)) : Runs X n fn (.seq a b) e σ Q :=
 .seq (h.mono fun x e σ hx => by cases x <;> exact hx)
theorem Runs.inBlock {id : Nat} (h : Runs X n fn c e σ (InBlock id Q)) : Runs X n fn (.block id c) e σ Q :=
 .block (h.mono fun x e σ hx => by
  cases x with
  | exit id' =>
   simp only [InBlock] at hx
   by_cases hid : id' = id
   ·simp only [hid, if_true] at hx ⊢; exact hx
   ·simp only [hid, if_false] at hx;rw [if_neg (by simpa using hid)]
    exact hx
  | normal => exact (by simpa [InBlock] using hx)
  | ret => exact (by simpa [InBlock] using hx))
theorem Runs.region {id m m' : Nat} {ent : Nat → Ent} (hm : m + l.length = m') (h : Ops X n false l.toArray m 0 l e ⟨m', ent⟩ (Q .normal)) : Runs X n fn (.region id l.toArray false) e ⟨m, ent⟩ Q := by
 subst hm
 obtain ⟨e', σ', h1, h2⟩ := h.run
 simp only [YA, if_false] at h1
 exact Runs.ops (r := (e', σ')) (by simpa using h1) h2
theorem Runs.drawn {id m m' : Nat} {ent : Nat → Ent} (hd : Z1f l.toArray = true) (hm : m + l.length = m') (h : Ops X n true l.toArray m 0 l e ⟨m', ent⟩ (Q .normal)) : Runs X n fn (.region id l.toArray true) e ⟨m, ent⟩ Q := by
 subst hm
 obtain ⟨e', σ', h1, h2⟩ := h.run
 simp only [if_true] at h1
 exact Runs.draw hd (r := (e', σ')) (by simpa using h1) h2
theorem Runs.whether {t : Operand} {v : Bool} (ht : Z0 X e t = some (.v (.bool v))) (h1 : v = true → Runs X n fn a e σ Q) (h2 : v = false → Runs X n fn b e σ Q) : Runs X n fn (.cond t a b) e σ Q := .cond ht h1 h2
theorem Runs.yes {t : Operand} (ht : Z0 X e t = some (.v (.bool true))) (h1 : Runs X n fn a e σ Q) : Runs X n fn (.cond t a b) e σ Q := .cond ht (fun _ => h1) (fun h => by cases h)
theorem Runs.no {t : Operand} (ht : Z0 X e t = some (.v (.bool false))) (h1 : Runs X n fn b e σ Q) : Runs X n fn (.cond t a b) e σ Q := .cond ht (fun h => by cases h) (fun _ => h1)
theorem Ops.nil (h : K e σ) : Ops X n dr ops base i [] e σ K := ⟨e, σ, by cases dr <;> rfl, h⟩
theorem Ops.step {o : Oper} {e1 : Env} {σ1 : Heap} (h : Z07 X (Zr X) n ops base i o e σ = some (e1, σ1)) (ha : dr = true → Zi ops e o = some true → ZZ X ops base i o e = true) (hk : Ops X n dr ops base (i + 1) l e1 σ1 K) : Ops X n dr ops base i (o :: l) e σ K := by
 obtain ⟨e', σ', h1, h2⟩ := hk.run
 refine ⟨⟨e', σ', ?_, h2⟩⟩
 cases dr with
 | false =>
  simp only [YA, if_false] at h1 ⊢;simp only [Z0c, h, Y1, h1]
 | true =>
  simp only [if_true] at h1 ⊢;have : Z00 X (Zr X) n ops base i o e σ = some (e1, σ1) := by
   unfold Z00;rw [if_neg]
   ·exact h
   ·rintro ⟨q1, q2⟩;rw [ha rfl q1] at q2;cases q2
  simp only [Z0H, this, Y1, h1]
def inert (op : Op) : Bool := Zb op == .pure && (match op with | .slice .. | .buildSlice .. => false | _ => true)
theorem ask0 {o : Oper} (h : ZP X ops base i o e = true) : ZZ X ops base i o e = true := by
 unfold ZZ
 rw [h, Bool.or_true]
theorem Z4M {o : Oper} (h : Z1L (Region.before ops) ops i = true) : ZZ X ops base i o e = true := by
 unfold ZZ
 rw [h, Bool.true_or]
theorem Zu {o : Oper} (h : inert o.op = true) : ZZ X ops base i o e = true := by
 refine ask0 ?_
 unfold inert at h
 simp only [Y8, beq_iff_eq] at h
 unfold ZP
 rw [h.1]
 cases ho : o.op <;> rw [ho] at h <;> simp_all [frozen]
theorem Z1J {o : Oper} (h : Zb o.op = .read) (ht : touched X e o.op = []) : ZZ X ops base i o e = true := by
 refine ask0 ?_
 unfold ZP
 rw [h, ht]
 simp
theorem blt_lt {d m : Nat} (h : Nat.blt d m = true) : d < m := by
 rw [Nat.blt_eq] at h
 exact h
section
variable {d : Nat} {op : Op} {t : TypeId} {p : String} {af : Array Edge} {x : PV} {σ1 : Heap}
theorem Ops.plain (h : Z3 X (Zr X) e σ (base + i) op = some (x, σ1)) (ha : dr = true → ZZ X ops base i ⟨some d, op, t, p, af, none⟩ e = true) (hd : Nat.blt d n = true) (hk : Ops X n dr ops base (i + 1) l (set e d x) σ1 K) : Ops X n dr ops base i (⟨some d, op, t, p, af, none⟩ :: l) e σ K := by
 refine .step ?_ (fun hw _ => ha hw) hk
 simp only [Z07, Zi, h, Y1, putD, if_pos (blt_lt hd), set_eq]
theorem Ops.plain0 (h : Z3 X (Zr X) e σ (base + i) op = some (x, σ1)) (ha : dr = true → ZZ X ops base i ⟨none, op, t, p, af, none⟩ e = true) (hk : Ops X n dr ops base (i + 1) l e σ1 K) : Ops X n dr ops base i (⟨none, op, t, p, af, none⟩ :: l) e σ K := by
 refine .step ?_ (fun hw _ => ha hw) hk
 simp only [Z07, Zi, h, Y1, putD]
theorem Ops.part {o : Oper} {g : Nat} {v : Bool} (h : e g = .v (.bool v)) (ht : v = true → Ops X n dr ops base i (o :: l) (set e g (.v (.bool true))) σ K) (hf : v = false → Ops X n dr ops base i (o :: l) (set e g (.v (.bool false))) σ K) : Ops X n dr ops base i (o :: l) e σ K := by
 have key : set e g (.v (.bool v)) = e := by
  rw [set_eq]
  funext k
  simp only [upd]
  split
  ·rename_i hk; rw [hk, h]
  ·rfl
 cases v with
 | true => rw [← key]; exact ht rfl
 | false => rw [← key]; exact hf rfl
variable {j g : Nat} {w : Bool}
theorem Ops.split {dst : Option Tmp} {v : Bool} (hg : (ops[j]?).bind (·.dst) = some g) (h : e g = .v (.bool v)) (ht : v = true → Ops X n dr ops base i (⟨dst, op, t, p, af, some (j, w)⟩ :: l) (set e g (.v (.bool true))) σ K)
  (hf : v = false → Ops X n dr ops base i (⟨dst, op, t, p, af, some (j, w)⟩ :: l) (set e g (.v (.bool false))) σ K) : Ops X n dr ops base i (⟨dst, op, t, p, af, some (j, w)⟩ :: l) e σ K := by
 have _ := hg
 exact .part h ht hf
theorem Ops.wanted {dst : Option Tmp} (hg : (ops[j]?).bind (·.dst) = some g) (he : e g = .v (.bool w)) (hk : Ops X n dr ops base i (⟨dst, op, t, p, af, none⟩ :: l) e σ K) : Ops X n dr ops base i (⟨dst, op, t, p, af, some (j, w)⟩ :: l) e σ K := by
 obtain ⟨e', σ', h1, h2⟩ := hk.run
 refine ⟨⟨e', σ', ?_, h2⟩⟩
 have this : Zi ops e ⟨dst, op, t, p, af, some (j, w)⟩ = some true := by
  simp only [Zi, hg, he];cases w <;> rfl
 have t2 : Zi ops e ⟨dst, op, t, p, af, none⟩ = some true := rfl
 have s1 : Z07 X (Zr X) n ops base i ⟨dst, op, t, p, af, some (j, w)⟩ e σ = Z07 X (Zr X) n ops base i ⟨dst, op, t, p, af, none⟩ e σ := by
  unfold Z07;rw [this, t2]
 have s2 : ZZ X ops base i ⟨dst, op, t, p, af, some (j, w)⟩ e = ZZ X ops base i ⟨dst, op, t, p, af, none⟩ e := rfl
 have s3 : Z00 X (Zr X) n ops base i ⟨dst, op, t, p, af, some (j, w)⟩ e σ = Z00 X (Zr X) n ops base i ⟨dst, op, t, p, af, none⟩ e σ := by
  unfold Z00;rw [this, t2, s1, s2]
  rfl
 rw [← h1]
 cases dr <;> simp only [YA, if_false, if_true, Z0c, Z0H, s1, s3]
theorem Ops.want (hg : (ops[j]?).bind (·.dst) = some g) (he : e g = .v (.bool w)) (hk : Ops X n dr ops base i (⟨some d, op, t, p, af, none⟩ :: l) e σ K) : Ops X n dr ops base i (⟨some d, op, t, p, af, some (j, w)⟩ :: l) e σ K := .wanted hg he hk
theorem Ops.pass (hg : (ops[j]?).bind (·.dst) = some g) (he : e g = .v (.bool (!w))) (hd : Nat.blt d n = true) (hk : Ops X n dr ops base (i + 1) l (set e d .undef) σ K) : Ops X n dr ops base i (⟨some d, op, t, p, af, some (j, w)⟩ :: l) e σ K := by
 have : Zi ops e ⟨some d, op, t, p, af, some (j, w)⟩ = some false := by
  simp only [Zi, hg, he];cases w <;> rfl
 refine .step ?_ (fun _ h => by rw [this] at h; cases h) hk
 simp only [Z07, this, putD, if_pos (blt_lt hd), set_eq]
theorem Ops.passU (hg : (ops[j]?).bind (·.dst) = some g) (he : e g = .undef) (hd : Nat.blt d n = true) (hk : Ops X n dr ops base (i + 1) l (set e d .undef) σ K) : Ops X n dr ops base i (⟨some d, op, t, p, af, some (j, w)⟩ :: l) e σ K := by
 have : Zi ops e ⟨some d, op, t, p, af, some (j, w)⟩ = some false := by
  simp only [Zi, hg, he]
 refine .step ?_ (fun _ h => by rw [this] at h; cases h) hk
 simp only [Z07, this, putD, if_pos (blt_lt hd), set_eq]
theorem Ops.pass0 (hg : (ops[j]?).bind (·.dst) = some g) (he : e g = .v (.bool (!w))) (hk : Ops X n dr ops base (i + 1) l e σ K) : Ops X n dr ops base i (⟨none, op, t, p, af, some (j, w)⟩ :: l) e σ K := by
 have : Zi ops e ⟨none, op, t, p, af, some (j, w)⟩ = some false := by
  simp only [Zi, hg, he];cases w <;> rfl
 refine .step ?_ (fun _ h => by rw [this] at h; cases h) hk
 simp only [Z07, this, putD]
theorem Ops.pass0U (hg : (ops[j]?).bind (·.dst) = some g) (he : e g = .undef) (hk : Ops X n dr ops base (i + 1) l e σ K) : Ops X n dr ops base i (⟨none, op, t, p, af, some (j, w)⟩ :: l) e σ K := by
 have : Zi ops e ⟨none, op, t, p, af, some (j, w)⟩ = some false := by
  simp only [Zi, hg, he]
 refine .step ?_ (fun _ h => by rw [this] at h; cases h) hk
 simp only [Z07, this, putD]
theorem Ops.call {f : FuncId} {args : Array Operand} {ts : Array TypeId} {ys : List PV} {r : PV} (ha : ZG X e args.toList = some ys) (hf : Fn X f ys r) (hd : Nat.blt d n = true) (hk : Ops X n dr ops base (i + 1) l (set e d r) σ K) :
  Ops X n dr ops base i (⟨some d, .call { callee := .value (.func f), args := args, argTypes := ts }, t, p, af, none⟩ :: l) e σ K :=
 .plain (x := r) (σ1 := σ) (by simp only [Z3, ZW, ha, Z0, hf.call σ]) (fun _ => by
  exact ask0 (by simp only [ZP, Zb, ha, Z2o, Z0, pure_calm hf.pure, hf.opn, hf.keep, Bool.not_false, Y0N])) hd hk
end
section
variable {d : Nat} {t t1 t2 : TypeId} {p : String} {af : Array Edge} {x y : Operand} {v : PV}
theorem ask_bin {op : BinOp} {u v : FV} {o : Oper} (hx : Z0 X e x = some (.v u)) (hy : Z0 X e y = some (.v v)) (ho : o.op = .binOp op t1 x y t2 := by rfl) : ZZ X ops base i o e = true := by
 by_cases h : Zb o.op = .pure
 ·exact Zu (by rw [ho] at h; simp only [inert, ho, h]; rfl)
 ·refine Z1J ?_ ?_
  ·rw [ho] at h ⊢;cases op <;> first | rfl | exact absurd rfl h
  ·rw [ho];simp only [touched, ZI, YC, YE, hx, hy, vids, YD]
theorem Ops.move (hx : Z0 X e x = some v) (hd : Nat.blt d n = true) (hk : Ops X n dr ops base (i + 1) l (set e d v) σ K) : Ops X n dr ops base i (⟨some d, .move x, t, p, af, none⟩ :: l) e σ K :=
 .plain (by simp only [Z3, hx, Y7]) (fun _ => Zu rfl) hd hk
theorem Ops.assign (hx : Z0 X e x = some v) (hd : Nat.blt d n = true) (hk : Ops X n dr ops base (i + 1) l (set e d v) σ K) : Ops X n dr ops base i (⟨some d, .assign x, t, p, af, none⟩ :: l) e σ K :=
 .plain (by simp only [Z3, hx, Y7]) (fun _ => Zu rfl) hd hk
theorem Ops.int {op : BinOp} {k : IntKind} {m m' : Int} {r : FV} (hx : Z0 X e x = some (.v (.int k m))) (hy : Z0 X e y = some (.v (.int k m'))) (hop : (op != .shl && op != .shr) = true) (hr : Z3P op k m m' = some r) (hd : Nat.blt d n = true) (hk : Ops X n dr ops base (i + 1) l (set e d (.v r)) σ K) :
  Ops X n dr ops base i (⟨some d, .binOp op t1 x y t2, t, p, af, none⟩ :: l) e σ K := by
 refine .plain (x := .v r) (σ1 := σ) ?_ (fun _ => ask_bin hx hy) hd hk
 simp only [Z3, hx, hy]
 cases op <;> simp [binD, hr] at hop ⊢
theorem Ops.shl {k k' : IntKind} {m m' : Int} (hx : Z0 X e x = some (.v (.int k m))) (hy : Z0 X e y = some (.v (.int k' m'))) (h0 : 0 ≤ m') (hd : Nat.blt d n = true) (hk : Ops X n dr ops base (i + 1) l (set e d (.v (.int k (k.wrap (m * 2 ^ min m'.toNat k.bits))))) σ K) :
  Ops X n dr ops base i (⟨some d, .binOp .shl t1 x y t2, t, p, af, none⟩ :: l) e σ K := by
 refine .plain (σ1 := σ) ?_ (fun _ => ask_bin hx hy) hd hk
 simp only [Z3, hx, hy, binD, if_neg (Int.not_lt.2 h0), Y7]
theorem Ops.shr {k k' : IntKind} {m m' : Int} (hx : Z0 X e x = some (.v (.int k m))) (hy : Z0 X e y = some (.v (.int k' m'))) (h0 : 0 ≤ m') (hd : Nat.blt d n = true) (hk : Ops X n dr ops base (i + 1) l (set e d (.v (.int k (m.fdiv (2 ^ min m'.toNat k.bits))))) σ K) :
  Ops X n dr ops base i (⟨some d, .binOp .shr t1 x y t2, t, p, af, none⟩ :: l) e σ K := by
 refine .plain (σ1 := σ) ?_ (fun _ => ask_bin hx hy) hd hk
 simp only [Z3, hx, hy, binD, if_neg (Int.not_lt.2 h0), Y7]
theorem Ops.quo {k : IntKind} {m m' : Int} (hx : Z0 X e x = some (.v (.int k m))) (hy : Z0 X e y = some (.v (.int k m'))) (h0 : m' ≠ 0) (hd : Nat.blt d n = true) (hk : Ops X n dr ops base (i + 1) l (set e d (.v (.int k (k.wrap (m.tdiv m'))))) σ K) :
  Ops X n dr ops base i (⟨some d, .binOp .quo t1 x y t2, t, p, af, none⟩ :: l) e σ K :=
 .int hx hy rfl (by simp only [Z3P, if_neg h0]) hd hk
theorem Ops.rem {k : IntKind} {m m' : Int} (hx : Z0 X e x = some (.v (.int k m))) (hy : Z0 X e y = some (.v (.int k m'))) (h0 : m' ≠ 0) (hd : Nat.blt d n = true) (hk : Ops X n dr ops base (i + 1) l (set e d (.v (.int k (m.tmod m')))) σ K) :
  Ops X n dr ops base i (⟨some d, .binOp .rem t1 x y t2, t, p, af, none⟩ :: l) e σ K :=
 .int hx hy rfl (by simp only [Z3P, if_neg h0]) hd hk
theorem Ops.neB {b b' : Bool} (hx : Z0 X e x = some (.v (.bool b))) (hy : Z0 X e y = some (.v (.bool b'))) (ht : X.P.underlying t1 = some .bool) (hd : Nat.blt d n = true) (hk : Ops X n dr ops base (i + 1) l (set e d (.v (.bool (b != b')))) σ K) :
  Ops X n dr ops base i (⟨some d, .binOp .neq t1 x y t2, t, p, af, none⟩ :: l) e σ K := by
 refine .plain (σ1 := σ) ?_ (fun _ => ask_bin hx hy) hd hk
 simp only [Z3, hx, hy, binD, Z3d, if_true, eqD, ht, Y7]
 rfl
theorem Ops.not {b : Bool} (hx : Z0 X e x = some (.v (.bool b))) (hd : Nat.blt d n = true) (hk : Ops X n dr ops base (i + 1) l (set e d (.v (.bool (!b)))) σ K) : Ops X n dr ops base i (⟨some d, .unOp .not t1 x, t, p, af, none⟩ :: l) e σ K :=
 .plain (by simp only [Z3, hx, Y1, unD, Y7]) (fun _ => Zu rfl) hd hk
theorem Ops.neg {k : IntKind} {m : Int} (hx : Z0 X e x = some (.v (.int k m))) (hd : Nat.blt d n = true) (hk : Ops X n dr ops base (i + 1) l (set e d (.v (.int k (k.wrap (0 - m))))) σ K) : Ops X n dr ops base i (⟨some d, .unOp .neg t1 x, t, p, af, none⟩ :: l) e σ K :=
 .plain (by simp only [Z3, hx, Y1, unD, Y7]) (fun _ => Zu rfl) hd hk
theorem Ops.conv {k k' : IntKind} {m : Int} {de : TypeDesc} (hx : Z0 X e x = some (.v (.int k m))) (h1 : X.P.underlying t1 = some de) (h2 : tint X.P t2 = some k') (hd : Nat.blt d n = true) (hk : Ops X n dr ops base (i + 1) l (set e d (.v (.int k' (k'.wrap m)))) σ K) : Ops X n dr ops base i (⟨some d, .convert t1 t2 x, t, p, af, none⟩ :: l) e σ K :=
 .plain (by simp only [Z3, hx, Y1, convD, h1, h2, Y7]) (fun _ => Zu rfl) hd hk
theorem Ops.pickT {c : Operand} (hc : Z0 X e c = some (.v (.bool true))) (hx : Z0 X e x = some v) (hd : Nat.blt d n = true) (hk : Ops X n dr ops base (i + 1) l (set e d v) σ K) : Ops X n dr ops base i (⟨some d, .pick c x y, t, p, af, none⟩ :: l) e σ K :=
 .plain (by simp only [Z3, hc, hx, Y7]) (fun _ => Zu rfl) hd hk
theorem Ops.pickF {c : Operand} (hc : Z0 X e c = some (.v (.bool false))) (hx : Z0 X e y = some v) (hd : Nat.blt d n = true) (hk : Ops X n dr ops base (i + 1) l (set e d v) σ K) : Ops X n dr ops base i (⟨some d, .pick c x y, t, p, af, none⟩ :: l) e σ K :=
 .plain (by simp only [Z3, hc, hx, Y7]) (fun _ => Zu rfl) hd hk
theorem Ops.extract {vs : List PV} {j : Nat} (hx : Z0 X e x = some (.tup vs)) (hj : vs[j]? = some v) (hd : Nat.blt d n = true) (hk : Ops X n dr ops base (i + 1) l (set e d v) σ K) : Ops X n dr ops base i (⟨some d, .extract x j, t, p, af, none⟩ :: l) e σ K :=
 .plain (by simp only [Z3, hx, hj, Y7]) (fun _ => Zu rfl) hd hk
end
def Z2k : PV → Bool
 | .tup xs => xs.all PV.pure
 | x => x.pure
theorem Z1n {x : PV} (h : x.pure = true) : Z08 σ x = some (x, σ) := by
 have := Z3T (σ := σ) h
 cases x <;> simp [PV.pure] at h <;> exact this
theorem Z2p : ∀ {xs : List PV}, xs.all PV.pure = true → Z0J σ xs = some (xs, σ)
 | [], _ => rfl
 | x :: xs, h => by
  simp only [Ye, Y8] at h;simp [Z0J, Z1n h.1, Z2p h.2]
theorem Z5H {x : PV} (h : Z2k x = true) : Z0U σ x = some (x, σ) := by
 cases x with
 | tup xs => simp only [Z2k] at h; simp [Z0U, Z2p h]
 | v y => exact Z1n (x := .v y) h
 | fptr y => exact Z1n (x := .fptr y) h
 | agg y => exact Z1n (x := .agg y) h
 | _ => simp [Z2k, PV.pure] at h
structure Ends (X : Ctx) (rs : List ResultVar) (r : PV) (x : Ex) (e : Env) (σ : Heap) : Prop where
 out : (x = .normal ∨ x = .ret) ∧ ∃ xs σ', Zh X.P e σ rs = some xs ∧ Z0U σ (Z0K xs) = some (r, σ')
theorem Ends.ret {rs : List ResultVar} {xs : List PV} {r : PV} (h : Zh X.P e σ rs = some xs) (hp : Z2k (Z0K xs) = true) (hr : Z0K xs = r) : Ends X rs r .ret e σ :=
 ⟨.inr rfl, xs, σ, h, by rw [← hr]; exact Z5H hp⟩
theorem Ends.normal {rs : List ResultVar} {xs : List PV} {r : PV} (h : Zh X.P e σ rs = some xs) (hp : Z2k (Z0K xs) = true) (hr : Z0K xs = r) : Ends X rs r .normal e σ :=
 ⟨.inl rfl, xs, σ, h, by rw [← hr]; exact Z5H hp⟩
theorem Fn.ends {f : FuncId} {args : List PV} {r : PV} {fu : Func} {c : Code} {m : Nat} (hf : X.P.funcs[f]? = some fu) (hb : fu.body = some c) (hi : X.intr f args = none) (hk : X.keep f = false) (ho : X.opn f = false) (hp : args.all PV.pure = true) (hm : max fu.ntmps args.length = m)
  (h : Runs X m f c (Z2j args) ⟨0, fun _ => .none⟩ (Ends X fu.results.toList r)) : Fn X f args r :=
 .of hf hb hi hk ho hp (by subst hm; exact h.mono fun _ _ _ hx => hx.out)
end Go.Dn

namespace Go.Dn
open Go Go.RowKit
variable {X : Ctx} {n : Nat} {fn : FuncId} {c : Code} {e : Env} {Q : Ex → Env → Heap → Prop}
theorem callL_ok (hX : CtxOK X) : Z1s X (Zr X) := fun c args r σ' s h hi hG vs hv => by
 obtain ⟨k, hk⟩ := Z1K.1 h
 exact callD_ok hX k c args r σ' s hk hi hG vs hv
def St.start (w : World) : St := ⟨w, fun _ => False, Heap.empty, fun _ => 0⟩
theorem start_inv (w : World) : Inv (St.start w) :=
 ⟨fun _ => trivial, fun _ _ h => absurd h Z0q, fun _ h => absurd h Z0q, fun _ _ _ h => (by cases h), fun _ _ => rfl, fun _ h => h.elim⟩
theorem Z51 {w : World} {b : Nat} (h : b < w.heap.size) : (St.start w).imm b := ⟨h, fun h => h, fun _ h => absurd h Z0q⟩
theorem start_below {w w' : World} {σ' : Heap} {ι' : Nat → Nat} (h : Ev (St.start w) ⟨w', fun _ => False, σ', ι'⟩) : Below w.heap.size w w' where
 os := h.os
 tape := h.tape
 output := h.output
 size := h.size
 block := fun k hk => h.keep k hk fun id hl => absurd hl Z0q
theorem law_calls (hX : CtxOK X) {f : FuncId} {args : List PV} {vs : Array Value} {w : World} (h : Fn X f args (.v (.bool true))) (hG : Z04 X (St.start w)) (hv : PVRs (St.start w) args vs) :
  Calls X.P f vs w fun e w' => e = .returned (.bool true) ∧ Below w.heap.size w w' := by
 have h1 := callL_ok hX (.fn f) args (.v (.bool true)) Heap.empty (St.start w) (h.call _) (start_inv w) hG vs hv
 refine h1.2.mono fun e w' ⟨v, he, ι', _, h3, h4⟩ => ?_
 have := Z0o h4
 subst this
 exact ⟨he, start_below h3⟩
end Go.Dn

namespace Go.Dn
open Go
inductive Res where
 | blk (id : Nat) (t : TypeId) (cells : List PV)
 | sl (v : PV) (e : TypeId) (sz : Nat) (xs : List (List FV)) (live : Bool)
 | floor (m : Nat)
 | hole (id : Nat)
 | loop (id : Nat) (fn : FuncId) (e : Env) (n : Nat) (ps : List Nat) (as_ bo : Code) (st : LoopState) (pd : Option Code)
 | mp (id : Nat) (kv : List (Int × Int))
 | fix (id : Nat) (en : Ent)
def PV.owner : PV → Option Nat
 | .buf id _ _ => some id
 | .view id _ _ _ _ => some id
 | _ => none
def Res.owner : Res → Option Nat
 | .blk id _ _ => some id
 | .sl v _ _ _ _ => v.owner
 | .floor _ => none
 | .hole id => some id
 | .loop id _ _ _ _ _ _ _ _ => some id
 | .mp id _ => some id
 | .fix id _ => some id
def Res.holds (σ : Heap) : Res → Prop
 | .blk id t cells => σ.ent id = .blk t cells true
 | .sl v e sz xs live => (∀ y ∈ xs, y.length = sz) ∧ ((v = .nils ∧ xs = []) ∨ ∃ id, v = .buf id xs.length sz ∧ σ.ent id = .blk e (vs xs.flatten) live)
 | .floor m => m ≤ σ.nx
 | .hole _ => True
 | .loop id fn e n ps as_ bo st pd => σ.ent id = .loop fn e n ps as_ bo st pd
 | .mp id kv => σ.ent id = .map kv
 | .fix id en => σ.ent id = en
structure Has (σ : Heap) (lo hi : Nat) (L : List Res) : Prop where
 holds : ∀ (k : Nat) (r : Res), L[k]? = some r → r.holds σ
 lt : ∀ (k : Nat) (r : Res), L[k]? = some r → ∀ id, r.owner = some id → (id < lo ∨ hi ≤ id) ∧ id < σ.nx
 sep : ∀ (j k : Nat) (r s : Res), j ≠ k → L[j]? = some r → L[k]? = some s → ∀ id, r.owner = some id → s.owner ≠ some id
 le : hi ≤ σ.nx
section
variable {σ : Heap} {lo hi : Nat} {L : List Res} {k : Nat} {r : Res}
theorem Has.nil (h : hi ≤ σ.nx) : Has σ lo hi [] := ⟨by simp, by simp, by simp, h⟩
theorem Has.weak (H : Has σ lo hi L) {lo' hi' : Nat} (h1 : lo ≤ lo') (h2 : hi' ≤ hi) : Has σ lo' hi' L :=
 ⟨H.holds, fun k r hk id ho => ⟨(H.lt k r hk id ho).1.imp (fun h => by omega) (fun h => by omega), (H.lt k r hk id ho).2⟩, H.sep, by have := H.le; omega⟩
theorem Has.all (H : Has σ lo hi L) : Has σ σ.nx σ.nx L :=
 ⟨H.holds, fun k r hk id ho => ⟨.inl (H.lt k r hk id ho).2, (H.lt k r hk id ho).2⟩, H.sep, Y9 _⟩
theorem Has.erase (H : Has σ lo hi L) (k : Nat) : Has σ lo hi (L.eraseIdx k) := by
 have key : ∀ (j : Nat) (r : Res), (L.eraseIdx k)[j]? = some r → L[if j < k then j else j + 1]? = some r := by
  intro j r h;rw [List.getElem?_eraseIdx] at h
  by_cases hj : j < k
  ·rw [if_pos hj] at h ⊢; exact h
  ·rw [if_neg hj] at h ⊢; exact h
 refine ⟨fun j r h => H.holds _ r (key j r h), fun j r h => H.lt _ r (key j r h), fun i j r s hij h1 h2 => H.sep _ _ r s ?_ (key i r h1) (key j s h2), H.le⟩
 split <;> split <;> omega
theorem Z2r {id : Nat} {en : Ent} (h : r.holds σ) (ho : r.owner ≠ some id) : r.holds (σ.put id en) := by
 cases r with
 | blk id' t cells =>
  have : id' ≠ id := fun e => ho (by rw [e]; rfl)
  show upd σ.ent id en id' = _
  rw [ZC _ _ this]; exact h
 | sl v e sz xs live =>
  refine ⟨h.1, h.2.imp (fun h => h) fun ⟨id', hv, hb⟩ => ⟨id', hv, ?_⟩⟩
  have : id' ≠ id := fun e => ho (by rw [hv, e]; rfl)
  show upd σ.ent id en id' = _
  rw [ZC _ _ this]; exact hb
 | floor m => exact h
 | hole id' => trivial
 | loop id' fn e n ps as_ bo st pd =>
  have : id' ≠ id := fun e => ho (by rw [e]; rfl)
  show upd σ.ent id en id' = _
  rw [ZC _ _ this]; exact h
 | mp id' kv =>
  have : id' ≠ id := fun e => ho (by rw [e]; rfl)
  show upd σ.ent id en id' = _
  rw [ZC _ _ this]; exact h
 | fix id' en' =>
  have : id' ≠ id := fun e => ho (by rw [e]; rfl)
  show upd σ.ent id en id' = _
  rw [ZC _ _ this]; exact h
theorem Z0f {id : Nat} {en : Ent} : (σ.put id en).ent id = en := Z6 _ _ _
theorem Has.put (H : Has σ lo hi L) {id : Nat} {en : Ent} {r' : Res} (hk : L[k]? = some r) (ho : r.owner = some id) (hr : r'.holds (σ.put id en)) (ho' : r'.owner = some id) : Has (σ.put id en) lo hi (L.set k r') := by
 have key : ∀ (j : Nat) (s : Res), (L.set k r')[j]? = some s → (j = k ∧ s = r') ∨ (j ≠ k ∧ L[j]? = some s) := by
  intro j s h;rw [Y06] at h
  by_cases hj : k = j
  ·subst hj;rw [if_pos rfl] at h
   split at h
   ·cases h; exact .inl ⟨rfl, rfl⟩
   ·cases h
  ·rw [if_neg hj] at h;exact .inr ⟨fun e => hj e.symm, h⟩
 refine ⟨fun j s h => ?_, fun j s h id' ho2 => ?_, fun i j s t hij h1 h2 id' hs => ?_, H.le⟩
 ·rcases key j s h with ⟨_, rfl⟩ | ⟨hj, h⟩
  ·exact hr
  ·exact Z2r (H.holds j s h) (H.sep k j r s (fun e => hj e.symm) hk h id ho)
 ·rcases key j s h with ⟨_, rfl⟩ | ⟨hj, h⟩
  ·rw [ho'] at ho2; cases ho2; exact H.lt k r hk id ho
  ·exact H.lt j s h id' ho2
 ·rcases key i s h1 with ⟨hi', rfl⟩ | ⟨hi', h1'⟩
  ·rw [ho'] at hs; cases hs
   rcases key j t h2 with ⟨hj, rfl⟩ | ⟨hj, h2'⟩
   ·omega
   ·exact H.sep k j r t (fun e => hj e.symm) hk h2' id ho
  ·rcases key j t h2 with ⟨hj, rfl⟩ | ⟨hj, h2'⟩
   ·intro e;rw [ho'] at e; cases e;exact H.sep i k s r hi' h1' hk id hs ho
   ·exact H.sep i j s t hij h1' h2' id' hs
theorem Has.push (H : Has σ lo hi L) {b : Nat} {en : Ent} {r' : Res} (hlo : lo ≤ b) (hhi : b < hi) (hr : r'.holds (σ.put b en)) (ho : r'.owner = some b) : Has (σ.put b en) (b + 1) hi (r' :: L) := by
 have hle := H.le
 have hne : ∀ (j : Nat) (s : Res), L[j]? = some s → s.owner ≠ some b := fun j s h e => by
  have := (H.lt j s h b e).1; omega
 refine ⟨fun j s h => ?_, fun j s h id' ho2 => ?_, fun i j s t hij h1 h2 id' hs => ?_, hle⟩
 ·cases j with
  | zero => cases h; exact hr
  | succ j => exact Z2r (H.holds j s h) (hne j s h)
 ·cases j with
  | zero => cases h; rw [ho] at ho2; cases ho2; exact ⟨.inl (by omega), show _ < σ.nx by omega⟩
  | succ j =>
   have := H.lt j s h id' ho2
   exact ⟨by omega, this.2⟩
 ·cases i with
  | zero =>
   cases h1;rw [ho] at hs; cases hs;cases j with
   | zero => exact absurd rfl hij
   | succ j => exact hne j t h2
  | succ i =>
   cases j with
   | zero =>
    cases h2;intro e;rw [ho] at e; cases e;exact hne i s h1 hs
   | succ j => exact H.sep i j s t (fun e => hij (by rw [e])) h1 h2 id' hs
theorem Has.pushNil (H : Has σ lo hi L) (e : TypeId) (sz : Nat) (live : Bool) : Has σ lo hi (.sl .nils e sz [] live :: L) := by
 refine ⟨fun j s h => ?_, fun j s h id' ho2 => ?_, fun i j s t hij h1 h2 id' hs => ?_, H.le⟩
 ·cases j with
  | zero => cases h; exact ⟨by simp, .inl ⟨rfl, rfl⟩⟩
  | succ j => exact H.holds j s h
 ·cases j with
  | zero => cases h; cases ho2
  | succ j => exact H.lt j s h id' ho2
 ·cases i with
  | zero => cases h1; cases hs
  | succ i =>
   cases j with
   | zero => cases h2; intro e; cases e
   | succ j => exact H.sep i j s t (fun e => hij (by rw [e])) h1 h2 id' hs
theorem Has.blk (H : Has σ lo hi L) {id : Nat} {t : TypeId} {cells : List PV} (hk : L[k]? = some (.blk id t cells)) : σ.ent id = .blk t cells true := H.holds k _ hk
theorem Has.cur (H : Has σ lo hi L) {id : Nat} {t : TypeId} {cells : List PV} {ver : Nat} (hk : L[k]? = some (.blk id t cells)) (hv : cells.length = ver) : σ.cur id ver = true := by
 simp only [Heap.cur, H.blk hk, hv, beq_self_eq_true]
end
def Seen (ops : Array Oper) (base i id : Nat) (w : Bool) : Prop :=
 (id < base ∧ (w = true → Z4f (Region.before ops) ops i = false) ∧ (w = false → Z3M (Region.before ops) ops i = true)) ∨ ∃ j, id = base + j ∧ (w = false → Z21 (Region.before ops) ops i = false) ∧ ((Region.before ops).getD i 0).testBit j = true ∧ j < ops.size
section
variable {X : Ctx} {n : Nat} {dr : Bool} {fn : FuncId} {ops : Array Oper} {base i : Nat} {l : List Oper} {e : Env} {σ : Heap} {K : Env → Heap → Prop} {Q : Ex → Env → Heap → Prop} {c a b : Code}
variable {d : Nat} {t t1 t2 : TypeId} {p : String} {af : Array Edge} {x y : Operand} {v : PV} {lo hi : Nat} {L : List Res}
theorem Z0l {o : Oper} {ids : List Nat} (h : Zb o.op = .read) (ht : touched X e o.op = ids) (hs : ∀ id ∈ ids, Seen ops base i id false) : ZZ X ops base i o e = true := by
 refine ask0 ?_
 simp only [ZP, h]
 rw [Y8]
 refine ⟨?_, ?_⟩
 ·rw [ht, YF];intro id hid
  rcases hs id hid with ⟨h1, _⟩ | ⟨j, rfl, h1, h2, h3⟩
  ·simp [h1]
  ·simp only [Ya, h1 rfl, h2, Bool.not_false, Y0N, Bool.true_and, Ys, decide_eq_true_eq];exact .inr (by omega)
 ·cases ids with
  | nil => rw [ht]; simp
  | cons a l =>
   have : Z3M (Region.before ops) ops i = true := by
    rcases hs a (by simp) with ⟨_, _, h1⟩ | ⟨j, _, h1, _⟩
    ·exact h1 rfl
    ·unfold Z3M; simp [h1 rfl]
   simp [this]
def SeenR (X : Ctx) (e : Env) (ops : Array Oper) (base id : Nat) (op : Op) : Prop := id < base ∧ ∃ ids, Z0u X ops e op = ids ∧ id ∈ ids
def SeenW (X : Ctx) (e : Env) (ops : Array Oper) (base i id : Nat) : Prop :=
 (id < base ∧ Z16 X e (Region.before ops) ops i id = false) ∨ ∃ j, id = base + j ∧ ((Region.before ops).getD i 0).testBit j = true ∧ j < ops.size
theorem fresh_static {k : Nat} (h : Z4f (Region.before ops) ops i = false) : Z16 X e (Region.before ops) ops i k = false := by
 unfold Z4f at h
 unfold Z16
 rw [List.any_eq_false] at h ⊢
 intro j hj
 have := h j hj
 cases ho : ops[j]? with
 | none => simp
 | some o =>
  rw [ho] at this;simp only [Y8, not_and, Bool.not_eq_true] at this ⊢;intro hu hr;rw [this hu] at hr;cases hr
inductive Elsewhere (X : Ctx) (e : Env) (ops : Array Oper) (id : Nat) : List Nat → Prop
 | nil : Elsewhere X e ops id []
 | cons {j : Nat} {o : Oper} {ids js : List Nat} (h1 : ops[j]? = some o) (h2 : Z0u X ops e o.op = ids) (h3 : ∀ x ∈ ids, id ≠ x) (t : Elsewhere X e ops id js) : Elsewhere X e ops id (j :: js)
theorem Has.ne {j k : Nat} {r s : Res} {a b : Nat} (H : Has σ lo hi L) (hj : L[j]? = some r) (hk : L[k]? = some s) (hjk : Nat.beq j k = false) (ha : r.owner = some a) (hb : s.owner = some b) : a ≠ b := fun h =>
 H.sep j k r s (fun e => by subst e; simp at hjk) hj hk a ha (h ▸ hb)
theorem ask_seenW {o : Oper} {id : Nat} (h : Zb o.op = .write) (ht : touched X e o.op = [id]) (hs : SeenW X e ops base i id) : ZZ X ops base i o e = true := by
 refine ask0 ?_
 simp only [ZP, h, ht, Ye, List.all_nil, Bool.and_true]
 rcases hs with ⟨h1, h0⟩ | ⟨j, rfl, h2, h3⟩
 ·simp [h1, h0]
 ·simp only [Ya, h2, Ys, Y8, decide_eq_true_eq];exact .inr ⟨⟨by omega, trivial⟩, by omega⟩
theorem Z2C {o : Oper} {ids : List Nat} (h : Zb o.op = .write) (ht : touched X e o.op = ids) (hs : ∀ id ∈ ids, Seen ops base i id true) : ZZ X ops base i o e = true := by
 refine ask0 ?_
 simp only [ZP, h, ht, YF]
 intro id hid
 rcases hs id hid with ⟨h1, h0⟩ | ⟨j, rfl, h1, h2, h3⟩
 ·simp [h1, fresh_static (h0.1 rfl)]
 ·simp only [Ya, h2, Ys, Y8, decide_eq_true_eq];exact .inr ⟨⟨by omega, trivial⟩, by omega⟩
theorem Ops.boxH {cs : List PV} (H : Has σ lo hi L) (hlo : lo ≤ base + i) (hhi : base + i < hi) (hx : Z0 X e x = some v) (hc : v.cells = some cs) (hd : Nat.blt d n = true)
  (hk : ∀ σ', Has σ' (base + i + 1) hi (.blk (base + i) t1 cs :: L) → Ops X n dr ops base (i + 1) l (set e d (.ptr (base + i) cs.length 0)) σ' K) :
  Ops X n dr ops base i (⟨some d, .box t1 x, t, p, af, none⟩ :: l) e σ K :=
 .plain (x := .ptr (base + i) cs.length 0) (σ1 := σ.put (base + i) (.blk t1 cs true)) (by simp only [Z3, hx, Y1, hc, Y7, newD]) (fun _ => Zu rfl) hd
  (hk _ (H.push hlo hhi (r' := .blk (base + i) t1 cs) Z0f rfl))
theorem Ops.Z2U {cs : List PV} (H : Has σ lo hi L) (hlo : lo ≤ base + i) (hhi : base + i < hi) (hz : tzero X.P t1 = some cs) (hd : Nat.blt d n = true)
  (hk : ∀ σ', Has σ' (base + i + 1) hi (.blk (base + i) t1 cs :: L) → Ops X n dr ops base (i + 1) l (set e d (.ptr (base + i) cs.length 0)) σ' K) :
  Ops X n dr ops base i (⟨some d, .alloc t1, t, p, af, none⟩ :: l) e σ K :=
 .plain (x := .ptr (base + i) cs.length 0) (σ1 := σ.put (base + i) (.blk t1 cs true)) (by simp only [Z3, hz, Y7, newD]) (fun _ => Zu rfl) hd
  (hk _ (H.push hlo hhi (r' := .blk (base + i) t1 cs) Z0f rfl))
theorem Ops.Z2J {id ver off f fo : Nat} {ft : TypeId} {m : Nat} {te : TypeId} {cells : List PV} (H : Has σ lo hi L) (k : Nat) (hk : L[k]? = some (.blk id te cells)) (hv : cells.length = ver) (hx : Z0 X e x = some (.ptr id ver off))
  (hf : tfield X.P t1 f = some (fo, ft)) (hs : tsize X.P ft = some (m + 1)) (ha : dr = true → Seen ops base i id false) (hd : Nat.blt d n = true)
  (hk' : Ops X n dr ops base (i + 1) l (set e d (.ptr id ver (off + fo))) σ K) : Ops X n dr ops base i (⟨some d, .fieldAddr t1 x f, t, p, af, none⟩ :: l) e σ K := by
 refine .plain (x := .ptr id ver (off + fo)) (σ1 := σ) ?_ (fun h => Z0l (ids := [id]) rfl ?_ (fun j hj => by simp at hj; subst hj; exact ha h)) hd hk'
 ·simp only [Z3, hx, Y1, Z0F, hf, hs, H.cur hk hv, if_true, Y7]
 ·simp only [touched, ZI, YC, YE, hx, vids, YD]
theorem Ops.loadH {id ver off : Nat} {te : TypeId} {cells : List PV} (H : Has σ lo hi L) (k : Nat) (hk : L[k]? = some (.blk id te cells)) (hv : cells.length = ver) (hx : Z0 X e x = some (.ptr id ver off))
  (hg : tagg X.P t1 = some false) (hc : cells[off]? = some v) (ha : dr = true → Seen ops base i id false) (hd : Nat.blt d n = true)
  (hk' : Ops X n dr ops base (i + 1) l (set e d v) σ K) : Ops X n dr ops base i (⟨some d, .load t1 x, t, p, af, none⟩ :: l) e σ K := by
 refine .plain (x := v) (σ1 := σ) ?_ (fun h => Z0l (ids := [id]) rfl ?_ (fun j hj => by simp at hj; subst hj; exact ha h)) hd hk'
 ·simp only [Z3, hx, Y1, Z1a, H.blk hk, hv, if_true, hg, hc, Y7]
 ·simp only [touched, ZI, YC, YE, hx, vids, YD]
theorem Ops.loadHA {id ver off m : Nat} {te : TypeId} {cells cs : List PV} (H : Has σ lo hi L) (k : Nat) (hk : L[k]? = some (.blk id te cells)) (hv : cells.length = ver) (hx : Z0 X e x = some (.ptr id ver off))
  (hg : tagg X.P t1 = some true) (hm : tsize X.P t1 = some m) (hl : Nat.ble (off + m) cells.length = true) (hc : (cells.drop off).take m = cs) (ha : dr = true → Seen ops base i id false) (hd : Nat.blt d n = true)
  (hk' : Ops X n dr ops base (i + 1) l (set e d (.agg cs)) σ K) : Ops X n dr ops base i (⟨some d, .load t1 x, t, p, af, none⟩ :: l) e σ K := by
 refine .plain (x := .agg cs) (σ1 := σ) ?_ (fun h => Z0l (ids := [id]) rfl ?_ (fun j hj => by simp at hj; subst hj; exact ha h)) hd hk'
 ·have hl : off + m ≤ cells.length := Yk hl
  have h2 : off + m ≤ ver := hv ▸ hl
  simp only [Z3, hx, Y1, Z1a, H.blk hk, hv, if_true, hg, hm, h2, hc, Y7]
 ·simp only [touched, ZI, YC, YE, hx, vids, YD]
theorem Ops.storeH {id ver off m : Nat} {te : TypeId} {cells ys cells' : List PV} (H : Has σ lo hi L) (k : Nat) (hk : L[k]? = some (.blk id te cells)) (hv : cells.length = ver) (hx : Z0 X e x = some (.ptr id ver off))
  (hy : Z0 X e y = some v) (hc : v.cells = some ys) (hm : tsize X.P t1 = some m) (hl : ys.length = m) (hle : Nat.ble (off + m) cells.length = true) (hc' : splice cells off ys = cells')
  (ha : dr = true → SeenW X e ops base i id)
  (hk' : ∀ σ', Has σ' lo hi (L.set k (.blk id te cells')) → Ops X n dr ops base (i + 1) l e σ' K) : Ops X n dr ops base i (⟨none, .store t1 x y, t, p, af, none⟩ :: l) e σ K := by
 refine .plain0 (x := .undef) (σ1 := σ.put id (.blk te cells' true)) ?_ (fun h => ask_seenW (id := id) rfl ?_ (ha h)) (hk' _ (H.put hk rfl (r' := .blk id te cells') Z0f rfl))
 ·have hle : off + m ≤ cells.length := Yk hle
  simp only [Z3, hx, hy, Z2G, H.blk hk, hv, if_true, hm, hc, hl, hc'];rw [if_pos ⟨trivial, hv ▸ hle⟩]
  rfl
 ·simp only [touched, ZI, YC, YE, hx, vids, YD]
theorem Ops.Z0m {f fo : Nat} {ft : TypeId} {m : Nat} {cells : List FV} (hx : Z0 X e x = some (.fptr cells)) (hf : tfield X.P t1 f = some (fo, ft)) (hs : tsize X.P ft = some (m + 1)) (hd : Nat.blt d n = true)
  (hk' : Ops X n dr ops base (i + 1) l (set e d (.fptr (cells.drop fo))) σ K) : Ops X n dr ops base i (⟨some d, .fieldAddr t1 x f, t, p, af, none⟩ :: l) e σ K := by
 refine .plain (x := .fptr (cells.drop fo)) (σ1 := σ) ?_ (fun h => Z1J rfl ?_) hd hk'
 ·simp only [Z3, hx, Y1, Z0F, hf, hs, Y7]
 ·simp only [touched, ZI, YC, YE, hx, vids, YD]
theorem Ops.loadP {u : FV} {cells : List FV} (hx : Z0 X e x = some (.fptr cells)) (hg : tagg X.P t1 = some false) (hc : cells[0]? = some u) (hd : Nat.blt d n = true)
  (hk' : Ops X n dr ops base (i + 1) l (set e d (.v u)) σ K) : Ops X n dr ops base i (⟨some d, .load t1 x, t, p, af, none⟩ :: l) e σ K := by
 refine .plain (x := .v u) (σ1 := σ) ?_ (fun h => Z1J rfl ?_) hd hk'
 ·simp only [Z3, hx, Y1, Z1a, hg, hc, Y7]
 ·simp only [touched, ZI, YC, YE, hx, vids, YD]
theorem Ops.loadPA {m : Nat} {cells cs : List FV} (hx : Z0 X e x = some (.fptr cells)) (hg : tagg X.P t1 = some true) (hm : tsize X.P t1 = some m) (hl : Nat.ble m cells.length = true) (hc : cells.take m = cs) (hd : Nat.blt d n = true)
  (hk' : Ops X n dr ops base (i + 1) l (set e d (.agg (vs cs))) σ K) : Ops X n dr ops base i (⟨some d, .load t1 x, t, p, af, none⟩ :: l) e σ K := by
 refine .plain (x := .agg (vs cs)) (σ1 := σ) ?_ (fun h => Z1J rfl ?_) hd hk'
 ·have hl : m ≤ cells.length := Yk hl
  simp only [Z3, hx, Y1, Z1a, hg, hm, hl, if_true, hc, Y7]
 ·simp only [touched, ZI, YC, YE, hx, vids, YD]
def at? {α : Type} (l : List α) (i : Int) : Option α := if 0 ≤ i then l[i.toNat]? else none
theorem at?_some {α : Type} {l : List α} {i : Int} {a : α} (h : at? l i = some a) : 0 ≤ i ∧ l[i.toNat]? = some a := by
 unfold at? at h
 split at h
 ·exact ⟨by assumption, h⟩
 ·cases h
theorem Ops.indexP {α : Type} {c : α → List FV} {xs : List α} {iv : Int} {ik : IntKind} {u : α} {el : TypeId} {m : Nat} (hx : Z0 X e x = some (.v (.sl (xs.map c)))) (hy : Z0 X e y = some (.v (.int ik iv))) (hu : at? xs iv = some u)
  (ht : tslice X.P t1 = some el) (hs : tsize X.P el = some m) (hm : (c u).length = m) (hd : Nat.blt d n = true)
  (hk' : Ops X n dr ops base (i + 1) l (set e d (.fptr (c u))) σ K) : Ops X n dr ops base i (⟨some d, .indexAddr t1 x y, t, p, af, none⟩ :: l) e σ K := by
 obtain ⟨h0, hu⟩ := at?_some hu
 have hu' : (xs.map c)[iv.toNat]? = some (c u) := by rw [YH, hu]; rfl
 refine .plain (x := .fptr (c u)) (σ1 := σ) ?_ (fun h => Z1J rfl ?_) hd hk'
 ·simp only [Z3, hx, hy, Zz, Z1V, if_pos h0, ht, Y1, hs, hu', hm, if_true, Y7]
 ·simp only [touched, ZI, YC, YE, hx, vids, YD]
theorem Ops.lenP {xs : List (List FV)} {af2 : Array TypeId} {el : TypeId} (hx : Z0 X e x = some (.v (.sl xs))) (ht : tslice X.P t1 = some el) (hd : Nat.blt d n = true)
  (hk' : Ops X n dr ops base (i + 1) l (set e d (.v (.int .i64 xs.length))) σ K) : Ops X n dr ops base i (⟨some d, .call { callee := .builtin .len, args := #[x], argTypes := #[t1] }, t, p, af, none⟩ :: l) e σ K := by
 refine .plain (x := .v (.int .i64 xs.length)) (σ1 := σ) ?_ (fun h => Z1J rfl ?_) hd hk'
 ·simp only [Z3, ZW, ZG, hx, Y1, Zf, lenD, ht, Y7]
 ·simp only [touched, ZI, YC, YE, hx, vids, YD]
end
end Go.Dn

namespace Go.Dn
open Go
section
variable {σ : Heap} {lo hi : Nat} {L : List Res} {k : Nat} {r : Res}
theorem Has.sl (H : Has σ lo hi L) {v : PV} {e : TypeId} {sz : Nat} {xs : List (List FV)} {live : Bool} (hk : L[k]? = some (.sl v e sz xs live)) :
  (∀ y ∈ xs, y.length = sz) ∧ ((v = .nils ∧ xs = []) ∨ ∃ id, v = .buf id xs.length sz ∧ σ.ent id = .blk e (vs xs.flatten) live) := H.holds k _ hk
theorem Has.renew (H : Has σ lo hi L) {b : Nat} {en : Ent} {r' : Res} (hk : L[k]? = some r) (hlo : lo ≤ b) (hhi : b < hi) (hr : r'.holds (σ.put b en)) (ho : r'.owner = some b) : Has (σ.put b en) (b + 1) hi (L.set k r') := by
 have hle := H.le
 have hne : ∀ (j : Nat) (s : Res), L[j]? = some s → s.owner ≠ some b := fun j s h e => by
  have := (H.lt j s h b e).1; omega
 have key : ∀ (j : Nat) (s : Res), (L.set k r')[j]? = some s → (j = k ∧ s = r') ∨ (j ≠ k ∧ L[j]? = some s) := by
  intro j s h;rw [Y06] at h
  by_cases hj : k = j
  ·subst hj;rw [if_pos rfl] at h
   split at h
   ·cases h; exact .inl ⟨rfl, rfl⟩
   ·cases h
  ·rw [if_neg hj] at h;exact .inr ⟨fun e => hj e.symm, h⟩
 refine ⟨fun j s h => ?_, fun j s h id' ho2 => ?_, fun i j s t hij h1 h2 id' hs => ?_, hle⟩
 ·rcases key j s h with ⟨_, rfl⟩ | ⟨hj, h⟩
  ·exact hr
  ·exact Z2r (H.holds j s h) (hne j s h)
 ·rcases key j s h with ⟨_, rfl⟩ | ⟨hj, h⟩
  ·rw [ho] at ho2; cases ho2; exact ⟨.inl (by omega), show _ < σ.nx by omega⟩
  ·have := H.lt j s h id' ho2; exact ⟨by omega, this.2⟩
 ·rcases key i s h1 with ⟨hi', rfl⟩ | ⟨hi', h1'⟩
  ·rw [ho] at hs; cases hs
   rcases key j t h2 with ⟨hj, rfl⟩ | ⟨hj, h2'⟩
   ·omega
   ·exact hne j t h2'
  ·rcases key j t h2 with ⟨hj, rfl⟩ | ⟨hj, h2'⟩
   ·intro e;rw [ho] at e; cases e;exact hne i s h1' hs
   ·exact H.sep i j s t hij h1' h2' id' hs
theorem Has.say (H : Has σ lo hi L) {r' : Res} (hk : L[k]? = some r) (hr : r'.holds σ) (ho : r'.owner = r.owner) : Has σ lo hi (L.set k r') := by
 have key : ∀ (j : Nat) (s : Res), (L.set k r')[j]? = some s → (j = k ∧ s = r') ∨ (j ≠ k ∧ L[j]? = some s) := by
  intro j s h;rw [Y06] at h
  by_cases hj : k = j
  ·subst hj;rw [if_pos rfl] at h
   split at h
   ·cases h; exact .inl ⟨rfl, rfl⟩
   ·cases h
  ·rw [if_neg hj] at h;exact .inr ⟨fun e => hj e.symm, h⟩
 refine ⟨fun j s h => ?_, fun j s h id' ho2 => ?_, fun i j s t hij h1 h2 id' hs => ?_, H.le⟩
 ·rcases key j s h with ⟨_, rfl⟩ | ⟨hj, h⟩
  ·exact hr
  ·exact H.holds j s h
 ·rcases key j s h with ⟨_, rfl⟩ | ⟨hj, h⟩
  ·rw [ho] at ho2; exact H.lt k r hk id' ho2
  ·exact H.lt j s h id' ho2
 ·rcases key i s h1 with ⟨hi', rfl⟩ | ⟨hi', h1'⟩
  ·rw [ho] at hs
   rcases key j t h2 with ⟨hj, rfl⟩ | ⟨hj, h2'⟩
   ·omega
   ·exact H.sep k j r t (fun e => hj e.symm) hk h2' id' hs
  ·rcases key j t h2 with ⟨hj, rfl⟩ | ⟨hj, h2'⟩
   ·rw [ho]; exact H.sep i k s r hi' h1' hk id' hs
   ·exact H.sep i j s t hij h1' h2' id' hs
theorem Has.same {σ' : Heap} (H : Has σ lo hi L) (he : ∀ id, id < σ.nx → σ'.ent id = σ.ent id) (hn : σ.nx ≤ σ'.nx) : Has σ' lo hi L := by
 refine ⟨fun j s h => ?_, fun j s h id ho => ⟨(H.lt j s h id ho).1, YJ (H.lt j s h id ho).2 hn⟩, H.sep, YX H.le hn⟩
 have h1 := H.holds j s h
 have h2 := H.lt j s h
 cases s with
 | blk id t cells => exact (he id (h2 id rfl).2).trans h1
 | sl v e sz xs live =>
  refine ⟨h1.1, h1.2.imp (fun h => h) fun ⟨id, hv, hb⟩ => ⟨id, hv, ?_⟩⟩
  exact (he id (h2 id (by rw [hv]; rfl)).2).trans hb
 | floor m => exact YX h1 hn
 | hole id => trivial
 | loop id fn e n ps as_ bo st pd => exact (he id (h2 id rfl).2).trans h1
 | mp id kv => exact (he id (h2 id rfl).2).trans h1
 | fix id en => exact (he id (h2 id rfl).2).trans h1
theorem Has.floor (H : Has σ lo hi L) (m : Nat) (hm : m ≤ σ.nx) : Has σ lo hi (.floor m :: L) := by
 refine ⟨fun j s h => ?_, fun j s h id' ho2 => ?_, fun i j s t hij h1 h2 id' hs => ?_, H.le⟩
 ·cases j with
  | zero => cases h; exact hm
  | succ j => exact H.holds j s h
 ·cases j with
  | zero => cases h; cases ho2
  | succ j => exact H.lt j s h id' ho2
 ·cases i with
  | zero => cases h1; cases hs
  | succ i =>
   cases j with
   | zero => cases h2; intro e; cases e
   | succ j => exact H.sep i j s t (fun e => hij (by rw [e])) h1 h2 id' hs
end
def pick (L : List Res) (ks : List Nat) : List Res := ks.filterMap (L[·]?)
theorem Has.pick {σ : Heap} {lo hi : Nat} {L : List Res} (H : Has σ lo hi L) : ∀ (ks : List Nat), ks.Nodup → Has σ lo hi (Dn.pick L ks)
 | [], _ => Has.nil H.le
 | k :: ks, hn => by
  have hn := List.nodup_cons.1 hn
  have ih := Has.pick H ks hn.2
  cases hr : L[k]? with
  | none => simpa [Dn.pick, hr] using ih
  | some r =>
   have e : Dn.pick L (k :: ks) = r :: Dn.pick L ks := by simp [Dn.pick, hr]
   rw [e];have mem : ∀ (j : Nat) (s : Res), (Dn.pick L ks)[j]? = some s → ∃ k', k' ∈ ks ∧ L[k']? = some s := fun j s h => by
    have := YB h
    unfold Dn.pick at this;exact List.mem_filterMap.1 this
   refine ⟨fun j s h => ?_, fun j s h => ?_, fun i j s t hij h1 h2 => ?_, H.le⟩
   ·cases j with
    | zero => cases h; exact H.holds k r hr
    | succ j => exact ih.holds j s h
   ·cases j with
    | zero => cases h; exact H.lt k r hr
    | succ j => exact ih.lt j s h
   ·cases i with
    | zero =>
     cases h1;cases j with
     | zero => exact absurd rfl hij
     | succ j =>
      obtain ⟨k', hk', h2'⟩ := mem j t h2
      exact H.sep k k' r t (fun e => hn.1 (e ▸ hk')) hr h2'
    | succ i =>
     cases j with
     | zero =>
      cases h2;obtain ⟨k', hk', h1'⟩ := mem i s h1
      exact H.sep k' k s r (fun e => hn.1 (e ▸ hk')) h1' hr
     | succ j => exact ih.sep i j s t (fun e => hij (by rw [e])) h1 h2
theorem Z1H (xs ys : List FV) : vs (xs ++ ys) = vs xs ++ vs ys := Y05 ..
theorem Zo (xs : List FV) : (vs xs).length = xs.length := YI ..
theorem vs_get (xs : List FV) (j : Nat) : (vs xs)[j]? = (xs[j]?).map .v := YH ..
theorem Z3e (xs : List FV) (j : Nat) : (vs xs).take j = vs (xs.take j) := (Y0D ..).symm
theorem vs_drop (xs : List FV) (j : Nat) : (vs xs).drop j = vs (xs.drop j) := (List.map_drop ..).symm
theorem Zg {sz : Nat} : ∀ {xs : List (List FV)}, (∀ y ∈ xs, y.length = sz) → xs.flatten.length = xs.length * sz
 | [], _ => by simp
 | x :: xs, h => by
  have := Zg (xs := xs) fun y hy => h y (YN _ hy)
  simp only [YU, YK, this, h x YQ, Yf, Nat.succ_mul];omega
theorem flat_drop {sz : Nat} : ∀ {xs : List (List FV)}, (∀ y ∈ xs, y.length = sz) → ∀ {i : Nat} {y : List FV}, xs[i]? = some y → xs.flatten.drop (i * sz) = y ++ (xs.drop (i + 1)).flatten
 | [], _, i, y, h => by simp at h
 | x :: xs, hs, 0, y, h => by
  simp at h; subst h; simp
 | x :: xs, hs, i + 1, y, h => by
  have hx := hs x YQ
  have := flat_drop (xs := xs) (fun y hy => hs y (YN _ hy)) (i := i) (y := y) (by simpa using h)
  rw [YU, Nat.succ_mul, Nat.add_comm (i * sz) sz, ← hx, ← List.drop_drop, List.drop_left, hx, this]
  simp
theorem flat_part {sz : Nat} {xs : List (List FV)} (hs : ∀ y ∈ xs, y.length = sz) {i : Nat} {y : List FV} (h : xs[i]? = some y) : (xs.flatten.drop (i * sz)).take sz = y := by
 rw [flat_drop hs h, Yz (by rw [hs y (YB h)]; exact Y9 _), Yg (by rw [hs y (YB h)]; exact Y9 _)]
theorem flat_le {sz : Nat} {xs : List (List FV)} (hs : ∀ y ∈ xs, y.length = sz) {i : Nat} {y : List FV} (h : xs[i]? = some y) : i * sz + sz ≤ xs.flatten.length := by
 have hi : i < xs.length := by
  rcases YZ i xs.length with h1 | h1
  ·exact h1
  ·rw [Yj h1] at h; cases h
 rw [Zg hs, ← Nat.succ_mul]
 exact YT _ hi
theorem flat_splice {sz : Nat} : ∀ {xs : List (List FV)}, (∀ y ∈ xs, y.length = sz) → ∀ {i : Nat} {y : List FV}, xs[i]? = some y → ∀ {off : Nat} {zs : List FV}, off + zs.length ≤ sz →
  splice (vs xs.flatten) (i * sz + off) (vs zs) = vs (xs.set i (y.take off ++ zs ++ y.drop (off + zs.length))).flatten := by
 intro xs hs i y h off zs hle
 have hy := hs y (YB h)
 have hi : i < xs.length := by
  rcases YZ i xs.length with h1 | h1
  ·exact h1
  ·rw [Yj h1] at h; cases h
 have e1 : xs.flatten = (xs.take i).flatten ++ (y ++ (xs.drop (i + 1)).flatten) := by
  conv => lhs; rw [← Yx i xs]
  rw [Yq, List.drop_eq_getElem_cons hi, YU];rw [Y6 hi] at h;cases h; rfl
 have e2 : xs.set i (y.take off ++ zs ++ y.drop (off + zs.length)) = xs.take i ++ (y.take off ++ zs ++ y.drop (off + zs.length)) :: xs.drop (i + 1) := by
  rw [Ym, if_pos hi]
 have hl : (xs.take i).flatten.length = i * sz := by
  rw [Zg (sz := sz) fun y hy => hs y (YS hy), YM, Nat.min_eq_left (by omega)]
 rw [e2]
 unfold splice
 rw [Z3e, vs_drop, ← Z1H, ← Z1H, Zo]
 congr 1
 rw [e1, Yq, YU]
 have t1 : List.take (i * sz + off) ((xs.take i).flatten ++ (y ++ (xs.drop (i + 1)).flatten)) = (xs.take i).flatten ++ y.take off := by
  rw [List.take_append, hl, Yg (by omega), Yz (by omega)]
  congr 2; omega
 have t2 : List.drop (i * sz + off + zs.length) ((xs.take i).flatten ++ (y ++ (xs.drop (i + 1)).flatten)) = y.drop (off + zs.length) ++ (xs.drop (i + 1)).flatten := by
  rw [List.drop_append, hl, List.drop_eq_nil_of_le (by omega), List.nil_append, List.drop_append_of_le_length (by omega)]
  congr 2; omega
 rw [t1, t2]
 simp only [Yn]
theorem at?_map {α β : Type} {f : α → β} {l : List α} {i : Int} {a : α} (h : at? l i = some a) : at? (l.map f) i = some (f a) := by
 obtain ⟨h0, h1⟩ := at?_some h
 rw [at?, if_pos h0, YH, h1]; rfl
def set? {α : Type} (l : List α) (i : Int) (a : α) : Option (List α) := if 0 ≤ i ∧ i.toNat < l.length then some (l.set i.toNat a) else none
def app? {α : Type} (by_ : Nat) (l m : List α) : Option (List α) := if (l.length + m.length) * by_ ≤ room then some (l ++ m) else none
def new? {α : Type} (by_ : Nat) (n : Int) (z : α) : Option (List α) := if 0 ≤ n ∧ n.toNat * by_ ≤ room then some (List.replicate n.toNat z) else none
def cut? {α : Type} (l : List α) (i j : Int) : Option (List α) := if 0 ≤ i ∧ i ≤ j ∧ j ≤ l.length then some ((l.take j.toNat).drop i.toNat) else none
section
variable {X : Ctx} {n : Nat} {dr : Bool} {fn : FuncId} {ops : Array Oper} {base i : Nat} {l : List Oper} {e : Env} {σ : Heap} {K : Env → Heap → Prop} {Q : Ex → Env → Heap → Prop} {c a b : Code}
variable {d : Nat} {t t1 t2 : TypeId} {p : String} {af : Array Edge} {x y z : Operand} {v : PV} {lo hi : Nat} {L : List Res}
theorem noBuf {x : PV} (h : needF x = false) : Z2s x = [] := by
 cases x with
 | agg cs =>
  simp only [needF, Z2s, List.any_eq_false] at h ⊢;rw [List.flatMap_eq_nil_iff];intro x hx;have := h x hx
  cases x <;> first | rfl | (simp [isRef] at this)
 | _ => first | rfl | cases h
theorem ask_build {parts : Array (Nat × Operand)} {len : Nat} {pp : List (Nat × PV)} (hp : Z1r X e parts.toList = some pp) (h : (pp.all fun p => !needF p.2) = true) : ZZ X ops base i ⟨some d, .buildSlice t1 len parts, t, p, af, none⟩ e = true := by
 refine ask0 ?_
 have : frozen X e (.buildSlice t1 len parts) = [] := by
  simp only [frozen, hp];rw [List.flatMap_eq_nil_iff];intro q hq;have := List.all_eq_true.1 h q hq
  simp only [YV] at this;exact noBuf this
 simp only [ZP, Zb, this]
 rfl
theorem frz_none : ∀ {ps : List (Nat × PV)} {σ : Heap}, (ps.all fun p => !needF p.2) = true → Z05 σ ps = some (ps, σ)
 | [], σ, _ => rfl
 | p :: ps, σ, h => by
  simp only [Ye, Y8, YV] at h;simp only [Z05, h.1, YA, if_false, frz_none h.2, Y1]
theorem Ops.Z2t {parts : Array (Nat × Operand)} {len sz : Nat} {el : TypeId} {zs : List PV} {pp : List (Nat × PV)} (xs : List (List FV)) (H : Has σ lo hi L) (hlo : lo ≤ base + i) (hhi : base + i < hi)
  (ht : tslice X.P t1 = some el) (hp : Z1r X e parts.toList = some pp) (hs : tsize X.P el = some sz) (hz : tzero X.P el = some zs) (hc : (zs.length == sz && sz != 0 && Nat.ble (len * sz) 1000000) = true)
  (hf : Z3F (fun i => some (i * sz, sz)) (List.replicate len zs).flatten pp = some (vs xs.flatten)) (hl : xs.length = len) (hx : xs.all (fun y => y.length == sz) = true) (hd : Nat.blt d n = true)
  (hk : ∀ σ', Has σ' (base + i + 1) hi (.sl (.buf (base + i) len sz) el sz xs true :: L) → Ops X n dr ops base (i + 1) l (set e d (.buf (base + i) len sz)) σ' K) (hfr : (pp.all fun p => !needF p.2) = true := by rfl) (hlit : (X.lit && len != 0) = false := by first | rfl | exact Bool.and_false _) :
  Ops X n dr ops base i (⟨some d, .buildSlice t1 len parts, t, p, af, none⟩ :: l) e σ K := by
 simp only [Y8, beq_iff_eq, bne_iff_ne, ne_eq, Nat.ble_eq] at hc
 refine .plain (x := .buf (base + i) len sz) (σ1 := σ.put (base + i) (.blk el (vs xs.flatten) true)) ?_ (fun _ => ask_build hp hfr) hd (hk _ (H.push hlo hhi (r' := .sl (.buf (base + i) len sz) el sz xs true) ?_ rfl))
 ·simp only [Z3, Z0N, hp, Y1, frz_none hfr, Z0p, ht, hs, hz];rw [if_pos ⟨hc.1.1, hc.1.2, hc.2⟩, hf]; simp only [litR, hlit]; rfl
 ·exact ⟨fun y hy => by have := List.all_eq_true.1 hx y hy; simpa using this, .inr ⟨base + i, by rw [hl], Z0f⟩⟩
theorem Ops.makeS {el : TypeId} {sz by_ : Nat} {m : Int} {zs : List FV} {α : Type} {cc : α → List FV} {za : α} {r : List α} (H : Has σ lo hi L) (hlo : lo ≤ base + i) (hhi : base + i < hi)
  (hx : Z0 X e x = some (.v (.int .i64 m))) (hy : Z0 X e y = some (.v (.int .i64 m))) (hr : new? by_ m za = some r)
  (ht : tslice X.P t1 = some el) (hs : tsize X.P el = some sz) (hb : tbytes X.P el = some by_) (hz : tzero X.P el = some (vs zs)) (hza : cc za = zs) (hc : (zs.length == sz && sz != 0 && by_ != 0) = true) (hd : Nat.blt d n = true)
  (hk : ∀ σ', Has σ' (base + i + 1) hi (.sl (.buf (base + i) m.toNat sz) el sz (r.map cc) true :: L) → Ops X n dr ops base (i + 1) l (set e d (.buf (base + i) m.toNat sz)) σ' K) :
  Ops X n dr ops base i (⟨some d, .makeSlice t1 x y, t, p, af, none⟩ :: l) e σ K := by
 simp only [Y8, beq_iff_eq, bne_iff_ne, ne_eq] at hc
 unfold new? at hr
 split at hr
 ·rename_i hm;cases hr;have e1 : (List.map cc (List.replicate m.toNat za)) = List.replicate m.toNat zs := by rw [List.map_replicate, hza]
  have e2 : (List.replicate m.toNat (vs zs)).flatten = vs (List.replicate m.toNat zs).flatten := by
   unfold vs;rw [List.map_flatten, List.map_replicate]
  refine .plain (x := .buf (base + i) m.toNat sz) (σ1 := σ.put (base + i) (.blk el (vs (List.replicate m.toNat zs).flatten) true)) ?_ (fun _ => Zu rfl) hd (hk _ (H.push hlo hhi (r' := .sl (.buf (base + i) m.toNat sz) el sz _ true) ?_ rfl))
  ·simp only [Z3, hx, hy, makeD, ht, hs, hb, hz, Zo];rw [if_pos ⟨trivial, hm.1, hm.2, hc.1.1, hc.1.2, hc.2⟩, e2]
  ·rw [e1];exact ⟨fun y hy => by rw [List.eq_of_mem_replicate hy]; exact hc.1.1, .inr ⟨base + i, by simp, Z0f⟩⟩
 ·cases hr
theorem Ops.lenS {el et : TypeId} {sz : Nat} {xs : List (List FV)} {lv : Bool} (H : Has σ lo hi L) (k : Nat) (hk : L[k]? = some (.sl v et sz xs lv)) (hx : Z0 X e x = some v) (ht : tslice X.P t1 = some el)
  (ha : dr = true → ∀ id, v.owner = some id → Seen ops base i id false) (hd : Nat.blt d n = true)
  (hk' : Ops X n dr ops base (i + 1) l (set e d (.v (.int .i64 xs.length))) σ K) : Ops X n dr ops base i (⟨some d, .call { callee := .builtin .len, args := #[x], argTypes := #[t1] }, t, p, af, none⟩ :: l) e σ K := by
 obtain ⟨hs, hv⟩ := H.sl hk
 refine .plain (x := .v (.int .i64 xs.length)) (σ1 := σ) ?_ (fun h => Z0l rfl rfl ?_) hd hk'
 ·simp only [Z3, ZW, ZG, hx, Y1, Zf, lenD, ht]
  rcases hv with ⟨rfl, rfl⟩ | ⟨id, rfl, hb⟩
  ·rfl
  ·have : σ.cur id (xs.length * sz) = true := by simp only [Heap.cur, hb, Zo, Zg hs, beq_self_eq_true]
   simp only [this, if_true, Y7]
 ·intro id hid;simp only [touched, ZI, YC, YE, hx, YD] at hid
  rcases hv with ⟨rfl, rfl⟩ | ⟨id', rfl, hb⟩
  ·simp [vids] at hid
  ·simp [vids] at hid; subst hid; exact ha h _ rfl
theorem Ops.Z2X {el et : TypeId} {sz : Nat} {xs : List (List FV)} {u : List FV} {iv : Int} {ik : IntKind} {lv : Bool} (H : Has σ lo hi L) (k : Nat) (hk : L[k]? = some (.sl v et sz xs lv)) (hx : Z0 X e x = some v)
  (hy : Z0 X e y = some (.v (.int ik iv))) (hu : at? xs iv = some u) (ht : tslice X.P t1 = some el) (hs : tsize X.P el = some sz)
  (ha : dr = true → ∀ id, v.owner = some id → Seen ops base i id false) (hd : Nat.blt d n = true)
  (hk' : ∀ id, v = .buf id xs.length sz → Ops X n dr ops base (i + 1) l (set e d (.ptr id (xs.length * sz) (iv.toNat * sz))) σ K) : Ops X n dr ops base i (⟨some d, .indexAddr t1 x y, t, p, af, none⟩ :: l) e σ K := by
 obtain ⟨hsz, hv⟩ := H.sl hk
 obtain ⟨h0, hu⟩ := at?_some hu
 have hlt : iv.toNat < xs.length := by
  rcases YZ iv.toNat xs.length with h1 | h1
  ·exact h1
  ·rw [Yj h1] at hu; cases hu
 rcases hv with ⟨rfl, rfl⟩ | ⟨id, rfl, hb⟩
 ·simp at hu
 ·have hcur : σ.cur id (xs.length * sz) = true := by simp only [Heap.cur, hb, Zo, Zg hsz, beq_self_eq_true]
  refine .plain (x := .ptr id (xs.length * sz) (iv.toNat * sz)) (σ1 := σ) ?_ (fun h => Z0l rfl rfl ?_) hd (hk' id rfl)
  ·simp only [Z3, hx, hy, Zz, Z1V, if_pos h0, ht, hcur, hs, Bool.true_and, beq_self_eq_true, decide_eq_true hlt, if_true, Y7]
  ·intro id' hid;simp only [touched, ZI, YC, YE, hx, YD] at hid;simp [vids] at hid; subst hid; exact ha h _ rfl
theorem Ops.Z55 {id : Nat} {et : TypeId} {sz off ver : Nat} {xs : List (List FV)} {u : List FV} {iv : Int} {lv : Bool} (H : Has σ lo hi L) (k : Nat) (hk : L[k]? = some (.sl v et sz xs lv)) (hv : v = .buf id xs.length sz) (hver : ver = xs.length * sz)
  (hu : at? xs iv = some u) (hx : Z0 X e x = some (.ptr id ver off)) (hoff : off = iv.toNat * sz) (hg : tagg X.P t1 = some true) (hj : tsize X.P t1 = some sz) (ha : dr = true → Seen ops base i id false) (hd : Nat.blt d n = true)
  (hk' : Ops X n dr ops base (i + 1) l (set e d (.agg (vs u))) σ K) : Ops X n dr ops base i (⟨some d, .load t1 x, t, p, af, none⟩ :: l) e σ K := by
 subst hver; subst hoff
 obtain ⟨hsz, hv'⟩ := H.sl hk
 obtain ⟨h0, hu⟩ := at?_some hu
 rcases hv' with ⟨rfl, rfl⟩ | ⟨id', rfl, hb⟩
 ·cases hv
 ·cases hv;refine .plain (x := .agg (vs u)) (σ1 := σ) ?_ (fun h => Z0l (ids := [id]) rfl ?_ (fun j hj => by simp at hj; subst hj; exact ha h)) hd hk'
  ·have hle : iv.toNat * sz + sz ≤ xs.length * sz := by rw [← Zg hsz]; exact flat_le hsz hu
   simp only [Z3, hx, Y1, Z1a, hb, Zo, Zg hsz, if_true, hg, hj, if_pos hle, vs_drop, Z3e, flat_part hsz hu, Y7]
  ·simp only [touched, ZI, YC, YE, hx, vids, YD]
theorem Ops.storeS {id : Nat} {et : TypeId} {sz j m off ver : Nat} {xs : List (List FV)} {u zs u' : List FV} {iv : Int} {w : PV} (H : Has σ lo hi L) (k : Nat) (hk : L[k]? = some (.sl v et sz xs true)) (hv : v = .buf id xs.length sz) (hver : ver = xs.length * sz)
  (hu : at? xs iv = some u) (hx : Z0 X e x = some (.ptr id ver off)) (hoff : off = iv.toNat * sz + j) (hy : Z0 X e y = some w) (hw : w.cells = some (vs zs)) (hm : tsize X.P t1 = some m) (hz : zs.length = m) (hj : Nat.ble (j + m) sz = true)
  (hu' : u.take j ++ zs ++ u.drop (j + zs.length) = u') (ha : dr = true → Seen ops base i id true)
  (hk' : ∀ σ', Has σ' lo hi (L.set k (.sl v et sz (xs.set iv.toNat u') true)) → Ops X n dr ops base (i + 1) l e σ' K) : Ops X n dr ops base i (⟨none, .store t1 x y, t, p, af, none⟩ :: l) e σ K := by
 subst hver; subst hoff; subst hu'
 obtain ⟨hsz, hv'⟩ := H.sl hk
 obtain ⟨h0, hu⟩ := at?_some hu
 have hj : j + m ≤ sz := Yk hj
 have hul := hsz u (YB hu)
 rcases hv' with ⟨rfl, rfl⟩ | ⟨id', rfl, hb⟩
 ·cases hv
 ·cases hv;have hsp := flat_splice hsz hu (off := j) (zs := zs) (by omega)
  have hle : iv.toNat * sz + j + m ≤ (vs xs.flatten).length := by
   have := flat_le hsz hu
   rw [Zo]; omega
  refine .plain0 (x := .undef) (σ1 := σ.put id (.blk et (vs (xs.set iv.toNat (u.take j ++ zs ++ u.drop (j + zs.length))).flatten) true)) ?_ (fun h => Z2C (ids := [id]) rfl ?_ (fun j hj => by simp at hj; subst hj; exact ha h))
   (hk' _ (H.put hk rfl (r' := .sl _ et sz _ true) ⟨?_, .inr ⟨id, ?_, Z0f⟩⟩ rfl))
  ·have hl2 : (vs xs.flatten).length = xs.length * sz := by rw [Zo, Zg hsz]
   simp only [Z3, hx, hy, Z2G, hb, hl2, if_true, hm, hw, Zo, hz];rw [if_pos ⟨trivial, by rw [← hl2]; exact hle⟩, hsp, hz]
   rfl
  ·simp only [touched, ZI, YC, YE, hx, vids, YD]
  ·intro y hy
   rcases List.mem_or_eq_of_mem_set hy with h | rfl
   ·exact hsz y h
   ·simp only [YK, YM, Yl, hul];omega
  ·rw [Yd]
inductive Bring (L : List Res) (sz : Nat) : PV → List (List FV) → Prop
 | p {xs : List (List FV)} (h : xs.all (fun y => y.length == sz) = true) : Bring L sz (.v (.sl xs)) xs
 | m {α : Type} {c : α → List FV} {xs : List α} (h : ∀ a, (c a).length = sz) : Bring L sz (.v (.sl (xs.map c))) (xs.map c)
 | s {v : PV} {et : TypeId} {xs : List (List FV)} {lv : Bool} (k : Nat) (h : L[k]? = some (.sl v et sz xs lv)) : Bring L sz v xs
theorem brought {sz : Nat} {w : PV} {ys : List (List FV)} (H : Has σ lo hi L) (h : Bring L sz w ys) : Z1B σ sz w = some (vs ys.flatten, ys.length) ∧ ∀ y ∈ ys, y.length = sz := by
 cases h with
 | p h =>
  refine ⟨by simp only [Z1B, h, if_true], fun y hy => by have := List.all_eq_true.1 h y hy; simpa using this⟩
 | @m α c xs h =>
  have h1 : (xs.map c).all (fun y => y.length == sz) = true := by simp [h]
  refine ⟨by simp only [Z1B, h1, if_true], fun y hy => by have := List.all_eq_true.1 h1 y hy; simpa using this⟩
 | s k h =>
  obtain ⟨hs, hv⟩ := H.sl h
  refine ⟨?_, hs⟩
  rcases hv with ⟨rfl, rfl⟩ | ⟨id, rfl, hb⟩
  ·rfl
  ·simp only [Z1B, hb, Zo, Zg hs, and_self, if_true]
theorem Ops.appendS {el : TypeId} {sz by_ : Nat} {w : PV} {xs ys : List (List FV)} {zs : List PV} (H : Has σ lo hi L) (hlo : lo ≤ base + i) (hhi : base + i < hi) (k : Nat) (hk : L[k]? = some (.sl v el sz xs true))
  (hx : Z0 X e x = some v) (hy : Z0 X e y = some w) (hb : Bring L sz w ys) (ht : tslice X.P t1 = some el) (hs : tsize X.P el = some sz) (hby : tbytes X.P el = some by_) (hz : tzero X.P el = some zs)
  (hc : (sz != 0 && by_ != 0 && zs.length == sz) = true) (hroom : (xs.length + ys.length) * by_ ≤ room)
  (ha : dr = true → ∀ id ∈ vids v ++ vids w, Seen ops base i id true) (hd : Nat.blt d n = true)
  (hk' : ∀ v' σ', Has σ' (base + i + 1) hi (L.set k (.sl v' el sz (xs ++ ys) true)) → Ops X n dr ops base (i + 1) l (set e d v') σ' K) :
  Ops X n dr ops base i (⟨some d, .call { callee := .builtin .append, args := #[x, y], argTypes := #[t1, t1] }, t, p, af, none⟩ :: l) e σ K := by
 simp only [Y8, beq_iff_eq, bne_iff_ne, ne_eq] at hc
 obtain ⟨hb1, hb2⟩ := brought H hb
 obtain ⟨hsz, hv⟩ := H.sl hk
 have hall : ∀ y ∈ xs ++ ys, y.length = sz := fun y hy => (List.mem_append.1 hy).elim (hsz y) (hb2 y)
 have hn : ¬(sz = 0 ∨ by_ = 0 ∨ (some zs).map List.length ≠ some sz) := by
  rintro (h | h | h)
  ·exact hc.1.1 h
  ·exact hc.1.2 h
  ·exact h (by rw [Y7, hc.2])
 have ask : dr = true → ZZ X ops base i ⟨some d, .call { callee := .builtin .append, args := #[x, y], argTypes := #[t1, t1] }, t, p, af, none⟩ e = true := fun h =>
  Z2C rfl (by simp only [touched, ZI, YC, YE, hx, hy, YD]) (ha h)
 have start : Z3 X (Zr X) e σ (base + i) (.call { callee := .builtin .append, args := #[x, y], argTypes := #[t1, t1] }) = Z0I X.P σ (base + i) t1 v w := by
  simp only [Z3, ZW, ZG, hx, hy, Y1, Zf, if_true]
 rcases hv with ⟨rfl, rfl⟩ | ⟨id, rfl, hbl⟩
 ·by_cases h0 : ys = []
  ·subst h0;refine .plain (x := .nils) (σ1 := σ) ?_ ask hd (hk' _ _ ((H.weak (YX hlo (Nat.le_succ _)) (Y9 _)).say hk (r' := .sl .nils el sz ([] ++ []) true) ⟨by simp, .inl ⟨rfl, rfl⟩⟩ rfl))
   rw [start];simp only [Z0I, ht, hs, hby, hb1, hz, if_neg hn, Y04, if_true]
  ·have hl : ys.length ≠ 0 := fun h => h0 (List.length_eq_zero_iff.1 h)
   refine .plain (x := .buf (base + i) ys.length sz) (σ1 := σ.put (base + i) (.blk el (vs ys.flatten) true)) ?_ ask hd
    (hk' _ _ (H.renew hk hlo hhi (r' := .sl (.buf (base + i) ys.length sz) el sz ([] ++ ys) true) ⟨hall, .inr ⟨base + i, rfl, Z0f⟩⟩ rfl))
   rw [start];simp only [Y04, Y00] at hroom;simp only [Z0I, ht, hs, hby, hb1, hz, if_neg hn, if_neg hl, if_pos hroom]
 ·refine .plain (x := .buf id (xs.length + ys.length) sz) (σ1 := σ.put id (.blk el (vs xs.flatten ++ vs ys.flatten) true)) ?_ ask hd
   (hk' _ _ ((H.put hk rfl (r' := .sl (.buf id (xs.length + ys.length) sz) el sz (xs ++ ys) true) ⟨hall, .inr ⟨id, by rw [YK], ?_⟩⟩ rfl).weak (YX hlo (Nat.le_succ _)) (Y9 _)))
  ·rw [start];simp only [Z0I, ht, hs, hby, hb1, hz, if_neg hn, hbl];rw [if_pos ⟨trivial, trivial, by rw [Zo, Zg hsz], hroom⟩]
  ·rw [Z0f, Yq, Z1H]
def RO (v : PV) (xs : List (List FV)) : Prop := (v = .nils ∧ xs = []) ∨ v = .v (.sl xs)
inductive ExpC : List Res → PV → FV → List Res → Prop
 | v {L : List Res} (y : FV) : ExpC L (.v y) y L
 | n {L : List Res} : ExpC L .nils (.sl []) L
 | ro {L : List Res} {v : PV} {xs : List (List FV)} (h : RO v xs) : ExpC L v (.sl xs) L
 | s {L : List Res} {v : PV} {et : TypeId} {sz : Nat} {xs : List (List FV)} {lv : Bool} (k : Nat) (h : L[k]? = some (.sl v et sz xs lv)) : ExpC L v (.sl xs) (L.set k (.sl v et sz xs false))
inductive ExpCs : List Res → List PV → List FV → List Res → Prop
 | nil {L : List Res} : ExpCs L [] [] L
 | cons {L L1 L2 : List Res} {x : PV} {y : FV} {xs : List PV} {ys : List FV} (h : ExpC L x y L1) (t : ExpCs L1 xs ys L2) : ExpCs L (x :: xs) (y :: ys) L2
inductive ExpV : List Res → PV → PV → List Res → Prop
 | c {L L' : List Res} {x : PV} {y : FV} (h : ExpC L x y L') : ExpV L x (.v y) L'
 | a {L L' : List Res} {xs : List PV} {ys : List FV} (h : ExpCs L xs ys L') : ExpV L (.agg xs) (.agg (vs ys)) L'
 | p {L : List Res} {x : PV} (h : x.pure = true) : ExpV L x x L
inductive ExpVs : List Res → List PV → List PV → List Res → Prop
 | nil {L : List Res} : ExpVs L [] [] L
 | cons {L L1 L2 : List Res} {x y : PV} {xs ys : List PV} (h : ExpV L x y L1) (t : ExpVs L1 xs ys L2) : ExpVs L (x :: xs) (y :: ys) L2
theorem Z3r {sz : Nat} : ∀ {xs : List (List FV)}, (∀ y ∈ xs, y.length = sz) → chunk sz xs.length xs.flatten = xs
 | [], _ => rfl
 | x :: xs, h => by
  have hx := h x YQ
  have := Z3r (xs := xs) fun y hy => h y (YN _ hy)
  simp only [Yf, chunk, YU];rw [← hx, List.take_left, List.drop_left, hx, this]
theorem Z59 {d : Nat} {σ : Heap} (cs : List FV) : ZX (ZR (d + 1)) σ (vs cs) = some (cs, σ) := by
 induction cs with
 | nil => rfl
 | cons c cs ih =>
  simp only [vs, Y01, ZX, ZR, Y1] at ih ⊢;rw [ih]; rfl
theorem Z35 {d : Nat} {σ : Heap} {id len sz : Nat} {elem : TypeId} {cells : List PV} {lv : Bool} (h : σ.ent id = .blk elem cells lv) (hl : cells.length = len * sz) :
  ZR (d + 1) σ (.buf id len sz) = (ZX (ZR d) (σ.put id (.blk elem cells false)) cells).bind fun r => some (.sl (chunk sz len r.1), r.2) := by
 rw [ZR]
 simp only [h, hl, if_true]
theorem expC_ok {x : PV} {y : FV} {L' : List Res} (H : Has σ lo hi L) (h : ExpC L x y L') : ∃ σ', ZR 6 σ x = some (y, σ') ∧ Has σ' lo hi L' ∧ σ'.nx = σ.nx := by
 cases h with
 | v y => exact ⟨σ, rfl, H, rfl⟩
 | n => exact ⟨σ, rfl, H, rfl⟩
 | ro h => rcases h with ⟨rfl, rfl⟩ | rfl <;> exact ⟨σ, rfl, H, rfl⟩
 | @s _ et sz xs lv k h =>
  obtain ⟨hs, hv⟩ := H.sl h
  rcases hv with ⟨rfl, rfl⟩ | ⟨id, rfl, hb⟩
  ·exact ⟨σ, rfl, H.say h ⟨by simp, .inl ⟨rfl, rfl⟩⟩ rfl, rfl⟩
  ·refine ⟨σ.put id (.blk et (vs xs.flatten) false), ?_, H.put h rfl (r' := .sl (.buf id xs.length sz) et sz xs false) ⟨hs, .inr ⟨id, rfl, Z0f⟩⟩ rfl, rfl⟩
   rw [Z35 hb (by rw [Zo, Zg hs]), Z59 (d := 4)]
   simp only [Y1, Z3r hs]
theorem expCs_ok : ∀ {xs : List PV} {σ : Heap} {L L' : List Res} {ys : List FV}, Has σ lo hi L → ExpCs L xs ys L' → ∃ σ', Z3W σ xs = some (ys, σ') ∧ Has σ' lo hi L' ∧ σ'.nx = σ.nx
 | [], σ, L, L', ys, H, h => by cases h; exact ⟨σ, rfl, H, rfl⟩
 | x :: xs, σ, L, L', ys, H, h => by
  cases h with
  | cons h t =>
   obtain ⟨σ1, q1, q2, q3⟩ := expC_ok H h
   obtain ⟨σ2, p1, p2, p3⟩ := expCs_ok q2 t
   refine ⟨σ2, ?_, p2, p3.trans q3⟩;unfold Z3W at p1 ⊢;simp only [ZX, q1, Y1, p1]
theorem expV_ok {x y : PV} {L' : List Res} (H : Has σ lo hi L) (h : ExpV L x y L') : ∃ σ', Z08 σ x = some (y, σ') ∧ Has σ' lo hi L' ∧ σ'.nx = σ.nx := by
 cases h with
 | c h =>
  obtain ⟨σ', q1, q2, q3⟩ := expC_ok H h
  refine ⟨σ', ?_, q2, q3⟩;cases h with
  | v y => simp only [Z08, q1, Y1]
  | n => simp only [Z08, q1, Y1]
  | ro h => rcases h with ⟨rfl, rfl⟩ | rfl <;> simp only [Z08, q1, Y1]
  | s k h =>
   obtain ⟨_, ⟨rfl, rfl⟩ | ⟨id, rfl, hb⟩⟩ := H.sl h
   ·simp only [Z08, q1, Y1]
   ·simp only [Z08, q1, Y1]
 | a h =>
  obtain ⟨σ', q1, q2, q3⟩ := expCs_ok H h
  exact ⟨σ', by simp only [Z08, q1, Y1], q2, q3⟩
 | p h => exact ⟨σ, Z1n h, H, rfl⟩
theorem expArg_val {x y : PV} {σ' : Heap} (h : Z08 σ x = some (y, σ')) (hp : ∀ (id ver off : Nat), x ≠ .ptr id ver off) (hc : ∀ (f : FuncId) (a c : List PV), x ≠ .clo f a c) (hy : ∀ id, x ≠ .yld id) : Z1c σ x = some (y, σ') := by
 cases x <;> first | exact h | exact absurd rfl (hp _ _ _) | exact absurd rfl (hc _ _ _) | exact absurd rfl (hy _)
theorem Z5z {x y : PV} {L' : List Res} (H : Has σ lo hi L) (h : ExpV L x y L') : (∀ (id ver off : Nat), x ≠ .ptr id ver off) ∧ (∀ (f : FuncId) (a c : List PV), x ≠ .clo f a c) ∧ (∀ id, x ≠ .yld id) ∧ (∀ xs, x ≠ .tup xs) ∧ y.pure = true := by
 cases h with
 | c h =>
  cases h with
  | v y => exact ⟨by intros; simp, by intros; simp, by intros; simp, by intros; simp, rfl⟩
  | n => exact ⟨by intros; simp, by intros; simp, by intros; simp, by intros; simp, rfl⟩
  | ro h => rcases h with ⟨rfl, rfl⟩ | rfl <;> exact ⟨by intros; simp, by intros; simp, by intros; simp, by intros; simp, rfl⟩
  | s k h =>
   obtain ⟨_, ⟨rfl, rfl⟩ | ⟨id, rfl, hb⟩⟩ := H.sl h
   ·exact ⟨by intros; simp, by intros; simp, by intros; simp, by intros; simp, rfl⟩
   ·exact ⟨by intros; simp, by intros; simp, by intros; simp, by intros; simp, rfl⟩
 | a h => exact ⟨by intros; simp, by intros; simp, by intros; simp, by intros; simp, by simp [PV.pure, vs, PV.isV]⟩
 | p h => cases x <;> simp [PV.pure] at h ⊢; all_goals simp_all
theorem Z4W : ∀ {xs : List PV} {σ : Heap} {L L' : List Res} {ys : List PV}, Has σ lo hi L → ExpVs L xs ys L' → ∃ σ', Z0J σ xs = some (ys, σ') ∧ Zy σ xs = some (ys, σ') ∧ Has σ' lo hi L' ∧ σ'.nx = σ.nx ∧ ys.all PV.pure = true
 | [], σ, L, L', ys, H, h => by cases h; exact ⟨σ, rfl, rfl, H, rfl, rfl⟩
 | x :: xs, σ, L, L', ys, H, h => by
  cases h with
  | cons h t =>
   obtain ⟨σ1, q1, q2, q3⟩ := expV_ok H h
   obtain ⟨s1, s2, s3, _, s4⟩ := Z5z H h
   obtain ⟨σ2, p1, p1', p2, p3, p4⟩ := Z4W q2 t
   refine ⟨σ2, ?_, ?_, p2, p3.trans q3, by simp [s4, p4]⟩
   ·simp only [Z0J, q1, Y1, p1]
   ·simp only [Zy, expArg_val q1 s1 s2 s3, Y1, p1']
inductive ExpR (L : List Res) : List PV → PV → List Res → Prop
 | one {x y : PV} {L' : List Res} (h : ExpV L x y L') : ExpR L [x] y L'
 | two {x x' : PV} {xs ys : List PV} {L' : List Res} (h : ExpVs L (x :: x' :: xs) ys L') : ExpR L (x :: x' :: xs) (.tup ys) L'
 | zero : ExpR L [] (.tup []) L
theorem expR_ok {xs : List PV} {y : PV} {L' : List Res} (H : Has σ lo hi L) (h : ExpR L xs y L') : ∃ σ', Z0U σ (Z0K xs) = some (y, σ') ∧ Has σ' lo hi L' := by
 cases h with
 | @one x _ _ h =>
  obtain ⟨σ', q1, q2, _⟩ := expV_ok H h
  obtain ⟨_, _, _, s4, _⟩ := Z5z H h
  refine ⟨σ', ?_, q2⟩
  show Z0U σ x = _
  cases x <;> first | exact q1 | exact absurd rfl (s4 _)
 | two h =>
  obtain ⟨σ', q1, _, q2, _⟩ := Z4W H h
  exact ⟨σ', by simp only [Z0K, Z0U, q1, Y1], q2⟩
 | zero => exact ⟨σ, rfl, H⟩
theorem callL_exp {f : FuncId} {args args' : List PV} {r : PV} {σ' : Heap} (hF : Fn X f args' r) (hi0 : X.intr f args = none) (hi1 : X.intr f args' = none) (he : Zy σ args = some (args', σ')) : Zr X (.fn f) args σ = some (r, σ') := by
 obtain ⟨k, hk⟩ := Z1K.1 (hF.call σ')
 refine Z1K.2 ⟨k, ?_⟩
 cases k with
 | zero => simp [Zw] at hk
 | succ k =>
  simp only [Zw, hi1, hF.keep, YA, if_false, Z0t hF.pure, hF.opn, hF.pure, if_true] at hk;simp only [Zw, hi0, hF.keep, YA, if_false, he, hF.opn, hF.pure, if_true];exact hk
theorem Ops.callX {f : FuncId} {args : Array Operand} {ts : Array TypeId} {xs ys : List PV} {r : PV} {L' : List Res} (H : Has σ lo hi L) (ha : ZG X e args.toList = some xs) (hE : ExpVs L xs ys L') (hf : Fn X f ys r) (hi0 : X.intr f xs = none) (hi1 : X.intr f ys = none) (hdr : dr = true → Z1L (Region.before ops) ops i = true) (hd : Nat.blt d n = true)
  (hk : ∀ σ', Has σ' lo hi L' → Ops X n dr ops base (i + 1) l (set e d r) σ' K) :
  Ops X n dr ops base i (⟨some d, .call { callee := .value (.func f), args := args, argTypes := ts }, t, p, af, none⟩ :: l) e σ K := by
 obtain ⟨σ', q1, q2, q3, _⟩ := Z4W H hE
 exact .plain (x := r) (σ1 := σ') (by simp only [Z3, ZW, ha, Z0, callL_exp hf hi0 hi1 q2]) (fun h => Z4M (hdr h)) hd (hk σ' q3)
abbrev Hs (σ : Heap) (L : List Res) : Prop := Has σ σ.nx σ.nx L
def ZL (e : Env) : List (Nat × PV) → Prop
 | [] => True
 | (k, v) :: l => e k = v ∧ ZL e l
def sets (e : Env) : List (Nat × PV) → Env
 | [] => e
 | (k, v) :: l => set (sets e l) k v
theorem ZL.eq : ∀ {l : List (Nat × PV)} {e : Env}, ZL e l → e = sets e l
 | [], e, _ => rfl
 | (k, v) :: l, e, ⟨h, t⟩ => by
  have ih := ZL.eq t
  funext j
  simp only [sets, set];cases hj : Nat.beq j k with
  | true => rw [Yw hj]; exact h
  | false => exact congrFun ih j
theorem ZL.ex {l : List (Nat × PV)} {e : Env} (h : ZL e l) : ∃ e0, e = sets e0 l := ⟨e, h.eq⟩
theorem holds_ent {r : Res} {σ σ' : Heap} (h : r.holds σ) (he : σ'.ent = σ.ent) (hn : σ.nx ≤ σ'.nx) : r.holds σ' := by
 cases r with
 | blk id t cells => show σ'.ent id = _; rw [he]; exact h
 | sl v e sz xs live => exact ⟨h.1, h.2.imp (fun h => h) fun ⟨id, hv, hb⟩ => ⟨id, hv, by rw [he]; exact hb⟩⟩
 | floor m => exact YX h hn
 | hole id => trivial
 | loop id fn e n ps as_ bo st pd => show σ'.ent id = _; rw [he]; exact h
 | mp id kv => show σ'.ent id = _; rw [he]; exact h
 | fix id en => show σ'.ent id = _; rw [he]; exact h
theorem Has.enter (H : Hs σ L) (m : Nat) : Has ⟨σ.nx + m, σ.ent⟩ σ.nx (σ.nx + m) L :=
 ⟨fun k r hk => holds_ent (H.holds k r hk) rfl (Nat.le_add_right _ _), fun k r hk id ho => ⟨.inl (H.lt k r hk id ho).2, YJ (H.lt k r hk id ho).2 (Nat.le_add_right _ _)⟩, H.sep, Y9 _⟩
theorem Runs.Zn {id : Nat} {os : List Oper} (m : Nat) (hm : os.length = m) (H : Hs σ L) (h : ∀ base σ', Has σ' base (base + m) L → Ops X n false os.toArray base 0 os e σ' (Q .normal)) : Runs X n fn (.region id os.toArray false) e σ Q := by
 subst hm
 have h := h σ.nx _ (H.enter os.length)
 exact Runs.region (m' := σ.nx + os.length) rfl h
theorem Runs.Z1W {id : Nat} {os : List Oper} (m : Nat) (hm : os.length = m) (hd : Z1f os.toArray = true) (H : Hs σ L) (h : ∀ base σ', Has σ' base (base + m) L → (∀ (k : Nat) (r : Res), L[k]? = some r → ∀ id, r.owner = some id → id < base) → Ops X n true os.toArray base 0 os e σ' (Q .normal)) : Runs X n fn (.region id os.toArray true) e σ Q := by
 subst hm
 have h := h σ.nx _ (H.enter os.length) (fun k r hk id ho => (H.lt k r hk id ho).2)
 exact Runs.drawn (m' := σ.nx + os.length) hd rfl h
theorem Z3k {call : Ze} : ∀ (l1 l2 : List Oper) (i : Nat) (e : Env) (σ : Heap), Z0c X call n ops base i (l1 ++ l2) e σ = (Z0c X call n ops base i l1 e σ).bind fun r => Z0c X call n ops base (i + l1.length) l2 r.1 r.2
 | [], l2, i, e, σ => rfl
 | o :: l1, l2, i, e, σ => by
  simp only [Y0B, Z0c, Yf];cases Z07 X call n ops base i o e σ with
  | none => rfl
  | some r =>
   simp only [Y1];rw [Z3k l1 l2 (i + 1) r.1 r.2, show i + 1 + l1.length = i + (l1.length + 1) by omega]
theorem Z3D {call : Ze} : ∀ (l1 l2 : List Oper) (i : Nat) (e : Env) (σ : Heap), Z0H X call n ops base i (l1 ++ l2) e σ = (Z0H X call n ops base i l1 e σ).bind fun r => Z0H X call n ops base (i + l1.length) l2 r.1 r.2
 | [], l2, i, e, σ => rfl
 | o :: l1, l2, i, e, σ => by
  simp only [Y0B, Z0H, Yf];cases Z00 X call n ops base i o e σ with
  | none => rfl
  | some r =>
   simp only [Y1];rw [Z3D l1 l2 (i + 1) r.1 r.2, show i + 1 + l1.length = i + (l1.length + 1) by omega]
theorem Ops.mid (k : Nat) {K1 : Env → Heap → Prop} (hk : Nat.ble k l.length = true) (h1 : Ops X n dr ops base i (l.take k) e σ K1) (h2 : ∀ e σ, K1 e σ → Ops X n dr ops base (i + k) (l.drop k) e σ K) : Ops X n dr ops base i l e σ K := by
 obtain ⟨e1, σ1, q1, q2⟩ := h1.run
 obtain ⟨e2, σ2, p1, p2⟩ := (h2 e1 σ1 q2).run
 have hl : (l.take k).length = k := by rw [YM]; have := Yk hk; omega
 refine ⟨⟨e2, σ2, ?_, p2⟩⟩
 cases dr with
 | false =>
  simp only [YA, if_false] at q1 p1 ⊢;rw [← Yx k l, Z3k, q1, Y1, hl]; exact p1
 | true =>
  simp only [if_true] at q1 p1 ⊢;rw [← Yx k l, Z3D, q1, Y1, hl]; exact p1
def Z1Z {S R : Type} (step : S → Option (S ⊕ R)) : Nat → S → Option R
 | 0, _ => none
 | k + 1, s => match step s with
  | some (.inl s') => Z1Z step k s'
  | some (.inr r) => some r
  | none => none
def LoopEnd {S R : Type} (I : S → Env → Heap → Prop) (J : R → Ex → Env → Heap → Prop) : S ⊕ R → Ex → Env → Heap → Prop
 | .inl s, x, e, σ => x = .normal ∧ I s e σ
 | .inr r, x, e, σ => x ≠ .normal ∧ J r x e σ
theorem Runs.loopO {S R : Type} {step : S → Option (S ⊕ R)} {s : S} {y : R} {k : Nat} (h : Z1Z step k s = some y) (I : S → Env → Heap → Prop) (J : R → Ex → Env → Heap → Prop) (h0 : I s e σ)
  (hs : ∀ s e σ, I s e σ → ∀ z, step s = some z → Runs X n fn c e σ (LoopEnd I J z)) : Runs X n fn (.loop c) e σ (J y) := by
 refine Runs.loop (fun m e σ => ∃ s, Z1Z step m s = some y ∧ I s e σ) (m := k) ⟨s, h, h0⟩ ?_
 rintro m e σ ⟨s, h1, h2⟩
 cases m with
 | zero => cases h1
 | succ m =>
  simp only [Z1Z] at h1
  split at h1
  ·rename_i s' hst;refine (hs s e σ h2 _ hst).mono ?_;rintro x e' σ' ⟨rfl, hI⟩;exact ⟨m, Nat.lt_succ_self m, s', h1, hI⟩
  ·rename_i r hst;cases h1;refine (hs s e σ h2 _ hst).mono ?_;rintro x e' σ' ⟨hx, hJ⟩;cases x with
   | normal => exact absurd rfl hx
   | exit id => exact hJ
   | ret => exact hJ
  ·cases h1
end
noncomputable def loopO {S R : Type} (step : S → Option (S ⊕ R)) (s : S) : Option R :=
 open Classical in if h : ∃ r, ∃ k, Z1Z step k s = some r then some h.choose else none
theorem Z3u {S R : Type} {step : S → Option (S ⊕ R)} : ∀ {k : Nat} {s : S} {r : R}, Z1Z step k s = some r → ∀ {m : Nat}, k ≤ m → Z1Z step m s = some r
 | 0, s, r, h, _, _ => by cases h
 | k + 1, s, r, h, m, hm => by
  obtain ⟨m, rfl⟩ : ∃ j, m = j + 1 := ⟨m - 1, by omega⟩
  simp only [Z1Z] at h ⊢
  split at h
  ·rename_i s' hs; exact Z3u h (by omega)
  ·exact h
  ·cases h
theorem Zc {S R : Type} {step : S → Option (S ⊕ R)} {s : S} {r : R} : loopO step s = some r ↔ ∃ k, Z1Z step k s = some r := by
 unfold loopO
 constructor
 ·intro h
  split at h
  ·rename_i hex; cases h; exact hex.choose_spec
  ·cases h
 ·rintro ⟨k, h⟩;have hex : ∃ r, ∃ k, Z1Z step k s = some r := ⟨r, k, h⟩
  rw [dif_pos hex];obtain ⟨k', h'⟩ := hex.choose_spec
  have e1 := Z3u h (Nat.le_max_left k k')
  have e2 := Z3u h' (Nat.le_max_right k k')
  rw [e1] at e2;exact e2.symm
theorem loopO_eq {S R : Type} (step : S → Option (S ⊕ R)) (s : S) : loopO step s = match step s with | some (.inl s') => loopO step s' | some (.inr r) => some r | none => none := by
 cases hs : step s with
 | none =>
  cases h : loopO step s with
  | none => rfl
  | some r =>
   obtain ⟨k, hk⟩ := Zc.1 h
   cases k with
   | zero => cases hk
   | succ k => simp [Z1Z, hs] at hk
 | some z =>
  cases z with
  | inr r => exact Zc.2 ⟨1, by simp [Z1Z, hs]⟩
  | inl s' =>
   simp only;cases h : loopO step s' with
   | some r =>
    obtain ⟨k, hk⟩ := Zc.1 h
    exact Zc.2 ⟨k + 1, by simp only [Z1Z, hs]; exact hk⟩
   | none =>
    cases h2 : loopO step s with
    | none => rfl
    | some r =>
     obtain ⟨k, hk⟩ := Zc.1 h2
     cases k with
     | zero => cases hk
     | succ k =>
      simp only [Z1Z, hs] at hk;rw [Zc.2 ⟨k, hk⟩] at h;cases h
inductive Jx (A R : Type) where
 | go (a : A)
 | ret (r : R)
theorem bind_some {α β : Type} {x : Option α} {f : α → Option β} {b : β} (h : x.bind f = some b) : ∃ a, x = some a ∧ f a = some b := Option.bind_eq_some_iff.1 h
theorem cond_T {α : Type} {c : Bool} {a b r : α} (hc : c = true) (h : (bif c then a else b) = r) : a = r := by rw [hc] at h; exact h
theorem cond_F {α : Type} {c : Bool} {a b r : α} (hc : c = false) (h : (bif c then a else b) = r) : b = r := by rw [hc] at h; exact h
section
variable {X : Ctx} {n : Nat} {fn : FuncId} {e : Env} {σ : Heap} {lo hi : Nat} {L : List Res}
inductive ResD (P : Program) (e : Env) (L : List Res) : List ResultVar → List PV → Prop
 | nil : ResD P e L [] []
 | tmp {t : Nat} {v : PV} {rs : List ResultVar} {xs : List PV} (h : e t = v) (k : ResD P e L rs xs) : ResD P e L (.tmp t :: rs) (v :: xs)
 | cell {a : Nat} {t : TypeId} {id off ver : Nat} {te : TypeId} {cells : List PV} {v : PV} {rs : List ResultVar} {xs : List PV} (i : Nat) (hi : L[i]? = some (.blk id te cells)) (h : e a = .ptr id ver off) (hv : cells.length = ver) (hg : tagg P t = some false) (hc : cells[off]? = some v) (k : ResD P e L rs xs) : ResD P e L (.cell a t :: rs) (v :: xs)
 | agg {a : Nat} {t : TypeId} {id off ver m : Nat} {te : TypeId} {cells cs : List PV} {rs : List ResultVar} {xs : List PV} (i : Nat) (hi : L[i]? = some (.blk id te cells)) (h : e a = .ptr id ver off) (hv : cells.length = ver) (hg : tagg P t = some true) (hm : tsize P t = some m) (hl : Nat.ble (off + m) cells.length = true) (hc : (cells.drop off).take m = cs) (k : ResD P e L rs xs) : ResD P e L (.cell a t :: rs) (.agg cs :: xs)
theorem Z1N {P : Program} {rs : List ResultVar} {xs : List PV} (H : Has σ lo hi L) (h : ResD P e L rs xs) : Zh P e σ rs = some xs := by
 induction h with
 | nil => rfl
 | tmp h k ih => simp only [Zh, ih, Y7, h]
 | cell i hi h hv hg hc k ih => simp only [Zh, h, Z1a, H.blk hi, hv, if_true, hg, hc, Y1, ih, Y7]
 | agg i hi h hv hg hm hl hc k ih =>
  have h2 := Yk hl
  rw [hv] at h2;simp only [Zh, h, Z1a, H.blk hi, hv, if_true, hg, hm, if_pos h2, hc, Y1, ih, Y7]
theorem Ends.H {rs : List ResultVar} {xs : List PV} {r : PV} {x : Ex} {L' : List Res} (hx : x = .normal ∨ x = .ret) (H : Has σ lo hi L) (h : ResD X.P e L rs xs) (hr : ExpR L xs r L') : Ends X rs r x e σ := by
 obtain ⟨σ', q, _⟩ := expR_ok H hr
 exact ⟨hx, xs, σ', Z1N H h, q⟩
structure EndsH (X : Ctx) (rs : List ResultVar) (r : PV) (L : List Res) (x : Ex) (e : Env) (σ : Heap) : Prop where
 out : (x = .normal ∨ x = .ret) ∧ ∃ xs σ' lo hi, Zh X.P e σ rs = some xs ∧ Z0U σ (Z0K xs) = some (r, σ') ∧ Has σ' lo hi L
theorem Has.drop (H : Has σ lo hi L) : ∀ n : Nat, Has σ lo hi (L.drop n)
 | 0 => H
 | n + 1 => by
  have h1 := (Has.drop H n).erase 0
  rwa [List.eraseIdx_zero, List.tail_drop] at h1
theorem EndsH.H {rs : List ResultVar} {xs : List PV} {r : PV} {x : Ex} {L' L0 : List Res} (hx : x = .normal ∨ x = .ret) (H : Has σ lo hi L) (h : ResD X.P e L rs xs) (hr : ExpR L xs r L') (k : Nat) (hk : L'.drop k = L0) : EndsH X rs r L0 x e σ := by
 obtain ⟨σ', q, H'⟩ := expR_ok H hr
 exact ⟨hx, xs, σ', lo, hi, Z1N H h, q, hk ▸ H'.drop k⟩
end
end Go.Dn
