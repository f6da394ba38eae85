/- Part 1 of what the row stands on. -/
import Derived.CheckFast
import Derived.RangeFuncRecord
import Derived.LoopNIn
import Derived.Below
import Derived.Test.YtfknindefmcgdaaM0
set_option linter.unusedVariables false
set_option linter.unusedSimpArgs false
namespace Go.Dn
open Go
variable {X:Ctx} {e e':Env} {n:Nat}
def sees (e e':Env) (xs:List Operand):Prop:=∀ t,.tmp t ∈ xs→e t = e' t
theorem Z07 {x:Operand} (h:sees e e' [x]):Z0 X e x = Z0 X e' x:=by
 cases x with
 | tmp t => simp only [Z0];rw [h t (by simp)]
 | _ => rfl
theorem Z2s:∀ {xs:List Operand},sees e e' xs→ZY X e xs = ZY X e' xs
 | [],_ => rfl
 | x :: xs,h => by
  simp only [ZY];rw [Z07 (fun t ht => h t (by simp at ht ⊢;exact .inl ht)),Z2s (fun t ht => h t (by simp [ht]))]
theorem Z7N:∀ {xs:List (Nat × Operand)},sees e e' (xs.map (·.2))→Z3v X e xs = Z3v X e' xs
 | [],_ => rfl
 | (i,x) :: xs,h => by
  simp only [Z3v];rw [Z07 (fun t ht => h t (by simp at ht ⊢;exact .inl ht)),Z7N (fun t ht => h t (by simp at ht ⊢;exact .inr ht))]
theorem optD_env {x:Option Operand} (h:sees e e' x.toList):optD X e x = optD X e' x:=by
 cases x with
 | none => rfl
 | some x => simp only [optD];rw [Z07 (by simpa using h)]
theorem Z0Y {xs ys:List Operand} (h:sees e e' ys) (hs:∀ x ∈ xs,x ∈ ys):sees e e' xs:=fun t ht => h t (hs _ ht)
theorem sees1 {ys:List Operand} {x:Operand} (h:sees e e' ys) (hy:ys = [x]):Z0 X e x = Z0 X e' x :=
 Z07 (by subst hy;exact h)
theorem sees2 {ys:List Operand} {x y:Operand} (h:sees e e' ys) (hy:ys = [x,y]):Z0 X e x = Z0 X e' x :=
 Z07 (by subst hy;exact Z0Y h (by intro z hz;simp at hz;simp [hz]))
theorem sees22 {ys:List Operand} {x y:Operand} (h:sees e e' ys) (hy:ys = [x,y]):Z0 X e x = Z0 X e' x∧Z0 X e y = Z0 X e' y:=by
 subst hy
 exact ⟨Z07 (Z0Y h (by intro z hz;simp at hz;simp [hz])),Z07 (Z0Y h (by intro z hz;simp at hz;simp [hz]))⟩
theorem sees3 {ys:List Operand} {x y u:Operand} (h:sees e e' ys) (hy:ys = [x,y,u]):Z0 X e x = Z0 X e' x∧Z0 X e y = Z0 X e' y∧Z0 X e u = Z0 X e' u:=by
 subst hy
 exact ⟨Z07 (Z0Y h (by intro z hz;simp at hz;simp [hz])),Z07 (Z0Y h (by intro z hz;simp at hz;simp [hz])),Z07 (Z0Y h (by intro z hz;simp at hz;simp [hz]))⟩
theorem Z4b {call:Z05} {σ:Heap} {id:Nat} {op:Op} (h:sees e e' op.operands.toList):Z5 X call e σ id op = Z5 X call e' σ id op:=by
 cases op <;> simp only [Op.operands] at h <;> simp only [Z5]
 case build t ps =>
  have hp:sees e e' (ps.toList.map (·.2)):=by simpa using h
  simp only [ZAh,Z7N hp]
 case buildSlice t k ps =>
  have hp:sees e e' (ps.toList.map (·.2)):=by simpa using h
  simp only [Z1e,Z7N hp]
 case makeFunc fn f c =>
  have h1:sees e e' f.toList:=Z0Y h (by intro x hx;simp at hx ⊢;exact .inl hx)
  have h2:sees e e' c.toList:=Z0Y h (by intro x hx;simp at hx ⊢;exact .inr hx)
  cases fn <;> simp only [Z2s h1,Z2s h2]
 case slice t x lo hi mx =>
  have h1:sees e e' [x]:=Z0Y h (by intro y hy;simp at hy ⊢;exact .inl hy)
  have h2:sees e e' lo.toList:=Z0Y h (by intro y hy;simp at hy ⊢;exact .inr (.inl hy))
  have h3:sees e e' hi.toList:=Z0Y h (by intro y hy;simp at hy ⊢;exact .inr (.inr (.inl hy)))
  have h4:sees e e' mx.toList:=Z0Y h (by intro y hy;simp at hy ⊢;exact .inr (.inr (.inr hy)))
  simp only [Z07 h1,optD_env h2,optD_env h3,optD_env h4]
 case makeMap t r => cases r <;> rfl
 case lookup t x k c => cases c <;> simp only [Z5] <;> rw [(sees22 h rfl).1,(sees22 h rfl).2]
 case call c =>
  have h1:sees e e' c.args.toList:=Z0Y h (by intro y hy;simp only [Call.operands,Y0J,Yu];exact .inr hy)
  simp only [Zx,Z2s h1];cases hc:c.callee with
  | value f =>
   have h2:sees e e' [f]:=Z0Y h (by intro y hy;simp only [Call.operands,hc,Y0J,Yu];exact .inl hy)
   simp only [Z07 h2]
  | _ => rfl
 all_goals first
  | rfl
  | (rw [sees1 h rfl];done)
  | (rw [sees2 h rfl];done)
  | (rw [(sees22 h rfl).1,(sees22 h rfl).2];done)
  | (rw [(sees3 h rfl).1,(sees3 h rfl).2.1,(sees3 h rfl).2.2];done)
theorem looks_sub {op:Op}:∀ x ∈ Zf op,x ∈ op.operands.toList:=by
 intro x hx
 cases op <;> simp only [Zf] at hx <;> (try (simp at hx;done)) <;> simp only [Op.operands]
 case call c =>
  cases hc:c.callee <;> rw [hc] at hx <;> simp at hx
  simp only [Call.operands,Y0J,Yu];exact .inr (by simpa using hx)
 all_goals (simp at hx ⊢;simp [hx])
theorem touched_looks {op:Op} (hl:sees e e' (Zf op)):touched X e op = touched X e' op:=by
 have key:∀ (l:List Operand),sees e e' l→(l.flatMap fun x => match Z0 X e x with | some v => vids v | none => []) = (l.flatMap fun x => match Z0 X e' x with | some v => vids v | none => []):=by
  intro l
  induction l with
  | nil => intro _;rfl
  | cons x l ih =>
   intro h;simp only [YO];rw [Z07 (X:=X) (Z0Y h (by intro y hy;simp at hy;simp [hy])),ih (Z0Y h (by intro y hy;simp [hy]))]
 exact key _ hl
theorem touched_env {op:Op} (h:sees e e' op.operands.toList):touched X e op = touched X e' op:=touched_looks (Z0Y h looks_sub)
def Stable (ops:Array Oper) (e e':Env):Prop:=∀ t,(ops.any fun o => o.dst == some t) = false→e t = e' t
theorem rootT_stable {ops:Array Oper} {t u:Nat} (h:rootT ops t = some u):(ops.any fun o => o.dst == some u) = false:=by
 unfold rootT at h
 split at h
 ·rename_i hn;cases h;rw [List.find?_eq_none] at hn;rw [Array.any_eq_false];intro i hi;exact hn _ (Array.getElem_mem_toList hi)
 ·split at h
  all_goals first
   | (cases h;done)
   | skip
  all_goals
   split at h
   ·cases h
   ·rename_i hh;cases h;simpa using hh
theorem Z7l {ops:Array Oper} {op:Op} (hs:Stable ops e e'):Z2x X ops e op = Z2x X ops e' op:=by
 unfold Z2x
 congr 1
 funext x
 cases x with
 | tmp t =>
  simp only;cases h:rootT ops t with
  | none => rfl
  | some u => simp only;rw [hs u (rootT_stable h)]
 | _ => rfl
theorem ZC0 {ops:Array Oper} {op:Op} (h:stableOp ops op = true):Z2x X ops e op = touched X e op:=by
 unfold stableOp at h
 unfold Z2x touched
 have key:∀ (l:List Operand),(l.all fun x => match x with | .tmp t => !(ops.any fun o => o.dst == some t) | _ => true) = true →
   (l.flatMap fun x => match x with
    | .tmp t => (match rootT ops t with | some u => vids (e u) | none => [])
    | x => (match Z0 X e x with | some v => vids v | none => [])) =
   (l.flatMap fun x => match Z0 X e x with | some v => vids v | none => []):=by
  intro l
  induction l with
  | nil => intro _;rfl
  | cons x l ih =>
   intro h;simp only [Yw,Y9] at h;simp only [YO];rw [ih h.2]
   congr 1
   cases x with
   | tmp t =>
    have hn:ops.toList.find? (fun o => o.dst == some t) = none:=by
     rw [List.find?_eq_none];intro o ho;have h1:=h.1
     simp only [YV,Array.any_eq_false] at h1;obtain ⟨i,hi,rfl⟩:=List.mem_iff_getElem.1 ho
     exact h1 i (by simpa using hi)
    simp only [rootT,hn,Z0]
   | _ => rfl
 exact key _ h
theorem freshAt_env {ops:Array Oper} {bef:Array Nat} {i k:Nat} (hs:Stable ops e e'):Z2w X e bef ops i k = Z2w X e' bef ops i k:=by
 unfold Z2w
 congr 1
 funext j
 congr 1
 cases hj:ops[j]? with
 | none => rfl
 | some o => simp only [Z7l (X:=X) (op:=o.op) hs]
theorem frozen_env {op:Op} (h:sees e e' op.operands.toList):frozen X e op = frozen X e' op:=by
 cases op with
 | buildSlice t k ps =>
  have hp:sees e e' (ps.toList.map (·.2)):=by simpa [Op.operands] using h
  simp only [frozen,Z7N hp]
 | _ => rfl
theorem Z4y {ops:Array Oper} {base i:Nat} {o:Oper} (hst:Stable ops e e') (h:sees e e' o.op.operands.toList):Zp X ops base i o e = Zp X ops base i o e':=by
 unfold Zp
 congr 1
 unfold Zj
 rw [touched_env h,frozen_env h]
 have hfr:∀ k,Z2w X e (Region.before ops) ops i k = Z2w X e' (Region.before ops) ops i k:=fun k => freshAt_env hst
 have hri:Z2x X ops e o.op = Z2x X ops e' o.op:=Z7l hst
 simp only [hfr,hri]
 cases hop:o.op with
 | slice t x lo hi mx =>
  rw [hop] at h;have h1:sees e e' [x]:=Z0Y h (by intro y hy;simp [Op.operands] at hy ⊢;exact .inl hy)
  simp only [Z07 h1]
 | call c =>
  rw [hop] at h;have h1:sees e e' c.args.toList:=Z0Y h (by intro y hy;simp only [Op.operands,Call.operands,Y0J,Yu];exact .inr hy)
  have hk:∀ args,Z6G X e args c.callee = Z6G X e' args c.callee:=fun args => by
   cases hc:c.callee with
   | value f =>
    have h2:sees e e' [f]:=Z0Y h (by intro y hy;simp only [Op.operands,Call.operands,hc,Y0J,Yu];exact .inl hy)
    simp only [Z6G,Z07 h2]
   | _ => rfl
  simp only [Z2s h1,hk]
 | _ => rfl
theorem Z89 {ops:Array Oper} {base i:Nat} {o:Oper} (h:sees e e' o.op.operands.toList):Z6A X ops base i e o.op = Z6A X ops base i e' o.op:=by
 unfold Z6A
 cases hop:o.op with
 | call c =>
  rw [hop] at h;simp only;cases hc:c.callee with
  | value f =>
   have h1:sees e e' c.args.toList:=Z0Y h (by intro y hy;simp only [Op.operands,Call.operands,hc,Y0J,Yu];exact .inr hy)
   have h2:sees e e' [f]:=Z0Y h (by intro y hy;simp only [Op.operands,Call.operands,hc,Y0J,Yu];exact .inl hy)
   simp only [Z07 h2,Z2s h1]
  | _ => rfl
 | _ => rfl
theorem still_env {call:Z05} {ops:Array Oper} {base i:Nat} {o:Oper} {σ:Heap} (h:sees e e' o.op.operands.toList):Z4j X call ops base i o e σ ↔ Z4j X call ops base i o e' σ:=by
 have hs:=Z89 (X:=X) (ops:=ops) (base:=base) (i:=i) h
 unfold Z4j
 simp only [Z4b (X:=X) (call:=call) h,hs]
def appl (σ:Heap) (δ:List (Nat × Ent)):Heap:=δ.foldl (fun σ p => σ.put p.1 p.2) σ
theorem Zl (σ:Heap):appl σ [] = σ:=rfl
theorem Zk (σ:Heap) (k:Nat) (en:Ent):appl σ [(k,en)] = σ.put k en:=rfl
def Agree (σ σ2:Heap) (l:List Nat):Prop:=∀ k ∈ l,σ2.ent k = σ.ent k
theorem Z5V {σ σ2:Heap} {id k:Nat} (h:σ2.ent id = σ.ent id):σ2.cur id k = σ.cur id k:=by simp only [Heap.cur,h]
theorem loadD_agree {P:Program} {σ σ2:Heap} {t:TypeId} {p:PV} (h:Agree σ σ2 (vids p)):Z4A P σ2 t p = Z4A P σ t p:=by
 cases p with
 | ptr id ver off => simp only [Z4A];rw [h id (by simp [vids])]
 | _ => rfl
theorem lenD_agree {P:Program} {σ σ2:Heap} {t:TypeId} {p:PV} (h:Agree σ σ2 (vids p)):lenD P σ2 t p = lenD P σ t p:=by
 cases p with
 | buf id len sz => simp only [lenD];rw [Z5V (h id (by simp [vids]))]
 | v x => cases x <;> rfl
 | _ => rfl
theorem ZB8 {P:Program} {σ σ2:Heap} {t:TypeId} {p i:PV} (h:Agree σ σ2 (vids p)):Z1A P σ2 t p i = Z1A P σ t p i:=by
 cases p with
 | buf id len sz => simp only [Z1A];rw [Z5V (h id (by simp [vids]))]
 | ptr id ver off => simp only [Z1A];rw [Z5V (h id (by simp [vids]))]
 | v x => cases x <;> rfl
 | _ => rfl
theorem ZBB {P:Program} {σ σ2:Heap} {t:TypeId} {p:PV} {f:Nat} (h:Agree σ σ2 (vids p)):Z1P P σ2 t p f = Z1P P σ t p f:=by
 cases p with
 | ptr id ver off => simp only [Z1P];rw [Z5V (h id (by simp [vids]))]
 | _ => rfl
theorem isNil_agree {σ σ2:Heap} {p:PV} (h:Agree σ σ2 (vids p)):Z90 σ2 p = Z90 σ p:=by
 cases p with
 | buf id len sz => simp only [Z90];rw [Z5V (h id (by simp [vids]))]
 | v x =>
  cases x with
  | sl xs => cases xs <;> rfl
  | _ => rfl
 | _ => rfl
theorem binD_agree {P:Program} {σ σ2:Heap} {op:BinOp} {t:TypeId} {x y:PV} (h:Agree σ σ2 (vids x)):binD P σ2 op t x y = binD P σ op t x y:=by
 have hn:=isNil_agree h
 unfold binD
 split <;> (try rfl)
 rw [hn]
theorem binD_pure {P:Program} {σ σ2:Heap} {op:BinOp} {t:TypeId} {x y:PV} (h1:op ≠ .eql) (h2:op ≠ .neq):binD P σ2 op t x y = binD P σ op t x y:=by
 unfold binD
 split <;> (try rfl)
 cases op <;> simp_all
theorem storeD_agree {P:Program} {σ:Heap} {t:TypeId} {x p:PV} {σ':Heap} (hs:Z5i P σ t x p = some σ') :
  ∃ k en,σ' = σ.put k en∧k ∈ vids p∧∀ σ2,Agree σ σ2 (vids p)→Z5i P σ2 t x p = some (σ2.put k en):=by
 cases p <;> simp only [Z5i] at hs <;> (try (cases hs;done))
 rename_i id ver off
 split at hs
 ·rename_i e cells hen
  split at hs
  ·rename_i hv
   split at hs
   ·rename_i n cs hn hcs
    split at hs
    ·rename_i hc;cases hs;refine ⟨id,_,rfl,by simp [vids],fun σ2 h => ?_⟩
     simp only [Z5i];rw [h id (by simp [vids]),hen]
     simp only;rw [if_pos hv,hn,hcs];simp only;rw [if_pos hc]
    ·cases hs
   ·cases hs
  ·cases hs
 ·cases hs
theorem Z7R {σ σ2:Heap} {sz:Nat} {p:PV} (h:Agree σ σ2 (vids p)):Z4E σ2 sz p = Z4E σ sz p:=by
 cases p with
 | buf id len s => simp only [Z4E];rw [h id (by simp [vids])]
 | view id tot l n s => simp only [Z4E];rw [h id (by simp [vids])]
 | v x => cases x <;> rfl
 | _ => rfl
theorem appendD_agree {P:Program} {σ:Heap} {id0:Nat} {t:TypeId} {x y z:PV} {σ':Heap} (hs:Z2E P σ id0 t x y = some (z,σ')) :
  ∃ δ,σ' = appl σ δ∧(∀ k en,(k,en) ∈ δ→k = id0∨k ∈ vids x) ∧
   ∀ σ2,Agree σ σ2 (vids x)→Agree σ σ2 (vids y)→Z2E P σ2 id0 t x y = some (z,appl σ2 δ):=by
 unfold Z2E at hs
 split at hs
 ·cases hs
 ·rename_i el hel
  split at hs
  ·rename_i sz by_ hsz hby
   split at hs
   ·cases hs
   ·rename_i ys m hbr
    split at hs
    ·cases hs
    ·rename_i hz;have red:∀ σ2,Agree σ σ2 (vids y)→Z4E σ2 sz y = some (ys,m):=fun σ2 h => (Z7R h).trans hbr
     split at hs
     ·split at hs
      ·rename_i hm;cases hs;exact ⟨[],rfl,by simp,fun σ2 _ hy => by simp only [Z2E,hel,hsz,hby,red σ2 hy,if_neg hz,if_pos hm,Zl,Zk]⟩
      ·rename_i hm
       split at hs
       ·rename_i hr;cases hs;exact ⟨[(id0,_)],rfl,by intro k en h;rw [YF] at h;cases h;exact .inl rfl,fun σ2 _ hy => by simp only [Z2E,hel,hsz,hby,red σ2 hy,if_neg hz,if_neg hm,if_pos hr,Zl,Zk]⟩
       ·cases hs
     ·split at hs
      ·cases hs
      ·rename_i hm
       split at hs
       ·rename_i hr;cases hs;exact ⟨[(id0,_)],rfl,by intro k en h;rw [YF] at h;cases h;exact .inl rfl,fun σ2 _ hy => by simp only [Z2E,hel,hsz,hby,red σ2 hy,if_neg hz,if_neg hm,if_pos hr,Zl,Zk]⟩
       ·cases hs
     ·rename_i id len s
      split at hs
      ·rename_i e' cells hen
       split at hs
       ·rename_i hr;cases hs;exact ⟨[(id,_)],rfl,by intro k en h;rw [YF] at h;cases h;exact .inr (by simp [vids]),fun σ2 hx hy => by
         have hid:=hx id (by simp [vids])
         simp only [Z2E,hel,hsz,hby,red σ2 hy,if_neg hz,hid,hen,if_pos hr,Zl,Zk]⟩
       ·cases hs
      ·cases hs
     ·cases hs
  ·cases hs
theorem copyD_agree {P:Program} {σ:Heap} {t:TypeId} {x y z:PV} {σ':Heap} (hs:Z99 P σ t x y = some (z,σ')) :
  ∃ δ,σ' = appl σ δ∧(∀ k en,(k,en) ∈ δ→k ∈ vids x) ∧
   ∀ σ2,Agree σ σ2 (vids x)→Agree σ σ2 (vids y)→Z99 P σ2 t x y = some (z,appl σ2 δ):=by
 unfold Z99 at hs
 split at hs
 ·cases hs
 ·rename_i el hel
  split at hs
  ·cases hs
  ·rename_i sz hsz
   split at hs
   ·rename_i ys m id len s hbr
    split at hs
    ·rename_i e' cells hen
     split at hs
     ·rename_i hr;cases hs;exact ⟨[(id,_)],rfl,by intro k en h;rw [YF] at h;cases h;simp [vids],fun σ2 hx hy => by
       have hid:=hx id (by simp [vids])
       have hb:=(Z7R (sz:=sz) hy).trans hbr
       simp only [Z99,hel,hsz,hb,hid,hen,if_pos hr,Zl,Zk]⟩
     ·cases hs
    ·cases hs
   ·rename_i ys m id tot l len s hbr
    split at hs
    ·rename_i e' cells hen
     split at hs
     ·rename_i hr;cases hs;exact ⟨[(id,_)],rfl,by intro k en h;rw [YF] at h;cases h;simp [vids],fun σ2 hx hy => by
       have hid:=hx id (by simp [vids])
       have hb:=(Z7R (sz:=sz) hy).trans hbr
       simp only [Z99,hel,hsz,hb,hid,hen,if_pos hr,Zl,Zk]⟩
     ·cases hs
    ·cases hs
   ·cases hs
structure CallPure (X:Ctx) (call:Z05):Prop where
 calm:∀ f args σ r σ',call (.fn f) args σ = some (r,σ')→args.all PV.calm = true→X.opn f = false→X.keep f = false→σ' = σ∧∀ σ2,call (.fn f) args σ2 = some (r,σ2)
 shut:∀ f args σ r σ',call (.fn f) args σ = some (r,σ')→X.shut f = true→X.keep f = true→X.opn f = false→args.all PV.pure = false→σ' = σ∧∀ σ2,σ2.nx = σ.nx→(∀ k ∈ args.flatMap vids,σ2.ent k = σ.ent k)→call (.fn f) args σ2 = some (r,σ2)
theorem Z3A {σ σ2:Heap} {op:Op} {x:Operand} {p:PV} (h:∀ k ∈ touched X e op,σ2.ent k = σ.ent k) (hx:x ∈ Zf op) (hp:Z0 X e x = some p):Agree σ σ2 (vids p):=fun k hk =>
 h k (by
  unfold touched;rw [List.mem_flatMap];exact ⟨x,hx,by rw [hp];exact hk⟩)
theorem Z6K {op:Op} {x:Operand} {p:PV} {k:Nat} (hx:x ∈ Zf op) (hp:Z0 X e x = some p) (hk:k ∈ vids p):k ∈ touched X e op:=by
 unfold touched
 rw [List.mem_flatMap]
 exact ⟨x,hx,by rw [hp];exact hk⟩
theorem Z6V:∀ {xs:List Operand} {ys:List PV},ZY X e xs = some ys→∀ {i:Nat} {y:PV},ys[i]? = some y→∃ x ∈ xs,Z0 X e x = some y
 | [],ys,h,i,y,hi => by simp [ZY] at h;subst h;simp at hi
 | x :: xs,ys,h,i,y,hi => by
  simp only [ZY,Y4,Y5] at h;obtain ⟨z,hz,zs,hzs,rfl⟩:=h
  cases i with
  | zero => simp at hi;subst hi;exact ⟨x,by simp,hz⟩
  | succ i =>
   obtain ⟨x',h1,h2⟩:=Z6V hzs (by simpa using hi)
   exact ⟨x',by simp [h1],h2⟩
theorem Z6O (σ:Heap) (δ δ':List (Nat × Ent)):appl σ (δ ++ δ') = appl (appl σ δ) δ':=by simp [appl]
theorem ZCk:∀ (δ:List (Nat × Ent)) {σ σ2:Heap} {k:Nat},σ2.ent k = σ.ent k→(appl σ2 δ).ent k = (appl σ δ).ent k
 | [],_,_,_,h => h
 | (j,en) :: δ,σ,σ2,k,h => by
  show (appl (σ2.put j en) δ).ent k = (appl (σ.put j en) δ).ent k
  refine ZCk δ ?_;simp only [Heap.put,upd]
  split
  ·rfl
  ·exact h
def Frz {β:Type} (F:Heap→Option (β × Heap)) (σ:Heap) (ids:List Nat) (y:β) (σ':Heap):Prop :=
 ∃ δ,σ' = appl σ δ∧(∀ k en,(k,en) ∈ δ→k ∈ ids)∧∀ σ2,(∀ k ∈ ids,σ2.ent k = σ.ent k)→F σ2 = some (y,appl σ2 δ)
theorem Frz.refl {β:Type} {F:Heap→Option (β × Heap)} {σ:Heap} {ids:List Nat} {y:β} (h:∀ σ2,F σ2 = some (y,σ2)):Frz F σ ids y σ:=⟨[],rfl,by simp,fun σ2 _ => h σ2⟩
theorem ZBO {σ σ':Heap} {x y:PV} (h:Z4K σ x = some (y,σ')):Frz (fun σ => Z4K σ x) σ (bufId x) y σ':=by
 cases x <;> simp only [Z4K] at h <;> (try (cases h;done))
 ·cases h;exact Frz.refl fun _ => rfl
 ·cases h;exact Frz.refl fun _ => rfl
 ·cases h;exact Frz.refl fun _ => rfl
 ·rename_i id len sz
  split at h
  ·rename_i el cells lv hb
   split at h
   ·rename_i hc;rw [Y1] at h;obtain ⟨fs,hfs,h⟩:=h
    cases h;refine ⟨[(id,.blk el cells false)],rfl,by simp [bufId],fun σ2 hA => ?_⟩
    have:=hA id (by simp [bufId])
    simp only [Z4K,this,hb,if_pos hc,hfs,Y8]
    rfl
   ·cases h
  ·cases h
theorem Frz.then {β γ ζ:Type} {F:Heap→Option (β × Heap)} {G:Heap→Option (γ × Heap)} {f:β→γ→ζ} {σ σ1 σ2:Heap} {ids ids':List Nat} {y:β} {z:γ} (h:Frz F σ ids y σ1) (h':Frz G σ1 ids' z σ2) :
  Frz (fun σ => (F σ).bind fun r => (G r.2).bind fun q => some (f r.1 q.1,q.2)) σ (ids ++ ids') (f y z) σ2:=by
 obtain ⟨δ,rfl,k1,l1⟩:=h
 obtain ⟨δ',rfl,k2,l2⟩:=h'
 refine ⟨δ ++ δ',(Z6O _ _ _).symm,fun k en hk => ?_,fun σ3 hA => ?_⟩
 ·rcases List.mem_append.1 hk with h | h
  ·exact Yf _ (k1 k en h)
  ·exact Yn _ (k2 k en h)
 ·have e1:=l1 σ3 fun k hk => hA k (Yf _ hk)
  have e2:=l2 (appl σ3 δ) fun k hk => ZCk δ (hA k (Yn _ hk))
  simp only [e1,e2,Y0,Z6O]
theorem Frz.sub {β:Type} {F:Heap→Option (β × Heap)} {σ σ':Heap} {ids ids':List Nat} {y:β} (h:Frz F σ ids y σ') (hs:∀ k ∈ ids,k ∈ ids'):Frz F σ ids' y σ':=by
 obtain ⟨δ,e,k1,l1⟩:=h
 exact ⟨δ,e,fun k en hk => hs k (k1 k en hk),fun σ2 hA => l1 σ2 fun k hk => hA k (hs k hk)⟩
theorem Frz.map {β γ:Type} {F:Heap→Option (β × Heap)} {f:β→γ} {σ σ':Heap} {ids:List Nat} {y:β} (h:Frz F σ ids y σ'):Frz (fun σ => (F σ).bind fun r => some (f r.1,r.2)) σ ids (f y) σ':=by
 obtain ⟨δ,e,k1,l1⟩:=h
 exact ⟨δ,e,k1,fun σ2 hA => by simp only [l1 σ2 hA,Y0]⟩
theorem ZA3:∀ {xs ys:List PV} {σ σ':Heap},Z3H σ xs = some (ys,σ')→Frz (fun σ => Z3H σ xs) σ (xs.flatMap bufId) ys σ'
 | [],ys,σ,σ',h => by
  simp only [Z3H,Y5,Y3] at h;obtain ⟨rfl,rfl⟩:=h
  exact Frz.refl fun _ => rfl
 | x :: xs,ys,σ,σ',h => by
  simp only [Z3H,Y4,Y5,Y3] at h;obtain ⟨⟨y,σ1⟩,h1,⟨zs,σ2⟩,h2,rfl,rfl⟩:=h
  exact (ZBO h1).then (f:=List.cons) (ZA3 h2)
theorem frzVal_loc {σ σ':Heap} {x y:PV} (h:Z3E σ x = some (y,σ')):Frz (fun σ => Z3E σ x) σ (Z6X x) y σ':=by
 cases x with
 | agg cs =>
  simp only [Z3E,Y4,Y5,Y3] at h;obtain ⟨⟨ys,σ1⟩,h1,rfl,rfl⟩:=h
  have:=(ZA3 h1).map (f:=PV.agg)
  simpa only [Z3E,Z6X] using this
 | _ =>
  simp only [Z3E] at h ⊢;exact ZBO h
theorem Z7E:∀ {ps qs:List (Nat × PV)} {σ σ':Heap},Z0f σ ps = some (qs,σ')→Frz (fun σ => Z0f σ ps) σ (ps.flatMap fun p => Z6X p.2) qs σ'
 | [],qs,σ,σ',h => by
  simp only [Z0f,Y5,Y3] at h;obtain ⟨rfl,rfl⟩:=h
  exact Frz.refl fun _ => rfl
 | p :: ps,qs,σ,σ',h => by
  simp only [Z0f] at h
  split at h
  ·rename_i hn;simp only [Y4,Y5,Y3] at h;obtain ⟨⟨y,σ1⟩,e1,⟨q,σ2⟩,e2,rfl,rfl⟩:=h
   have:=(frzVal_loc e1).then (f:=fun y q => (p.1,y) :: q) (Z7E e2)
   simpa only [Z0f,hn,if_true,YO] using this
  ·rename_i hn;simp only [Y4,Y5,Y3] at h;obtain ⟨⟨q,σ2⟩,e2,rfl,rfl⟩:=h
   have:=((Z7E e2).map (f:=fun q => p :: q)).sub (ids':=(p :: ps).flatMap fun p => Z6X p.2) fun k hk => by
    rw [YO];exact Yn _ hk
   simpa only [Z0f,hn,YA,if_false] using this
theorem frzPs_loc {b:Bool} {ps qs:List (Nat × PV)} {σ σ':Heap} (h:Z95 b σ ps = some (qs,σ')):Frz (fun σ => Z95 b σ ps) σ (bif b then [] else ps.flatMap fun p => Z6X p.2) qs σ':=by
 cases b with
 | false => exact Z7E h
 | true =>
  simp only [Z95,Y5,Y3] at h;obtain ⟨rfl,rfl⟩:=h
  exact Frz.refl fun _ => rfl
theorem stepOp_local {call:Z05} (hcp:CallPure X call) {ops:Array Oper} {base i:Nat} {o:Oper} {σ:Heap} {id:Nat} {x:PV} {σ':Heap} (hask:Zj X ops base i o e = true) (h:Z5 X call e σ id o.op = some (x,σ')) :
  ∃ δ,σ' = appl σ δ∧(∀ k en,(k,en) ∈ δ→k = id∨(isW o.op = true∧k ∈ touched X e o.op)∨k ∈ frozen X e o.op) ∧
   ∀ σ2,(isRW o.op = true→∀ k ∈ touched X e o.op,σ2.ent k = σ.ent k)→(∀ k ∈ frozen X e o.op,σ2.ent k = σ.ent k)→Z5 X call e σ2 id o.op = some (x,appl σ2 δ):=by
 unfold Zj at hask
 cases hop:o.op <;> rw [hop] at h hask <;> simp only [Z5] at h <;> (try (cases h;done))
 case makeMap t r => simp [Zs] at hask
 case lookup t y k c => simp [Zs] at hask
 case mapEntry t y k => simp [Zs] at hask
 case mapUpdate t y k v => simp [Zs] at hask
 case entryStore t y i v => simp [Zs] at hask
 case move y =>
  simp only [Y1,Y3] at h;obtain ⟨z,hz,rfl,rfl⟩:=h
  exact ⟨[],rfl,by simp,fun σ2 _ _ => by simp [Z5,hz,Zl,Zk]⟩
 case assign y =>
  simp only [Y1,Y3] at h;obtain ⟨z,hz,rfl,rfl⟩:=h
  exact ⟨[],rfl,by simp,fun σ2 _ _ => by simp [Z5,hz,Zl,Zk]⟩
 case pick c y z =>
  split at h
  ·rename_i hc;simp only [Y1,Y3] at h;obtain ⟨q,hq,rfl,rfl⟩:=h
   exact ⟨[],rfl,by simp,fun σ2 _ _ => by simp [Z5,hc,hq,Zl,Zk]⟩
  ·rename_i hc;simp only [Y1,Y3] at h;obtain ⟨q,hq,rfl,rfl⟩:=h
   exact ⟨[],rfl,by simp,fun σ2 _ _ => by simp [Z5,hc,hq,Zl,Zk]⟩
  ·cases h
 case alloc t =>
  simp only [Y1,newD,Y3] at h;obtain ⟨z,hz,rfl,rfl⟩:=h
  exact ⟨[(id,_)],rfl,by intro k en h;rw [YF] at h;cases h;exact .inl rfl,fun σ2 _ _ => by simp [Z5,hz,Zl,Zk,newD]⟩
 case box t y =>
  simp only [Y1,newD,Y3] at h;obtain ⟨z,hz,rfl,rfl⟩:=h
  exact ⟨[(id,_)],rfl,by intro k en h;rw [YF] at h;cases h;exact .inl rfl,fun σ2 _ _ => by simp [Z5,hz,Zl,Zk,newD]⟩
 case build t ps =>
  simp only [Y1,Y3] at h;obtain ⟨z,hz,rfl,rfl⟩:=h
  exact ⟨[],rfl,by simp,fun σ2 _ _ => by simp [Z5,hz,Zl,Zk]⟩
 case buildSlice t len ps =>
  unfold Z1e at h;simp only [Y4] at h;obtain ⟨qs,h2,⟨qs',σ1⟩,hq,h⟩:=h
  have hfz:frozen X e (.buildSlice t len ps) = (bif X.hold t ps.toList then [] else qs.flatMap fun p => Z6X p.2):=by
   simp only [frozen,h2];cases X.hold t ps.toList <;> rfl
  obtain ⟨δ,rfl,hk,hl⟩:=frzPs_loc hq
  unfold Z2W at h
  split at h
  ·rename_i el h1
   split at h
   ·rename_i sz z h3 h4
    split at h
    ·rename_i hc;simp only [Y1,Y3] at h;obtain ⟨cs,hcs,rfl,rfl⟩:=h
     refine ⟨δ ++ [(id,_)],by rw [Z6O];rfl,fun k en hm => ?_,fun σ2 _ hF => ?_⟩
     ·rcases List.mem_append.1 hm with hm | hm
      ·exact .inr (.inr (hfz ▸ hk k en hm))
      ·rw [YF] at hm;cases hm;exact .inl rfl
     ·have hq2:=hl σ2 (hfz ▸ hF)
      simp only [Z5,Z1e,Z2W,h1,h2,h3,h4,if_pos hc,hcs,Y8,Y0,hq2,Z6O]
      rfl
    ·cases h
   ·cases h
  ·cases h
 case load t y =>
  simp only [Y1,Y4,Y3] at h;obtain ⟨z,⟨p,hp,hz⟩,rfl,rfl⟩:=h
  refine ⟨[],rfl,by simp,fun σ2 hA _ => ?_⟩
  have:=loadD_agree (P:=X.P) (t:=t) (Z3A (hA rfl) (by simp [Zf]) hp)
  simp [Z5,hp,this,hz,Zl,Zk]
 case store t y z =>
  split at h
  ·rename_i p q hp hq;simp only [Y1,Y3] at h;obtain ⟨σ1,hs,rfl,rfl⟩:=h
   obtain ⟨k,en,rfl,hk,h2⟩:=storeD_agree hs
   refine ⟨[(k,en)],rfl,by intro k' en' h;rw [YF] at h;cases h;exact .inr (.inl ⟨rfl,Z6K (by simp [Zf]) hp hk⟩),fun σ2 hA _ => ?_⟩
   simp [Z5,hp,hq,h2 σ2 (Z3A (hA rfl) (by simp [Zf]) hp),Zl,Zk]
  ·cases h
 case nilCheck y =>
  split at h
  ·rename_i id' ver off hy
   split at h
   ·rename_i hc;cases h;refine ⟨[],rfl,by simp,fun σ2 hA _ => ?_⟩
    have:=Z5V (k:=ver) ((Z3A (hA rfl) (by simp [Zf]) hy) id' (by simp [vids]))
    simp [Z5,hy,this,hc,Zl,Zk]
   ·cases h
  all_goals first
   | (rename_i hy;cases h;exact ⟨[],rfl,by simp,fun σ2 _ _ => by simp [Z5,hy,Zl,Zk]⟩)
   | (cases h;done)
 case binOp op t y z ty =>
  split at h
  ·rename_i p q hp hq;simp only [Y1,Y3] at h;obtain ⟨r,hr,rfl,rfl⟩:=h
   refine ⟨[],rfl,by simp,fun σ2 hA _ => ?_⟩
   have:binD X.P σ2 op t p q = binD X.P σ op t p q:=by
    by_cases hk:op = .eql∨op = .neq
    ·have hrw:isRW (.binOp op t y z ty) = true:=by rcases hk with rfl | rfl <;> rfl
     exact binD_agree (Z3A (hA hrw) (by simp [Zf]) hp)
    ·exact binD_pure (fun h => hk (.inl h)) (fun h => hk (.inr h))
   simp [Z5,hp,hq,this,hr,Zl,Zk]
  ·cases h
 case unOp op t y =>
  simp only [Y1,Y3] at h;obtain ⟨z,hz,rfl,rfl⟩:=h
  exact ⟨[],rfl,by simp,fun σ2 _ _ => by simp [Z5,hz,Zl,Zk]⟩
 case convert a b y =>
  simp only [Y1,Y3] at h;obtain ⟨z,hz,rfl,rfl⟩:=h
  exact ⟨[],rfl,by simp,fun σ2 _ _ => by simp [Z5,hz,Zl,Zk]⟩
 case makeFunc fn f c =>
  cases fn with
  | func g =>
   simp only at h
   split at h
   ·rename_i h1 h2;cases h;exact ⟨[],rfl,by simp,fun σ2 _ _ => by simp [Z5,h1,h2,Zl,Zk]⟩
   ·rename_i h1 h2 hne;cases h;refine ⟨[],rfl,by simp,fun σ2 _ _ => ?_⟩
    simp only [Z5,h1,h2,Zl,Zk]
    split
    ·simp_all
    ·simp_all
    ·simp_all
   ·cases h
  | _ => simp at h
 case makeSlice t y z =>
  split at h
  ·rename_i p q hp hq;unfold makeD at h
   split at h
   ·rename_i el l c h1
    split at h
    ·rename_i sz by_ zl h2 h3 h4
     split at h
     ·rename_i hc;cases h;refine ⟨[(id,_)],rfl,by intro k en h;rw [YF] at h;cases h;exact .inl rfl,fun σ2 _ _ => ?_⟩
      simp only [Z5,hp,hq,makeD,h1,h2,h3,h4,if_pos hc,Zl,Zk]
     ·cases h
    ·cases h
   ·cases h
  ·cases h
 case slice t y lo hi mx =>
  simp only [Zs] at hask
  split at h
  ·rename_i h1 h2 h3 h4;simp only [h1] at hask;rw [if_pos hask] at h;simp only [Y1,Y3] at h;obtain ⟨r,hr,rfl,rfl⟩:=h
   refine ⟨[],rfl,by simp,fun σ2 _ _ => ?_⟩
   simp only [Z5,h1,h2,h3,h4,if_pos hask,Zl,Zk,hr,Y8]
  ·rename_i p q1 q2 q3 hnb h1 h2 h3 h4;simp only [Y1,Y3] at h;obtain ⟨r,hr,rfl,rfl⟩:=h
   refine ⟨[],rfl,by simp,fun σ2 _ _ => ?_⟩
   simp only [Z5,h1,h2,h3,h4,Zl,Zk,hr,Y8]
  ·cases h
 case fieldAddr t y f =>
  simp only [Y1,Y4,Y3] at h;obtain ⟨z,⟨p,hp,hz⟩,rfl,rfl⟩:=h
  refine ⟨[],rfl,by simp,fun σ2 hA _ => ?_⟩
  have:=ZBB (P:=X.P) (t:=t) (f:=f) (Z3A (hA rfl) (by simp [Zf]) hp)
  simp [Z5,hp,this,hz,Zl,Zk]
 case field t y f =>
  simp only [Y1,Y3] at h;obtain ⟨z,hz,rfl,rfl⟩:=h
  exact ⟨[],rfl,by simp,fun σ2 _ _ => by simp [Z5,hz,Zl,Zk]⟩
 case indexAddr t y z =>
  split at h
  ·rename_i p q hp hq;simp only [Y1,Y3] at h;obtain ⟨r,hr,rfl,rfl⟩:=h
   refine ⟨[],rfl,by simp,fun σ2 hA _ => ?_⟩
   have:=ZB8 (P:=X.P) (t:=t) (i:=q) (Z3A (hA rfl) (by simp [Zf]) hp)
   simp [Z5,hp,hq,this,hr,Zl,Zk]
  ·cases h
 case index t y z =>
  split at h
  ·rename_i p q hp hq;simp only [Y1,Y3] at h;obtain ⟨r,hr,rfl,rfl⟩:=h
   exact ⟨[],rfl,by simp,fun σ2 _ _ => by simp [Z5,hp,hq,hr,Zl,Zk]⟩
  ·cases h
 case extract y k =>
  split at h
  ·rename_i xs hy;simp only [Y1,Y3] at h;obtain ⟨r,hr,rfl,rfl⟩:=h
   exact ⟨[],rfl,by simp,fun σ2 _ _ => by simp [Z5,hy,hr,Zl,Zk]⟩
  ·cases h
 case call c =>
  unfold Zx at h
  split at h
  ·cases h
  ·rename_i args hargs
   split at h
   ·rename_i b hc;have hlk:Zf (.call c) = c.args.toList:=by simp [Zf,hc]
    have memA:∀ {j:Nat} {y:PV},args[j]? = some y→∃ w ∈ Zf (.call c),Z0 X e w = some y:=fun hj => by
     obtain ⟨w,h1,h2⟩:=Z6V hargs hj
     exact ⟨w,by rw [hlk];exact h1,h2⟩
    have red:∀ σ2,Z5 X call e σ2 id (.call c) = Z0X X.P σ2 id b c.argTypes.toList args:=fun σ2 => by simp only [Z5,Zx,hargs,hc]
    unfold Z0X at h
    split at h
    ·rename_i t y hts;simp only [Y1,Y3] at h;obtain ⟨r,hr,rfl,rfl⟩:=h
     refine ⟨[],rfl,by simp,fun σ2 hA _ => ?_⟩
     obtain ⟨w,w1,w2⟩:=memA (j:=0) (y:=y) (by simp)
     have hrw:isRW (.call c) = true:=by simp [isRW,Zs,hc]
     rw [red,hts];have:=lenD_agree (P:=X.P) (t:=t) (Z3A (hA hrw) w1 w2)
     simp [Z0X,this,hr,Zl,Zk]
    ·rename_i t t' y z hts
     split at h
     ·rename_i ht;have hrw:isRW (.call c) = true:=by simp [isRW,Zs,hc]
      have hw:isW (.call c) = true:=by simp [isW,Zs,hc]
      obtain ⟨wy,y1,y2⟩:=memA (j:=0) (y:=y) (by simp)
      obtain ⟨wz,z1,z2⟩:=memA (j:=1) (y:=z) (by simp)
      obtain ⟨δ,d1,d2,d3⟩:=appendD_agree h
      refine ⟨δ,d1,fun k en hk => (d2 k en hk).imp (fun h => h) fun hm => .inl ⟨hw,Z6K y1 y2 hm⟩,fun σ2 hA _ => ?_⟩
      rw [red,hts];simp only [Z0X,ht,if_true];subst ht;exact d3 σ2 (Z3A (hA hrw) y1 y2) (Z3A (hA hrw) z1 z2)
     ·cases h
    ·rename_i t t' y z hts;have hrw:isRW (.call c) = true:=by simp [isRW,Zs,hc]
     have hw:isW (.call c) = true:=by simp [isW,Zs,hc]
     obtain ⟨wy,y1,y2⟩:=memA (j:=0) (y:=y) (by simp)
     obtain ⟨wz,z1,z2⟩:=memA (j:=1) (y:=z) (by simp)
     obtain ⟨δ,d1,d2,d3⟩:=copyD_agree h
     refine ⟨δ,d1,fun k en hk => .inr (.inl ⟨hw,Z6K y1 y2 (d2 k en hk)⟩),fun σ2 hA _ => ?_⟩
     rw [red,hts];simp only [Z0X];exact d3 σ2 (Z3A (hA hrw) y1 y2) (Z3A (hA hrw) z1 z2)
    ·simp only [Y1,Y3] at h;obtain ⟨r,hr,rfl,rfl⟩:=h
     exact ⟨[],rfl,by simp,fun σ2 hA _ => by rw [red];simp [Z0X,hr,Zl,Zk]⟩
    ·simp only [Y1,Y3] at h;obtain ⟨r,hr,rfl,rfl⟩:=h
     exact ⟨[],rfl,by simp,fun σ2 hA _ => by rw [red];simp [Z0X,hr,Zl,Zk]⟩
    ·cases h
   ·cases h
   ·rename_i f hc;simp only [Zs,hc,hargs,Z6G] at hask
    split at h
    ·rename_i g hf;simp only [hf,Y9,YV] at hask;obtain ⟨rfl,h2⟩:=hcp.calm g args σ x σ' h hask.1.1 hask.1.2 hask.2
     exact ⟨[],rfl,by simp,fun σ2 _ _ => by simp [Z5,Zx,hargs,hc,hf,h2,Zl,Zk]⟩
    ·rename_i g fi ca hf;simp only [hf,Y9,YV] at hask;obtain ⟨⟨⟨⟨q1,q2⟩,q3⟩,q4⟩,q5⟩:=hask
     obtain ⟨rfl,h2⟩:=hcp.calm g _ σ x σ' h (by simp only [List.all_append,q1,q2,q3,Y0P]) q4 q5
     exact ⟨[],rfl,by simp,fun σ2 _ _ => by
      have h3:=h2 σ2
      simp only [Y01] at h3;simp [Z5,Zx,hargs,hc,hf,h3,Zl,Zk]⟩
    ·rename_i id' hf;simp [hf] at hask
    ·cases h
theorem ZCx {call:Z05} {σ σ':Heap} {id:Nat} {op:Op} {x:PV} (hq:quiet op = true) (h:Z5 X call e σ id op = some (x,σ')):σ' = σ:=by
 cases op <;> simp only [quiet,YA] at hq <;> simp only [Z5] at h
 case nilCheck y =>
  split at h
  ·split at h <;> cases h;rfl
  all_goals first
   | (cases h;rfl;done)
   | (cases h;done)
 case makeFunc fn f c =>
  cases fn <;> simp only [YA] at hq h
  split at h <;> cases h <;> rfl
 case call c =>
  unfold Zx at h
  split at h
  ·cases h
  ·split at h
   ·rename_i b hc;rw [hc] at hq;unfold Z0X at h
    split at h
    ·simp only [Y1,Y3] at h;obtain ⟨_,_,_,rfl⟩:=h;rfl
    ·simp at hq
    ·simp at hq
    ·simp only [Y1,Y3] at h;obtain ⟨_,_,_,rfl⟩:=h;rfl
    ·simp only [Y1,Y3] at h;obtain ⟨_,_,_,rfl⟩:=h;rfl
    ·cases h
   ·cases h
   ·rename_i f hc;rw [hc] at hq;simp at hq
 all_goals first
  | (simp only [Y1,Y3] at h;obtain ⟨_,_,_,rfl⟩:=h;rfl;done)
  | (split at h <;> first
    | (simp only [Y1,Y3] at h;obtain ⟨_,_,_,rfl⟩:=h;rfl)
    | (cases h;done))
theorem Alike.refl (a:Ent):Alike a a:=.inl rfl
theorem Alike.symm {a b:Ent} (h:Alike a b):Alike b a:=by
 rcases h with rfl | ⟨el,c,l,l',rfl,rfl⟩
 ·exact .inl rfl
 ·exact .inr ⟨el,c,l',l,rfl,rfl⟩
theorem Alike.trans {a b c:Ent} (h:Alike a b) (h':Alike b c):Alike a c:=by
 rcases h with rfl | ⟨el,cs,l,l',rfl,rfl⟩
 ·exact h'
 ·rcases h' with rfl | ⟨el2,cs2,m,m',h1,rfl⟩
  ·exact .inr ⟨el,cs,l,l',rfl,rfl⟩
  ·cases h1;exact .inr ⟨el,cs,l,m',rfl,rfl⟩
def Z9L (σ σ2:Heap) (l:List Nat):Prop:=∀ k ∈ l,Alike (σ.ent k) (σ2.ent k)
theorem Z5T {σ σ2:Heap} {id k:Nat} (h:Alike (σ.ent id) (σ2.ent id)):σ2.cur id k = σ.cur id k:=by
 rcases h with h | ⟨el,c,l,l',h1,h2⟩
 ·simp only [Heap.cur,h]
 ·simp only [Heap.cur,h1,h2]
theorem loadD_alike {P:Program} {σ σ2:Heap} {t:TypeId} {p:PV} (h:Z9L σ σ2 (vids p)):Z4A P σ2 t p = Z4A P σ t p:=by
 cases p with
 | ptr id ver off =>
  simp only [Z4A]
  rcases h id (by simp [vids]) with h | ⟨el,c,l,l',h1,h2⟩
  ·rw [h]
  ·rw [h1,h2]
 | _ => rfl
theorem lenD_alike {P:Program} {σ σ2:Heap} {t:TypeId} {p:PV} (h:Z9L σ σ2 (vids p)):lenD P σ2 t p = lenD P σ t p:=by
 cases p with
 | buf id len sz => simp only [lenD];rw [Z5T (h id (by simp [vids]))]
 | v x => cases x <;> rfl
 | _ => rfl
theorem ZAk {P:Program} {σ σ2:Heap} {t:TypeId} {p i:PV} (h:Z9L σ σ2 (vids p)):Z1A P σ2 t p i = Z1A P σ t p i:=by
 cases p with
 | buf id len sz => simp only [Z1A];rw [Z5T (h id (by simp [vids]))]
 | ptr id ver off => simp only [Z1A];rw [Z5T (h id (by simp [vids]))]
 | v x => cases x <;> rfl
 | _ => rfl
theorem ZBA {P:Program} {σ σ2:Heap} {t:TypeId} {p:PV} {f:Nat} (h:Z9L σ σ2 (vids p)):Z1P P σ2 t p f = Z1P P σ t p f:=by
 cases p with
 | ptr id ver off => simp only [Z1P];rw [Z5T (h id (by simp [vids]))]
 | _ => rfl
theorem isNil_alike {σ σ2:Heap} {p:PV} (h:Z9L σ σ2 (vids p)):Z90 σ2 p = Z90 σ p:=by
 cases p with
 | buf id len sz => simp only [Z90];rw [Z5T (h id (by simp [vids]))]
 | v x =>
  cases x with
  | sl xs => cases xs <;> rfl
  | _ => rfl
 | _ => rfl
theorem binD_alike {P:Program} {σ σ2:Heap} {op:BinOp} {t:TypeId} {x y:PV} (h:Z9L σ σ2 (vids x)):binD P σ2 op t x y = binD P σ op t x y:=by
 have hn:=isNil_alike h
 unfold binD
 split <;> (try rfl)
 rw [hn]
theorem Z5X {σ σ2:Heap} {op:Op} {x:Operand} {p:PV} (h:∀ k ∈ touched X e op,Alike (σ.ent k) (σ2.ent k)) (hx:x ∈ Zf op) (hp:Z0 X e x = some p):Z9L σ σ2 (vids p):=fun k hk => h k (Z6K hx hp hk)
theorem quiet_alike {call:Z05} {σ σ2:Heap} {id:Nat} {op:Op} {x:PV} (hq:quiet op = true) (h:Z5 X call e σ id op = some (x,σ)) (hA:isRW op = true→∀ k ∈ touched X e op,Alike (σ.ent k) (σ2.ent k)):Z5 X call e σ2 id op = some (x,σ2):=by
 cases op <;> simp only [quiet,YA] at hq <;> simp only [Z5] at h ⊢
 case load t y =>
  simp only [Y1,Y4,Y3] at h;obtain ⟨z,⟨p,hp,hz⟩,rfl,_⟩:=h
  have:=loadD_alike (P:=X.P) (t:=t) (Z5X (hA rfl) (by simp [Zf]) hp)
  simp [hp,this,hz]
 case nilCheck y =>
  split at h
  ·rename_i id' ver off hy
   split at h
   ·rename_i hc;cases h;have:=Z5T (k:=ver) ((Z5X (hA rfl) (by simp [Zf]) hy) id' (by simp [vids]))
    simp [this,hc]
   ·cases h
  all_goals first
   | (cases h;rfl)
   | (cases h;done)
 case binOp op t y z ty =>
  split at h
  ·rename_i p q hp hq;simp only [Y1,Y3] at h;obtain ⟨r,hr,rfl,_⟩:=h
   have:binD X.P σ2 op t p q = binD X.P σ op t p q:=by
    by_cases hk:op = .eql∨op = .neq
    ·have hrw:isRW (.binOp op t y z ty) = true:=by rcases hk with rfl | rfl <;> rfl
     exact binD_alike (Z5X (hA hrw) (by simp [Zf]) hp)
    ·exact binD_pure (fun h => hk (.inl h)) (fun h => hk (.inr h))
   simp [this,hr]
  ·cases h
 case fieldAddr t y f =>
  simp only [Y1,Y4,Y3] at h;obtain ⟨z,⟨p,hp,hz⟩,rfl,_⟩:=h
  have:=ZBA (P:=X.P) (t:=t) (f:=f) (Z5X (hA rfl) (by simp [Zf]) hp)
  simp [hp,this,hz]
 case indexAddr t y z =>
  split at h
  ·rename_i p q hp hq;simp only [Y1,Y3] at h;obtain ⟨r,hr,rfl,_⟩:=h
   have:=ZAk (P:=X.P) (t:=t) (i:=q) (Z5X (hA rfl) (by simp [Zf]) hp)
   simp [this,hr]
  ·cases h
 case makeFunc fn f c =>
  cases fn <;> simp only [YA] at hq h
  simp only
  split at h <;> cases h <;> rfl
 case call c =>
  unfold Zx at h ⊢
  split at h
  ·cases h
  ·rename_i args hargs
   split at h
   ·rename_i b hc;rw [hc] at hq;have hlk:Zf (.call c) = c.args.toList:=by simp [Zf,hc]
    unfold Z0X at h
    split at h
    ·rename_i t y hts;simp only [Y1,Y3] at h;obtain ⟨r,hr,rfl,_⟩:=h
     obtain ⟨w,h1,h2⟩:=Z6V (i:=0) (y:=y) hargs (by simp)
     have hrw:isRW (.call c) = true:=by simp [isRW,Zs,hc]
     have:=lenD_alike (P:=X.P) (t:=t) (Z5X (hA hrw) (by rw [hlk];exact h1) h2)
     simp [Z0X,hts,this,hr]
    ·simp at hq
    ·simp at hq
    ·simp only [Y1,Y3] at h;obtain ⟨r,hr,rfl,_⟩:=h
     simp [Z0X,hr]
    ·simp only [Y1,Y3] at h;obtain ⟨r,hr,rfl,_⟩:=h
     simp [Z0X,hr]
    ·cases h
   ·cases h
   ·rename_i f hc;rw [hc] at hq;simp at hq
 all_goals first
  | (simp only [Y1,Y3] at h;obtain ⟨z,hz,rfl,_⟩:=h;simp [hz];done)
  | (split at h <;> first
    | (simp only [Y1,Y3] at h;obtain ⟨z,hz,rfl,_⟩:=h;simp_all;done)
    | (cases h;done))
theorem quiet_frozen {op:Op} (hq:quiet op = true):frozen X e op = []:=by
 cases op <;> simp only [quiet,YA] at hq <;> rfl
theorem Z8V {op:Op} (hq:quiet op = true):isW op = false∧Zs op ≠ .call:=by
 cases op <;> simp only [quiet,YA] at hq <;> simp only [isW,Zs]
 case binOp op _ _ _ _ => cases op <;> simp
 case makeFunc fn _ _ => cases fn <;> simp at hq ⊢
 case call c =>
  cases hc:c.callee with
  | builtin b => rw [hc] at hq;cases b <;> simp at hq ⊢
  | _ => rw [hc] at hq;simp at hq
 all_goals simp
end Go.Dn

namespace Go.Dn
open Go
theorem one_bits {look:Nat→Nat} {o:Oper} {j:Nat} (h:(CheckFast.one look o).testBit j = true) :
  ∃ e ∈ o.after,Region.binds .any e = true∧(e.on = j∨(look e.on).testBit j = true):=by
 have key:∀ (l:List Edge) (s:Nat),(l.foldl (fun s e => if Region.binds .any e then s ||| 2 ^ e.on ||| look e.on else s) s).testBit j = true →
   s.testBit j = true∨∃ e ∈ l,Region.binds .any e = true∧(e.on = j∨(look e.on).testBit j = true):=by
  intro l
  induction l with
  | nil => intro s h;exact .inl h
  | cons e l ih =>
   intro s h
   rcases ih _ h with h | ⟨e',h1,h2⟩
   ·simp only at h
    split at h
    ·rename_i hb;rw [Nat.testBit_or,Nat.testBit_or,Yk,Yk] at h
     rcases h with (h | h) | h
     ·exact .inl h
     ·rw [Nat.testBit_two_pow] at h;exact .inr ⟨e,by simp,hb,.inl (by simpa using h)⟩
     ·exact .inr ⟨e,by simp,hb,.inr h⟩
    ·exact .inl h
   ·exact .inr ⟨e',by simp [h1],h2⟩
 unfold CheckFast.one at h
 rw [← Y15] at h
 rcases key _ _ h with h | ⟨e,h1,h2⟩
 ·simp at h
 ·exact ⟨e,by simpa using h1,h2⟩
def befL (l:List Oper) (A:Array Nat):Array Nat:=l.foldl (fun acc o => acc.push (CheckFast.one (fun i => acc.getD i 0) o)) A
theorem befL_old:∀ (l:List Oper) (A:Array Nat) (k:Nat),k < A.size→(befL l A).getD k 0 = A.getD k 0
 | [],_,_,_ => rfl
 | o :: l,A,k,hk => by
  have:=befL_old l (A.push (CheckFast.one (fun i => A.getD i 0) o)) k (by simp;omega)
  have h2:befL (o :: l) A = befL l (A.push (CheckFast.one (fun i => A.getD i 0) o)):=rfl
  rw [h2,this];simp [Y7,Array.getElem?_push,Nat.ne_of_lt hk]
theorem befL_bits {j:Nat}:∀ (l:List Oper) (A:Array Nat) (k:Nat) (o:Oper),l[k]? = some o→((befL l A).getD (A.size + k) 0).testBit j = true →
  ∃ e ∈ o.after,Region.binds .any e = true∧(e.on = j∨((befL l A).getD e.on 0).testBit j = true)
 | [],_,_,_,h,_ => by simp at h
 | o :: l,A,0,o',h,hb => by
  simp at h;subst h;have h2:befL (o :: l) A = befL l (A.push (CheckFast.one (fun i => A.getD i 0) o)):=rfl
  rw [h2,Nat.add_zero,befL_old _ _ _ (by simp)] at hb
  have h3:(A.push (CheckFast.one (fun i => A.getD i 0) o)).getD A.size 0 = CheckFast.one (fun i => A.getD i 0) o:=by simp [Y7]
  rw [h3] at hb;obtain ⟨e,h4,h5,h6⟩:=one_bits hb
  refine ⟨e,h4,h5,h6.imp id fun h6 => ?_⟩
  have hlt:e.on < A.size:=by
   rcases YI e.on A.size with h | h
   ·exact h
   ·simp [Y7,Y0F h] at h6
  rw [befL_old _ _ _ hlt];exact h6
 | o :: l,A,k + 1,o',h,hb => by
  have h2:befL (o :: l) A = befL l (A.push (CheckFast.one (fun i => A.getD i 0) o)):=rfl
  rw [h2] at hb ⊢;refine befL_bits l _ k o' (by simpa using h) ?_
  have:(A.push (CheckFast.one (fun i => A.getD i 0) o)).size + k = A.size + (k + 1):=by simp;omega
  rw [this];exact hb
theorem before_eq (ops:Array Oper):Region.before ops = befL ops.toList #[]:=by
 unfold Region.before befL
 rw [← Y15]
 rfl
theorem ZBW {ops:Array Oper} {i j:Nat} {o:Oper} (ho:ops[i]? = some o) (h:((Region.before ops).getD i 0).testBit j = true) :
  ∃ e ∈ o.after,Region.binds .any e = true∧(e.on = j∨((Region.before ops).getD e.on 0).testBit j = true):=by
 rw [before_eq] at h ⊢
 exact befL_bits ops.toList #[] i o (by simpa using ho) (by simpa using h)
section
variable {X:Ctx} {n:Nat} {ops:Array Oper}
theorem Z7z (h:Z4Y ops = true):Region.lexB .any ops = true ∧
  (∀ i o,ops[i]? = some o→isW o.op = true→Z5N (Region.before ops) ops i = false) ∧
  ∀ i o,ops[i]? = some o→∀ e ∈ o.after,Region.binds .any e = true→e.on < i:=by
 unfold Z4Y at h
 simp only [Y9,YJ,List.mem_range] at h
 obtain ⟨⟨h1,h2⟩,h3⟩:=h
 refine ⟨h1,fun i o ho hw => ?_,fun i o ho e he hb => ?_⟩
 ·have:=h3 i (Array.getElem?_eq_some_iff.1 ho).1
  rw [ho] at this;simp only [hw,if_true,Y9,YV] at this;exact this.1
 ·have:=h3 i (Array.getElem?_eq_some_iff.1 ho).1
  rw [ho] at this;simp only [Y9] at this;have:=Array.all_eq_true_iff_forall_mem.1 this.2 e he
  simpa [hb] using this
theorem bits_lt (ha:∀ i o,ops[i]? = some o→∀ e ∈ o.after,Region.binds .any e = true→e.on < i) {j:Nat}:∀ (i:Nat),((Region.before ops).getD i 0).testBit j = true→j < i:=by
 intro i
 induction i using Nat.strongRecOn with
 | _ i ih =>
  intro h;cases ho:ops[i]? with
  | none =>
   exfalso
   have hsz:(Region.before ops).size = ops.size:=by
    rw [before_eq];have key:∀ (l:List Oper) (A:Array Nat),(befL l A).size = A.size + l.length:=by
     intro l
     induction l with
     | nil => intro A;rfl
     | cons o l ih =>
      intro A;have h2:befL (o :: l) A = befL l (A.push (CheckFast.one (fun i => A.getD i 0) o)):=rfl
      rw [h2,ih]
      simp
      omega
    rw [key]
    simp
   have:(Region.before ops)[i]? = none:=Y0F (by rw [hsz];exact Array.getElem?_eq_none_iff.1 ho)
   simp [Y7,this] at h
  | some o =>
   obtain ⟨e,he,hb,h1⟩:=ZBW ho h
   have hlt:=ha i o ho e he hb
   rcases h1 with h1 | h1
   ·omega
   ·have:=ih e.on hlt h1
    omega
theorem lex_free:∀ (fuel k:Nat) (L:Array Bool),Region.lexFrom .any ops fuel k L = true→∀ j,k≤j→j < k + fuel →
  ∃ L':Array Bool,(∀ m,j≤m→L'.getD m true = L.getD m true)∧Region.free .any ops L' j = true
 | 0,k,L,_,j,h1,h2 => by omega
 | fuel + 1,k,L,h,j,h1,h2 => by
  simp only [Region.lexFrom,Y9] at h
  rcases Nat.eq_or_lt_of_le h1 with rfl | hlt
  ·exact ⟨L,fun _ _ => rfl,h.1.2⟩
  ·obtain ⟨L',h3,h4⟩:=lex_free fuel (k + 1) _ h.2 j hlt (by omega)
   exact ⟨L',fun m hm => by rw [h3 m hm,getD_set_ne true (by omega)],h4⟩
theorem apart_of (h:Region.lexB .any ops = true) {i j:Nat} {oi oj:Oper} (hi:ops[i]? = some oi) (hj:ops[j]? = some oj) (hlt:j < i) (hno:∀ e ∈ oi.after,Region.binds .any e = true→e.on ≠ j):oj.apart ops oi = true:=by
 simp only [Region.lexB,Y9] at h
 have hjs:=(Array.getElem?_eq_some_iff.1 hj).1
 have his:=(Array.getElem?_eq_some_iff.1 hi).1
 obtain ⟨L',h1,h2⟩:=lex_free _ _ _ h.2 j (YX _) (by omega)
 refine Region.free_spec hj h2 i oi hi (by omega) ?_ hno
 rw [h1 i (by omega)]
 simp [Y7,his]
theorem Z6x {o:Oper} {e e':Env} (h:∀ t ∈ o.looksAt ops,e t = e' t):sees e e' o.op.operands.toList:=fun t ht => h t (by
 unfold Oper.looksAt
 rw [Yu]
 exact .inl (List.mem_filterMap.2 ⟨.tmp t,ht,rfl⟩))
theorem Z0z {o:Oper} {e e':Env} (h:∀ t ∈ o.looksAt ops,e t = e' t):Zz ops e o = Zz ops e' o:=by
 unfold Zz
 cases hg:o.guard with
 | none => rfl
 | some g =>
  obtain ⟨g,want⟩:=g
  simp only;cases hd:(ops[g]?).bind (·.dst) with
  | none => rfl
  | some d =>
   simp only;rw [h d (by unfold Oper.looksAt;rw [Yu,hg];simp [hd])]
def lookIds (X:Ctx) (e:Env) (op:Op) (k:Nat):Prop:=(isRW op = true∧k ∈ touched X e op)∨k ∈ frozen X e op
theorem Z53 {call:Z05} (hcp:CallPure X call) {base i:Nat} {o:Oper} {e e':Env} {σ σ':Heap} (hna:Z34 (Region.before ops) ops i = false) (hns:¬(Zz ops e o = some true∧Zp X ops base i o e = false)) (h:Z0c X call n ops base i o e σ = some (e',σ')) :
  ∃ x δ,e' = putD n e o.dst x∧σ' = appl σ δ∧(Zz ops e o = some true→Zj X ops base i o e = true) ∧
   (∀ k en,(k,en) ∈ δ→Zz ops e o = some true∧(k = base + i∨(isW o.op = true∧k ∈ touched X e o.op)∨k ∈ frozen X e o.op)) ∧
   ∀ e2 σ2,Stable ops e e2→(∀ t ∈ o.looksAt ops,e t = e2 t)→(Zz ops e o = some true→∀ k,lookIds X e o.op k→σ2.ent k = σ.ent k) →
    Z0c X call n ops base i o e2 σ2 = some (putD n e2 o.dst x,appl σ2 δ):=by
 unfold Z0c at h
 rw [if_neg hns] at h
 unfold Z0s at h
 split at h
 ·rename_i hw;have hask:Zp X ops base i o e = true:=by
   cases hd:Zp X ops base i o e with
   | true => rfl
   | false => exact absurd ⟨hw,hd⟩ hns
  have hask0:Zj X ops base i o e = true:=by
   unfold Zp at hask;rw [hna,Y0U] at hask;exact hask
  simp only [Y4,Y5,Y3] at h;obtain ⟨⟨x,σ1⟩,h1,rfl,rfl⟩:=h
  obtain ⟨δ,rfl,hk,hl⟩:=stepOp_local hcp hask0 h1
  refine ⟨x,δ,rfl,rfl,fun _ => hask0,fun k en hkk => ⟨hw,hk k en hkk⟩,fun e2 σ2 hst he hσ => ?_⟩
  have hs:=Z6x (ops:=ops) he
  unfold Z0c;rw [← Z0z he,← Z4y hst hs,if_neg (by rw [hask];simp)]
  unfold Z0s;rw [← Z0z he,hw];simp only;rw [← Z4b hs,hl σ2 (fun hr k hk => hσ hw k (.inl ⟨hr,hk⟩)) (fun k hk => hσ hw k (.inr hk))]
  rfl
 ·rename_i hw;cases h;refine ⟨.undef,[],rfl,rfl,fun h => (by rw [hw] at h;cases h),by simp,fun e2 σ2 _ he _ => ?_⟩
  unfold Z0c;rw [← Z0z he,if_neg (by rw [hw];simp)]
  unfold Z0s;rw [← Z0z he,hw]
  rfl
 ·cases h
theorem isW_isRW {op:Op} (h:isW op = true):isRW op = true:=by
 unfold isW at h
 unfold isRW
 split at h <;> simp_all
theorem Z5h {op:Op} (h:isRW op = true):Zs op = .read∨Zs op = .write:=by
 unfold isRW at h
 split at h <;> simp_all
theorem ZAF {op:Op}:isW op = true ↔ Zs op = .write:=by
 unfold isW
 split <;> simp_all
theorem Z9H {i j:Nat} {o:Oper} (hi:ops[i]? = some o) (hu:unord (Region.before ops) i j = true) (hp:isW o.op = true):Z5N (Region.before ops) ops j = true:=by
 unfold Z5N
 rw [List.any_eq_true]
 refine ⟨i,List.mem_range.2 (Array.getElem?_eq_some_iff.1 hi).1,?_⟩
 rw [hi]
 simp [hu,hp]
theorem freshAt_of {i j:Nat} {o:Oper} {e:Env} {k:Nat} (hj:ops[j]? = some o) (hu:unord (Region.before ops) i j = true) (hp:isRW o.op = true) (h:Z2w X e (Region.before ops) ops i k = false):ZB7 ops o.op = true∧k ∉ Z2x X ops e o.op:=by
 unfold Z2w at h
 rw [List.any_eq_false] at h
 have:=h j (List.mem_range.2 (Array.getElem?_eq_some_iff.1 hj).1)
 rw [hj] at this
 simpa [hu,hp] using this
theorem Z2C {bef:Array Nat} {i j:Nat} (h:unord bef i j = true):unord bef j i = true:=by
 unfold unord at h ⊢
 rw [Nat.max_comm,Nat.min_comm,bne_comm]
 exact h
theorem ask_read {base i:Nat} {o:Oper} {e:Env} (h:Zj X ops base i o e = true) (hr:Zs o.op = .read) {k:Nat} (hk:k ∈ touched X e o.op) :
  k < base∨(Z5N (Region.before ops) ops i = false∧((Region.before ops).getD i 0).testBit (k - base) = true):=by
 unfold Zj at h
 rw [hr] at h
 simp only [Y9,YJ] at h
 have:=h.1 k hk
 simp only [Yk,decide_eq_true_eq,Y9,YV] at this
 exact this.imp id fun h => h.1
theorem ask_root {base i:Nat} {o:Oper} {e:Env} (hi:ops[i]? = some o) (h:Zj X ops base i o e = true) (hr:Zs o.op = .read) (ho:Z5N (Region.before ops) ops i = true) (hro:ZB7 ops o.op = true) {k:Nat} (hk:k ∈ touched X e o.op) :
  k ∈ Z2x X ops e o.op:=by
 unfold Zj at h
 rw [hr] at h
 simp only [Y9,Yk,YV,hro,YJ,List.contains_iff_mem,Bool.true_eq_false,or_false] at h
 rcases h.2 with h | h
 ·unfold Z6e at h;rw [hi] at h;simp only [ho,hro,Yg,Y0U,Bool.or_false] at h;rw [ZC0 h];exact hk
 ·exact h k hk
theorem ZBJ {base i:Nat} {o:Oper} {e:Env} (h:Zj X ops base i o e = true) (hr:Zs o.op = .write) {k:Nat} (hk:k ∈ touched X e o.op) :
  (k < base∧Z2w X e (Region.before ops) ops i k = false)∨(base≤k∧((Region.before ops).getD i 0).testBit (k - base) = true):=by
 unfold Zj at h
 rw [hr] at h
 simp only [YJ] at h
 have:=h k hk
 simp only [Yk,decide_eq_true_eq,Y9,YV] at this
 exact this.imp id fun h => h.1
theorem key_read (hd:Z4Y ops = true) {base i j:Nat} {oi oj:Oper} {ei ej:Env} (hst:Stable ops ej ei) (hi:ops[i]? = some oi) (hj:ops[j]? = some oj) (hu:unord (Region.before ops) i j = true)
  (hb:((Region.before ops).getD i 0).testBit j = false) (hai:Zj X ops base i oi ei = true) (haj:Zj X ops base j oj ej = true) {k:Nat}
  (hk:k = base + j∨(isW oj.op = true∧k ∈ touched X ej oj.op)) (hri:isRW oi.op = true) (hki:k ∈ touched X ei oi.op):False:=by
 obtain ⟨_,hww,_⟩:=Z7z hd
 rcases hk with rfl | ⟨hw,hk⟩
 ·rcases Z5h hri with h | h
  ·rcases ask_read hai h hki with h | ⟨_,h⟩
   ·omega
   ·rw [Yi,hb] at h;cases h
  ·rcases ZBJ hai h hki with ⟨h,_⟩ | ⟨_,h⟩
   ·omega
   ·rw [Yi,hb] at h;cases h
 ·rcases ZBJ haj (ZAF.1 hw) hk with ⟨_,h⟩ | ⟨hge,_⟩
  ·obtain ⟨h1,h2⟩:=freshAt_of hi (Z2C hu) hri h
   rw [Z7l hst] at h2;have hold:=Z9H hj (Z2C hu) hw
   rcases Z5h hri with h | h
   ·exact h2 (ask_root hi hai h hold h1 hki)
   ·have:=hww i oi hi (ZAF.2 h)
    rw [hold] at this;cases this
  ·rcases Z5h hri with h | h
   ·rcases ask_read hai h hki with h | ⟨h,_⟩
    ·omega
    ·rw [Z9H hj (Z2C hu) hw] at h;cases h
   ·have:=hww i oi hi (ZAF.2 h)
    rw [Z9H hj (Z2C hu) hw] at this;cases this
theorem Z9R {base i:Nat} {o:Oper} {e:Env} (h:Zj X ops base i o e = true) {k:Nat} (hk:k ∈ frozen X e o.op) :
  base≤k∧((Region.before ops).getD i 0).testBit (k - base) = true∧∀ j,j < ops.size→unord (Region.before ops) i j = true→((Region.before ops).getD j 0).testBit (k - base) = false:=by
 cases hop:o.op with
 | buildSlice t len parts =>
  unfold Zj at h;simp only [hop,Zs,YJ] at h;rw [hop] at hk;have:=h k hk
  simp only [Y9,decide_eq_true_eq,YJ,List.mem_range,YV,Y0t] at this;obtain ⟨⟨⟨h1,h2⟩,h3⟩,h4⟩:=this
  refine ⟨h1,h3,fun j hj hu => ?_⟩
  rcases h4 j hj with h | h
  ·rw [hu] at h;cases h
  ·exact h
 | _ => rw [hop] at hk;simp [frozen] at hk
theorem ask_rw {base i:Nat} {o:Oper} {e:Env} (h:Zj X ops base i o e = true) (hr:isRW o.op = true) {k:Nat} (hk:k ∈ touched X e o.op):k < base∨((Region.before ops).getD i 0).testBit (k - base) = true:=by
 rcases Z5h hr with h' | h'
 ·exact (ask_read h h' hk).imp id fun h => h.2
 ·exact (ZBJ h h' hk).imp (fun h => h.1) fun h => h.2
theorem key_look (hd:Z4Y ops = true) {base i j:Nat} {oi oj:Oper} {ei ej:Env} (hst:Stable ops ej ei) (hi:ops[i]? = some oi) (hj:ops[j]? = some oj) (hu:unord (Region.before ops) i j = true)
  (hb:((Region.before ops).getD i 0).testBit j = false) (hai:Zj X ops base i oi ei = true) (haj:Zj X ops base j oj ej = true) {k:Nat}
  (hk:k = base + j∨(isW oj.op = true∧k ∈ touched X ej oj.op)∨k ∈ frozen X ej oj.op) (hl:lookIds X ei oi.op k):False:=by
 have hil:=(Array.getElem?_eq_some_iff.1 hi).1
 have hjl:=(Array.getElem?_eq_some_iff.1 hj).1
 rcases hl with ⟨hr,ht⟩ | hf
 ·rcases hk with hk | hk | hk
  ·exact key_read hd hst hi hj hu hb hai haj (.inl hk) hr ht
  ·exact key_read hd hst hi hj hu hb hai haj (.inr hk) hr ht
  ·obtain ⟨h1,h2,h3⟩:=Z9R haj hk
   rcases ask_rw hai hr ht with h | h
   ·omega
   ·rw [h3 i hil (Z2C hu)] at h;cases h
 ·obtain ⟨h1,h2,h3⟩:=Z9R hai hf
  rcases hk with rfl | ⟨hw,hk⟩ | hk
  ·rw [Yi,hb] at h2;cases h2
  ·rcases ask_rw haj (isW_isRW hw) hk with h | h
   ·omega
   ·rw [h3 j hjl hu] at h;cases h
  ·obtain ⟨_,h4,h5⟩:=Z9R haj hk
   rw [h5 i hil (Z2C hu)] at h2;cases h2
theorem ZCa {i j:Nat} (hj:j < ops.size) (hu:unord (Region.before ops) i j = true):Z34 (Region.before ops) ops i = false:=by
 cases h:Z34 (Region.before ops) ops i with
 | false => rfl
 | true =>
  unfold Z34 at h;rw [YJ] at h;have:=h j (List.mem_range.2 hj)
  rw [hu] at this;cases this
theorem Z1I {e:Env} {dst:Option Tmp} {x:PV} {t:Nat} (h:dst ≠ some t):putD n e dst x t = e t:=by
 unfold putD
 cases dst with
 | none => rfl
 | some d =>
  simp only
  split
  ·simp only [upd];rw [if_neg (fun hh => h (by rw [hh]))]
  ·rfl
theorem upd_comm {α:Type} (f:Nat→α) {i j:Nat} (x y:α) (h:i ≠ j):upd (upd f i x) j y = upd (upd f j y) i x:=by
 funext k
 simp only [upd]
 by_cases h1:k = j
 ·subst h1;rw [if_pos rfl,if_neg (fun hh => h hh.symm),if_pos rfl]
 ·rw [if_neg h1]
  by_cases h2:k = i
  ·rw [if_pos h2,if_pos h2]
  ·rw [if_neg h2,if_neg h2,if_neg h1]
theorem Z73 {e:Env} {d d':Option Tmp} {x y:PV} (h:∀ t,d = some t→d' ≠ some t):putD n (putD n e d x) d' y = putD n (putD n e d' y) d x:=by
 cases d with
 | none => rfl
 | some t =>
  cases d' with
  | none => rfl
  | some t' =>
   have hne:t ≠ t':=fun hh => h t rfl (by rw [hh])
   simp only [putD]
   by_cases h1:t < n
   ·by_cases h2:t' < n
    ·simp only [if_pos h1,if_pos h2];exact upd_comm _ _ _ hne
    ·simp only [if_pos h1,if_neg h2]
   ·by_cases h2:t' < n
    ·simp only [if_neg h1,if_pos h2]
    ·simp only [if_neg h1,if_neg h2]
theorem ZAS:∀ {δ:List (Nat × Ent)} {σ:Heap} {k:Nat},(∀ k' en,(k',en) ∈ δ→k' ≠ k)→(appl σ δ).ent k = σ.ent k
 | [],_,_,_ => rfl
 | (j,en) :: δ,σ,k,h => by
  show (appl (σ.put j en) δ).ent k = σ.ent k
  rw [ZAS fun k' en' hm => h k' en' (YH _ hm)]
  simp only [Heap.put,upd];rw [if_neg fun hh => h j en YG hh.symm]
theorem put_comm {σ:Heap} {j k:Nat} {en en':Ent} (h:j ≠ k):(σ.put j en).put k en' = (σ.put k en').put j en:=by
 simp only [Heap.put]
 rw [upd_comm _ _ _ h]
theorem appl_put:∀ {δ:List (Nat × Ent)} {σ:Heap} {j:Nat} {en:Ent},(∀ k en',(k,en') ∈ δ→k ≠ j)→appl (σ.put j en) δ = (appl σ δ).put j en
 | [],_,_,_,_ => rfl
 | (k,en') :: δ,σ,j,en,h => by
  show appl ((σ.put j en).put k en') δ = (appl (σ.put k en') δ).put j en
  rw [put_comm fun hh => h k en' YG hh.symm,appl_put fun k' en' hm => h k' en' (YH _ hm)]
theorem appl_comm:∀ {δ δ':List (Nat × Ent)} {σ:Heap},(∀ k en k' en',(k,en) ∈ δ→(k',en') ∈ δ'→k ≠ k')→appl (appl σ δ) δ' = appl (appl σ δ') δ
 | [],_,_,_ => rfl
 | (j,en) :: δ,δ',σ,h => by
  show appl (appl (σ.put j en) δ) δ' = appl ((appl σ δ').put j en) δ
  rw [appl_comm fun k en k' en' h1 h2 => h k en k' en' (YH _ h1) h2,appl_put fun k en' hm hh => h j en k en' YG hm hh.symm]
theorem quiet_ask {call:Z05} {base i:Nat} {o:Oper} {e e':Env} {σ σ':Heap} (hq:quiet o.op = true) (h:Z0c X call n ops base i o e σ = some (e',σ')):¬(Zz ops e o = some true∧Zp X ops base i o e = false):=by
 intro c
 unfold Z0c at h
 rw [if_pos c] at h
 split at h
 ·rename_i hs;exact (Z8V hq).2 hs.1
 ·cases h
theorem ZCF {call:Z05} {base i:Nat} {o:Oper} {e e':Env} {σ σ':Heap} (hq:quiet o.op = true) (h:Z0c X call n ops base i o e σ = some (e',σ')):σ' = σ:=by
 have hns:=quiet_ask hq h
 unfold Z0c at h
 rw [if_neg hns] at h
 unfold Z0s at h
 split at h
 ·simp only [Y4,Y5,Y3] at h;obtain ⟨⟨x,σ1⟩,h1,_,rfl⟩:=h
  exact ZCx hq h1
 ·cases h;rfl
 ·cases h
theorem ask_lt {base i:Nat} {o:Oper} {e:Env} (h:Zj X ops base i o e = true) (hr:Zs o.op = .read) {k:Nat} (hk:k ∈ touched X e o.op):k < base + ops.size:=by
 unfold Zj at h
 rw [hr] at h
 simp only [Y9,YJ] at h
 have:=h.1 k hk
 simp only [Yk,decide_eq_true_eq,Y9,YV] at this
 rcases this with h | h
 ·omega
 ·exact h.2
theorem ZC7 {call:Z05} {base i:Nat} {o:Oper} {e e2 e':Env} {σ σ2 σ':Heap} (hq:quiet o.op = true) (hna:Z34 (Region.before ops) ops i = false) (h:Z0c X call n ops base i o e σ = some (e',σ'))
  (hst:Stable ops e e2) (he:∀ t ∈ o.looksAt ops,e t = e2 t) (hσ:∀ k,k < base + ops.size→Alike (σ.ent k) (σ2.ent k)):σ' = σ∧∃ x,e' = putD n e o.dst x∧Z0c X call n ops base i o e2 σ2 = some (putD n e2 o.dst x,σ2):=by
 refine ⟨ZCF hq h,?_⟩
 have hns:=quiet_ask hq h
 have hse:=Z6x (ops:=ops) he
 unfold Z0c at h
 rw [if_neg hns] at h
 unfold Z0s at h
 split at h
 ·rename_i hw;have hask:Zp X ops base i o e = true:=by
   cases hd:Zp X ops base i o e with
   | true => rfl
   | false => exact absurd ⟨hw,hd⟩ hns
  have hask0:Zj X ops base i o e = true:=by
   have h1:=hask
   unfold Zp at h1;rw [hna,Y0U] at h1;exact h1
  simp only [Y4,Y5,Y3] at h;obtain ⟨⟨x,σ1⟩,h1,rfl,rfl⟩:=h
  have hs1:=ZCx hq h1
  subst hs1;refine ⟨x,rfl,?_⟩;have h2:=quiet_alike (σ2:=σ2) hq h1 (fun hrw k hk => hσ k (by
   rcases Z5h hrw with h1 | h1
   ·exact ask_lt hask0 h1 hk
   ·have:=(Z8V hq).1
    rw [ZAF.2 h1] at this;cases this))
  unfold Z0c;rw [← Z0z he,← Z4y hst hse,if_neg (by rw [hask];simp)]
  unfold Z0s;rw [← Z0z he,hw];simp only;rw [← Z4b hse,h2]
  rfl
 ·rename_i hw;cases h;refine ⟨.undef,rfl,?_⟩;unfold Z0c;rw [← Z0z he,if_neg (by rw [hw];simp)]
  unfold Z0s;rw [← Z0z he,hw]
 ·cases h
theorem ZCd {call:Z05} {base i:Nat} {o:Oper} {e e':Env} {σ σ':Heap} (c:Zz ops e o = some true∧Zp X ops base i o e = false) (h:Z0c X call n ops base i o e σ = some (e',σ')) :
  Z4j X call ops base i o e σ∧∃ x,e' = putD n e o.dst x∧Z5 X call e σ (base + i) o.op = some (x,σ')∧∀ e2,Stable ops e e2→(∀ t ∈ o.looksAt ops,e t = e2 t)→Z0c X call n ops base i o e2 σ = some (putD n e2 o.dst x,σ'):=by
 unfold Z0c at h
 rw [if_pos c] at h
 split at h
 ·rename_i hs;unfold Z0s at h;rw [c.1] at h;simp only [Y4,Y5,Y3] at h;obtain ⟨⟨x,σ1⟩,h1,rfl,rfl⟩:=h
  refine ⟨hs,x,rfl,h1,fun e2 hst he => ?_⟩
  have hse:=Z6x (ops:=ops) he
  unfold Z0c;rw [← Z0z he,← Z4y hst hse,if_pos c,if_pos ((still_env hse).1 hs)];unfold Z0s;rw [← Z0z he,c.1];simp only;rw [← Z4b hse,h1]
  rfl
 ·cases h
theorem ZBM {i j:Nat} {oj:Oper} (h:Z5g ops i = true) (hj:ops[j]? = some oj) (hu:unord (Region.before ops) i j = true):quiet oj.op = true:=by
 unfold Z5g at h
 rw [YJ] at h
 have:=h j (List.mem_range.2 (Array.getElem?_eq_some_iff.1 hj).1)
 rw [hj,hu] at this
 simpa using this
theorem ZCW {i j:Nat} {oj:Oper} (h:ZAw ops i = true) (hj:ops[j]? = some oj) (hu:unord (Region.before ops) i j = true):mild oj.op = true:=by
 unfold ZAw at h
 rw [YJ] at h
 have:=h j (List.mem_range.2 (Array.getElem?_eq_some_iff.1 hj).1)
 rw [hj,hu] at this
 simpa using this
theorem mild_noW {e:Env} {op:Op} (hq:mild op = true):isW op = false∧Zs op ≠ .call∧frozen X e op = []:=by
 by_cases hq2:quiet op = true
 ·exact ⟨(Z8V hq2).1,(Z8V hq2).2,quiet_frozen hq2⟩
 ·cases op <;> simp only [mild,hq2,YA] at hq
  exact ⟨rfl,by simp [Zs],rfl⟩
theorem mild_ask {call:Z05} {base i:Nat} {o:Oper} {e e':Env} {σ σ':Heap} (hq:mild o.op = true) (h:Z0c X call n ops base i o e σ = some (e',σ')):¬(Zz ops e o = some true∧Zp X ops base i o e = false):=by
 intro c
 unfold Z0c at h
 rw [if_pos c] at h
 split at h
 ·rename_i hs;exact (mild_noW (X:=X) (e:=e) hq).2.1 hs.1
 ·cases h
theorem shut_op {call:Z05} (hcp:CallPure X call) {base i:Nat} {e:Env} {op:Op} {σ σ':Heap} {id:Nat} {x:PV} (hs:Z6A X ops base i e op = true) (h:Z5 X call e σ id op = some (x,σ')) :
  σ' = σ∧∀ σ2 id2,σ2.nx = σ.nx→(∀ k,k < base→σ2.ent k = σ.ent k)→Z5 X call e σ2 id2 op = some (x,σ2):=by
 unfold Z6A at hs
 rw [Y9] at hs
 obtain ⟨_,hs⟩:=hs
 split at hs
 ·rename_i c
  split at hs
  ·rename_i f hc
   split at hs
   ·rename_i g args hg ha;simp only [Y9,YV,YJ,decide_eq_true_eq] at hs;obtain ⟨⟨⟨⟨h1,h2⟩,h3⟩,h4⟩,h5⟩:=hs
    simp only [Z5,Zx,ha,hc,hg] at h;obtain ⟨q1,q2⟩:=hcp.shut g args σ x σ' h h1 h2 h3 h4
    exact ⟨q1,fun σ2 id2 hn hk => by
     simp only [Z5,Zx,ha,hc,hg];exact q2 σ2 hn fun k hkk => hk k (h5 k hkk)⟩
   ·cases hs
  ·cases hs
 ·cases hs
theorem appl_nx:∀ {δ:List (Nat × Ent)} {σ:Heap},(appl σ δ).nx = σ.nx
 | [],_ => rfl
 | (j,en) :: δ,σ => by
  show (appl (σ.put j en) δ).nx = σ.nx
  rw [appl_nx]
  rfl
theorem swap {call:Z05} (hcp:CallPure X call) (hd:Z4Y ops = true) {base i j:Nat} {oi oj:Oper} (hi:ops[i]? = some oi) (hj:ops[j]? = some oj) (hlt:j < i)
  (hno:∀ e ∈ oi.after,Region.binds .any e = true→e.on ≠ j) (hb:((Region.before ops).getD i 0).testBit j = false)
  {e e1 e2:Env} {σ σ1 σ2:Heap} (h1:Z0c X call n ops base j oj e σ = some (e1,σ1)) (h2:Z0c X call n ops base i oi e1 σ1 = some (e2,σ2)) :
  ∃ e1' σ1',Z0c X call n ops base i oi e σ = some (e1',σ1')∧Z0c X call n ops base j oj e1' σ1' = some (e2,σ2):=by
 obtain ⟨hlex,_,ha⟩:=Z7z hd
 obtain ⟨p1,p2,p3⟩:=Oper.apart_spec (apart_of hlex hi hj hlt hno)
 have hb':((Region.before ops).getD j 0).testBit i = false:=by
  cases h:((Region.before ops).getD j 0).testBit i with
  | false => rfl
  | true => have:=bits_lt ha j h;omega
 have hu:unord (Region.before ops) i j = true:=by
  unfold unord;rw [Nat.max_eq_left (Nat.le_of_lt hlt),Nat.min_eq_right (Nat.le_of_lt hlt),hb]
  simp
  omega
 have hjl:=(Array.getElem?_eq_some_iff.1 hj).1
 have hil:=(Array.getElem?_eq_some_iff.1 hi).1
 have hdst:∀ {k:Nat} {o:Oper} {t:Nat},ops[k]? = some o→(ops.any fun o => o.dst == some t) = false→o.dst ≠ some t:=fun {k o t} hk h hh => by
  rw [Array.any_eq_false] at h;obtain ⟨hk1,hk2⟩:=Array.getElem?_eq_some_iff.1 hk
  have:=h k hk1
  rw [hk2,hh] at this;simp at this
 have naj:=ZCa hil (Z2C hu)
 have nai:=ZCa hjl hu
 by_cases cj:Zz ops e oj = some true∧Zp X ops base j oj e = false
 ·obtain ⟨hs,xj,rfl,q1,lj⟩:=ZCd cj h1
  rcases hs.2 with hsh | hs2
  ·have hmi:=ZCW (by unfold Z6A at hsh;exact (Y9 _ _ ▸ hsh).1) hi (Z2C hu)
   obtain ⟨rfl,q2⟩:=shut_op hcp hsh q1
   have st1:Stable ops (putD n e oj.dst xj) e:=fun t ht => Z1I (hdst hj ht)
   have hei:∀ t ∈ oi.looksAt ops,putD n e oj.dst xj t = e t:=fun t ht => Z1I fun hh => p1 t hh ht
   obtain ⟨xi,δi,rfl,rfl,_,ki,li⟩:=Z53 hcp nai (mild_ask hmi h2) h2
   have s1:=li e σ1 st1 hei (fun _ _ _ => rfl)
   refine ⟨_,_,s1,?_⟩;have hej:∀ t ∈ oj.looksAt ops,e t = putD n e oi.dst xi t:=fun t ht => (Z1I fun hh => p3 t hh ht).symm
   have hsej:=Z6x (ops:=ops) hej
   have st3:Stable ops e (putD n e oi.dst xi):=fun t ht => (Z1I (hdst hi ht)).symm
   have hold:∀ k,k < base→(appl σ1 δi).ent k = σ1.ent k:=fun k hk => ZAS fun k' en hm hke => by
    obtain ⟨_,h⟩:=ki k' en hm
    obtain ⟨m1,_,m3⟩:=mild_noW (X:=X) (e:=putD n e oj.dst xj) hmi
    rcases h with h | ⟨h,_⟩ | h
    ·omega
    ·rw [m1] at h;cases h
    ·rw [m3] at h;cases h
   have s2:Z5 X call (putD n e oi.dst xi) (appl σ1 δi) (base + j) oj.op = some (xj,appl σ1 δi):=by
    rw [← Z4b hsej];exact q2 _ _ appl_nx hold
   have c2:Zz ops (putD n e oi.dst xi) oj = some true∧Zp X ops base j oj (putD n e oi.dst xi) = false:=by
    rw [← Z0z hej,← Z4y st3 hsej];exact cj
   unfold Z0c;rw [if_pos c2,if_pos ⟨hs.1,.inl ((Z89 hsej).symm.trans hsh)⟩];unfold Z0s;rw [c2.1];simp only [s2,Y0];rw [Z73 (fun t ht hh => p2 t hh ht)]
  replace hs:=And.intro hs.1 hs2
  have hqi:=ZBM hs.2.1 hi (Z2C hu)
  have st1:Stable ops (putD n e oj.dst xj) e:=fun t ht => Z1I (hdst hj ht)
  have hei:∀ t ∈ oi.looksAt ops,putD n e oj.dst xj t = e t:=fun t ht => Z1I fun hh => p1 t hh ht
  obtain ⟨rfl,xi,rfl,s1⟩:=ZC7 hqi nai h2 st1 hei (fun k hk => (hs.2.2 _ _ _ q1 k hk).symm)
  refine ⟨_,_,s1,?_⟩;rw [lj (putD n e oi.dst xi) (fun t ht => (Z1I (hdst hi ht)).symm) (fun t ht => (Z1I fun hh => p3 t hh ht).symm),Z73 (fun t ht hh => p2 t hh ht)]
 by_cases ci:Zz ops e1 oi = some true∧Zp X ops base i oi e1 = false
 ·obtain ⟨hs,xi,rfl,q1,li⟩:=ZCd ci h2
  rcases hs.2 with hsh | hs2
  ·have hmj:=ZCW (by unfold Z6A at hsh;exact (Y9 _ _ ▸ hsh).1) hj hu
   obtain ⟨rfl,q2⟩:=shut_op hcp hsh q1
   obtain ⟨xj,δj,rfl,rfl,_,kj,lj⟩:=Z53 hcp naj cj h1
   have hei:∀ t ∈ oi.looksAt ops,putD n e oj.dst xj t = e t:=fun t ht => Z1I fun hh => p1 t hh ht
   have hsei:=Z6x (ops:=ops) hei
   have st1:Stable ops (putD n e oj.dst xj) e:=fun t ht => Z1I (hdst hj ht)
   have st3:Stable ops e (putD n e oi.dst xi):=fun t ht => (Z1I (hdst hi ht)).symm
   have hej:∀ t ∈ oj.looksAt ops,e t = putD n e oi.dst xi t:=fun t ht => (Z1I fun hh => p3 t hh ht).symm
   have hold:∀ k,k < base→σ.ent k = (appl σ δj).ent k:=fun k hk => (ZAS fun k' en hm hke => by
    obtain ⟨_,h⟩:=kj k' en hm
    obtain ⟨m1,_,m3⟩:=mild_noW (X:=X) (e:=e) hmj
    rcases h with h | ⟨h,_⟩ | h
    ·omega
    ·rw [m1] at h;cases h
    ·rw [m3] at h;cases h).symm
   have s1:Z5 X call e σ (base + i) oi.op = some (xi,σ):=by
    rw [← Z4b hsei];exact q2 _ _ appl_nx.symm hold
   have c1:Zz ops e oi = some true∧Zp X ops base i oi e = false:=by
    rw [← Z0z hei,← Z4y st1 hsei];exact ci
   have s2:Z0c X call n ops base i oi e σ = some (putD n e oi.dst xi,σ):=by
    unfold Z0c;rw [if_pos c1,if_pos ⟨hs.1,.inl ((Z89 hsei).symm.trans hsh)⟩];unfold Z0s;rw [c1.1];simp only [s1,Y0]
   refine ⟨_,_,s2,?_⟩;rw [lj (putD n e oi.dst xi) σ st3 hej (fun _ _ _ => rfl),Z73 (fun t ht hh => p2 t hh ht)]
  replace hs:=And.intro hs.1 hs2
  have hqj:=ZBM hs.2.1 hj hu
  have hσ1:=ZCF hqj h1
  subst hσ1;obtain ⟨xj,δj,rfl,_,_⟩:=Z53 hcp naj cj h1
  have s1:=li e (fun t ht => Z1I (hdst hj ht)) (fun t ht => Z1I fun hh => p1 t hh ht)
  refine ⟨_,_,s1,?_⟩;obtain ⟨_,x',hx',s2⟩:=ZC7 (σ2:=σ2) (e2:=putD n e oi.dst xi) hqj naj h1 (fun t ht => (Z1I (hdst hi ht)).symm) (fun t ht => (Z1I fun hh => p3 t hh ht).symm) (fun k hk => hs.2.2 _ _ _ q1 k hk)
  rw [s2,Z73 (fun t ht hh => p2 t hh ht),← hx']
 obtain ⟨xj,δj,rfl,rfl,aj,kj,lj⟩:=Z53 hcp naj cj h1
 obtain ⟨xi,δi,rfl,rfl,ai,ki,li⟩:=Z53 hcp nai ci h2
 have st1:Stable ops (putD n e oj.dst xj) e:=fun t ht => Z1I (hdst hj ht)
 have st2:Stable ops e (putD n e oj.dst xj):=fun t ht => (st1 t ht).symm
 have st3:Stable ops e (putD n e oi.dst xi):=fun t ht => (Z1I (hdst hi ht)).symm
 have hei:∀ t ∈ oi.looksAt ops,putD n e oj.dst xj t = e t:=fun t ht => Z1I fun hh => p1 t hh ht
 have hej:∀ t ∈ oj.looksAt ops,e t = putD n e oi.dst xi t:=fun t ht => (Z1I fun hh => p3 t hh ht).symm
 have hij:∀ k en,(k,en) ∈ δj→Zz ops (putD n e oj.dst xj) oi = some true→lookIds X (putD n e oj.dst xj) oi.op k→False:=fun k en hk hw hm => by
  obtain ⟨w,hk⟩:=kj k en hk
  exact key_look hd st2 hi hj hu hb (ai hw) (aj w) hk hm
 have hji:∀ k en,(k,en) ∈ δi→Zz ops e oj = some true→lookIds X e oj.op k→False:=fun k en hk hw hm => by
  obtain ⟨w,hk⟩:=ki k en hk
  exact key_look hd st1 hj hi (Z2C hu) hb' (aj hw) (ai w) hk hm
 have s1:=li e σ st1 hei (fun hw k hk => (ZAS fun k' en hh hke => hij k' en hh hw (hke ▸ hk)).symm)
 have s2:=lj (putD n e oi.dst xi) (appl σ δi) st3 hej (fun hw k hk => ZAS fun k' en hh hke => hji k' en hh hw (hke ▸ hk))
 refine ⟨_,_,s1,?_⟩
 rw [s2,Z73 (fun t ht hh => p2 t hh ht),appl_comm]
 intro k en k' en' hk hk' hkk
 subst hkk
 obtain ⟨wi,hki⟩:=ki k en hk
 obtain ⟨wj,hkj⟩:=kj k en' hk'
 rcases hki with hki | ⟨w1,w2⟩ | hf
 ·rcases hkj with hkj | ⟨w3,w4⟩ | hf
  ·omega
  ·exact hji k en hk wj (.inl ⟨isW_isRW w3,w4⟩)
  ·exact hji k en hk wj (.inr hf)
 ·exact hij k en' hk' wi (.inl ⟨isW_isRW w1,w2⟩)
 ·exact hij k en' hk' wi (.inr hf)
noncomputable def runs (X:Ctx) (call:Z05) (n:Nat) (ops:Array Oper) (base:Nat):List (Nat × Oper)→Env→Heap→Option (Env × Heap)
 | [],e,σ => some (e,σ)
 | (i,o) :: l,e,σ => (Z0c X call n ops base i o e σ).bind fun r => runs X call n ops base l r.1 r.2
theorem Z9w {call:Z05} {base:Nat}:∀ (l:List Oper) (i:Nat) (e:Env) (σ:Heap),Z1U X call n ops base i l e σ = runs X call n ops base (l.zipIdx i |>.map fun p => (p.2,p.1)) e σ
 | [],_,_,_ => rfl
 | o :: l,i,e,σ => by
  simp only [Z1U,List.zipIdx_cons,Y0B,runs]
  congr 1
  funext r
  exact Z9w l (i + 1) r.1 r.2
def Closed (ops:Array Oper) (listed:Array Bool):Prop:=∀ k,listed.getD k false = true→∀ j,((Region.before ops).getD k 0).testBit j = true→listed.getD j false = true
theorem getD_tf {listed:Array Bool} {i:Nat} (h:listed.getD i true = false):listed.getD i false = false:=by
 rcases YI i listed.size with h' | h'
 ·simpa [Y7,h'] using h
 ·simp [Y7,Y0F h']
theorem bubble {call:Z05} (hcp:CallPure X call) (hd:Z4Y ops = true) {base i:Nat} {oi:Oper} {post:List (Nat × Oper)} {r:Env × Heap} (hi:ops[i]? = some oi) :
  ∀ (pre:List (Nat × Oper)) (e:Env) (σ:Heap),(∀ p ∈ pre,ops[p.1]? = some p.2∧p.1 < i∧(∀ e ∈ oi.after,Region.binds .any e = true→e.on ≠ p.1)∧((Region.before ops).getD i 0).testBit p.1 = false) →
   runs X call n ops base (pre ++ (i,oi) :: post) e σ = some r→runs X call n ops base ((i,oi) :: (pre ++ post)) e σ = some r
 | [],_,_,_,h => h
 | (j,oj) :: pre,e,σ,hp,h => by
  simp only [Y0k,runs,Y4] at h;obtain ⟨⟨e1,σ1⟩,h1,h2⟩:=h
  have:=bubble hcp hd hi pre e1 σ1 (fun p hm => hp p (by simp [hm])) h2
  simp only [runs,Y4] at this;obtain ⟨⟨e2,σ2⟩,h3,h4⟩:=this
  obtain ⟨q1,q2,q3,q4⟩:=hp (j,oj) (by simp)
  obtain ⟨e1',σ1',s1,s2⟩:=swap hcp hd hi q1 q2 q3 q4 h1 h3
  simp only [Y0k,runs,s1,s2,Y0];exact h4
theorem ZBP {call:Z05} {base i:Nat} {o:Oper} {e:Env} {σ:Heap} {r:Env × Heap} (h:Z0c X call n ops base i o e σ = some r):Z0s X call n ops base i o e σ = some r:=by
 unfold Z0c at h
 split at h
 ·split at h
  ·exact h
  ·cases h
 ·exact h
variable {Q:Exit→Act→World→Prop} {m:Nat}
theorem draw_any {call:Z05} (hcall:Z59 X call) (htame:Z1l call) (hcp:CallPure X call) (hd:Z4Y ops = true) {rd:Option Nat} {base:Nat} {e':Env} {σ':Heap} :
  ∀ (len:Nat) (rem:List (Nat × Oper)) (listed:Array Bool) (s:St) (e:Env) (a:Act),rem.length = len→Z0W X s→Inv s→EnvR s n e a →
   listed.size = ops.size→(∀ p ∈ rem,ops[p.1]? = some p.2∧listed.getD p.1 true = false)→(∀ i,i < ops.size→listed.getD i true = false→∃ p ∈ rem,p.1 = i) →
   rem.Pairwise (fun p q => p.1 < q.1)→Closed ops listed→(∀ p ∈ rem,s.σ.ent (base + p.1) = .none∧base + p.1 < s.σ.nx) →
   runs X call n ops base rem e s.σ = some (e',σ')→(∀ a' w' ι',Then s n a e' σ' a' w' ι'→Q .normal a' w') →
   wpAnyIn (Fw rd) m X.P .any ops Q len listed a s.w:=by
 obtain ⟨hlex,hww,ha⟩:=Z7z hd
 intro len
 induction len with
 | zero =>
  intro rem listed s e a hl hG hi he hsz hr1 hr2 _ _ _ h hQ;have:rem = []:=List.length_eq_zero_iff.1 hl
  subst this;refine ⟨?_,?_⟩
  ·refine List.eq_nil_iff_forall_not_mem.2 fun j hj => ?_
   obtain ⟨q1,o,q2,_⟩:=mem_ready.1 hj
   obtain ⟨p,hp,_⟩:=hr2 j (Array.getElem?_eq_some_iff.1 q2).1 q1
   cases hp
  ·simp [runs] at h;obtain ⟨rfl,rfl⟩:=h
   exact hQ a s.w s.ι ⟨hi,Ev.refl s,he,rfl⟩
 | succ len ih =>
  intro rem listed s e a hl hG hi he hsz hr1 hr2 hp hcl hf h hQ;refine ⟨fun h0 => ?_,fun i hir => ?_⟩
  ·exfalso
   cases rem with
   | nil => simp at hl
   | cons p rem =>
    obtain ⟨q1,q2⟩:=hr1 p (by simp)
    have:p.1 ∈ Region.ready .any ops listed:=by
     refine mem_ready.2 ⟨q2,p.2,q1,fun e he hb => ?_⟩
     have hlt:=ha _ _ q1 e he hb
     cases hc:listed.getD e.on false with
     | true => rfl
     | false =>
      exfalso
      have hes:e.on < ops.size:=Nat.lt_trans hlt (Array.getElem?_eq_some_iff.1 q1).1
      have:listed.getD e.on true = false:=by
       have h':e.on < listed.size:=by omega
       simpa [Y7,h'] using hc
      obtain ⟨p',hp',he'⟩:=hr2 _ hes this
      rcases List.mem_cons.1 hp' with rfl | hp'
      ·omega
      ·have:=List.rel_of_pairwise_cons hp hp'
       omega
    rw [h0] at this;cases this
  ·obtain ⟨q1,oi,q2,q3⟩:=mem_ready.1 hir
   obtain ⟨p,hpm,hpi⟩:=hr2 i (Array.getElem?_eq_some_iff.1 q2).1 q1
   obtain ⟨pre,post,rfl⟩:=List.append_of_mem hpm
   have hpo:p = (i,oi):=by
    obtain ⟨h1,_⟩:=hr1 p hpm
    rw [hpi,q2] at h1;exact Prod.ext hpi (Option.some.inj h1).symm
   subst hpo;have hlast:∀ p ∈ pre,p.1 < i:=fun p hp' => (List.pairwise_append.1 hp).2.2 p hp' (i,oi) (by simp)
   have hbits:∀ j,((Region.before ops).getD i 0).testBit j = true→listed.getD j false = true:=fun j hj => by
    obtain ⟨ed,he1,he2,he3⟩:=ZBW q2 hj
    have:=q3 ed he1 he2
    rcases he3 with rfl | he3
    ·exact this
    ·exact hcl _ this j he3
   have hb:=bubble hcp hd q2 pre e s.σ (fun p hp' => by
    obtain ⟨w1,w2⟩:=hr1 p (by simp [hp'])
    have w3:=getD_tf w2
    refine ⟨w1,hlast p hp',fun e he1 he2 he3 => ?_,?_⟩
    ·have:=q3 e he1 he2
     rw [he3,w3] at this;cases this
    ·cases hbb:((Region.before ops).getD i 0).testBit p.1 with
     | false => rfl
     | true => rw [hbits _ hbb] at w3;cases w3) h
   simp only [runs,Y4] at hb;obtain ⟨⟨e1,σ1⟩,h1,h2⟩:=hb
   have h1:=ZBP h1
   have hT:=Z7D htame h1
   obtain ⟨f1,f2⟩:=hf (i,oi) (by simp)
   have hne:∀ p ∈ pre ++ post,p.1 ≠ i:=fun p hp' => by
    rcases List.mem_append.1 hp' with h | h
    ·exact Nat.ne_of_lt (hlast p h)
    ·have:=List.rel_of_pairwise_cons ((List.pairwise_append.1 hp).2.1) h
     exact Nat.ne_of_gt this
   have hmem:∀ p ∈ pre ++ post,p ∈ pre ++ (i,oi) :: post:=fun p hp' => by
    rcases List.mem_append.1 hp' with h | h <;> simp [h]
   have:=stepO_ok (m:=m) (Q:=Q) (rd:=rd) hcall hG hi he f1 f2 h1 (K:=wpAnyIn (Fw rd) m X.P .any ops Q len (listed.setIfInBounds i true)) (fun a1 w1 ι1 ht => by
    refine ih (pre ++ post) _ ⟨w1,s.Y,σ1,ι1⟩ e1 a1 (by simp at hl ⊢;omega) (hG.mono ht.ev) ht.inv ht.env (by simpa using hsz) (fun p hp' => ?_) (fun k hk hkl => ?_) ?_ ?_ (fun p hp' => ?_) h2
     (fun a' w' ι' ht2 => hQ a' w' ι' ⟨ht2.inv,ht.ev.trans ht2.ev,ht2.env,ht2.defers.trans ht.defers⟩)
    ·obtain ⟨w1,w2⟩:=hr1 p (hmem p hp')
     exact ⟨w1,by rw [getD_set_ne true (Ne.symm (hne p hp'))];exact w2⟩
    ·have hki:k ≠ i:=by
      rintro rfl;have:k < listed.size:=by omega
      simp [Y7,this] at hkl
     rw [getD_set_ne true (Ne.symm hki)] at hkl;obtain ⟨p,hp1,hp2⟩:=hr2 k hk hkl
     refine ⟨p,?_,hp2⟩
     rcases List.mem_append.1 hp1 with h | h
     ·exact Yf _ h
     ·rcases List.mem_cons.1 h with rfl | h
      ·exact absurd hp2.symm hki
      ·exact Yn _ h
    ·rw [List.pairwise_append] at hp ⊢;exact ⟨hp.1,(List.pairwise_cons.1 hp.2.1).2,fun a ha b hb => hp.2.2 a ha b (by simp [hb])⟩
    ·intro k hk j hj
     by_cases hki:k = i
     ·subst hki;exact getD_set_true (hbits j hj)
     ·rw [getD_set_ne false (Ne.symm hki)] at hk;exact getD_set_true (hcl k hk j hj)
    ·obtain ⟨g1,g2⟩:=hf p (hmem p hp')
     exact ⟨hT.2 _ g2 (by have:=hne p hp';simp;omega) g1,YU g2 hT.1⟩)
   unfold wpOpIn;rw [q2];exact this
def St.drawn (s:St):St:=⟨{ s.w with drawn:=s.w.drawn + 1 },s.Y,s.σ,s.ι⟩
theorem drawn_ev (s:St):Ev s s.drawn where
 Y:=rfl
 size:=YB _
 keep:=fun _ _ _ => rfl
 live:=fun id h _ => ⟨id,h,rfl⟩
 blk:=fun id el cells lv h => ⟨cells,lv,h,YB _,fun _ => ⟨rfl,fun cs e fr h => ⟨cs,fr,h,rfl⟩⟩⟩
 loop:=fun id fn e n ps as_ bo st pend h => ⟨⟨st,pend,h⟩,rfl⟩
 map:=fun id kv h => ⟨⟨kv,h⟩,rfl⟩
 os:=rfl
 tape:=rfl
 output:=rfl
theorem drawn_inv {s:St} (hi:Inv s):Inv s.drawn :=
 ⟨fun id => ZCg (drawn_ev s) rfl rfl (hi.ent id),hi.inj,hi.notY,fun id el c h => ((drawn_ev s).imm _ (hi.fz id el c h)).1,hi.nx,hi.Ylt⟩
theorem draw_ok {s:St} {e:Env} {a:Act} {call:Z05} (hm:X.P.follows .mixedOrders = true) (hcall:Z59 X call) (htame:Z1l call) (hcp:CallPure X call) {rd:Option Nat} {id:Nat} {e':Env} {σ':Heap} (hd:Z4Y ops = true) (hG:Z0W X s) (hi:Inv s) (he:EnvR s n e a)
  (h:Z1U X call n ops s.σ.nx 0 ops.toList e ⟨s.σ.nx + ops.size,s.σ.ent⟩ = some (e',σ')) (hQ:∀ a' w' ι',Then s n a e' σ' a' w' ι'→Q .normal a' w') :
  (Code.region id ops true).wpIn (Fw rd) m X.P Q a s.w:=by
 refine wpIn_region_any hm ?_
 have ev:Ev s (s.more ops.size).drawn:=(Z3Q _).trans (drawn_ev _)
 rw [Z9w] at h
 have:=draw_any (m:=m) (Q:=Q) (rd:=rd) hcall htame hcp hd (base:=s.σ.nx) ops.size (ops.toList.zipIdx 0 |>.map fun p => (p.2,p.1)) (Array.replicate ops.size false) (s.more ops.size).drawn e a (by simp)
  (hG.mono ev) (drawn_inv (Z81 hi _)) (he.mono ev) (by simp)
  (fun p hp => by
   obtain ⟨q,hq,rfl⟩:=List.mem_map.1 hp
   have hq:=List.mem_zipIdx_iff_getElem?.1 hq
   have hlt:q.2 < ops.size:=by
    have:=(List.getElem?_eq_some_iff.1 hq).1
    simpa using this
   exact ⟨by simpa using hq,by simp [Y7,hlt]⟩)
  (fun i hi _ => ⟨(i,ops[i]),List.mem_map.2 ⟨(ops[i],i),List.mem_zipIdx_iff_getElem?.2 (by simp [hi]),rfl⟩,rfl⟩)
  (by
   rw [List.pairwise_map];have key:∀ (l:List Oper) (k:Nat),(l.zipIdx k).Pairwise (fun p q => p.2 < q.2):=by
    intro l
    induction l with
    | nil => intro k;simp
    | cons o l ih =>
     intro k;rw [List.zipIdx_cons,List.pairwise_cons];refine ⟨fun p hp => ?_,ih _⟩
     have:=List.le_snd_of_mem_zipIdx hp
     simp only;omega
   exact key _ _)
  (fun k hk => by
   exfalso
   simp only [Y7] at hk
   rcases YI k ops.size with h | h
   ·simp [h] at hk
   ·rw [Y0F (by simpa using h)] at hk;cases hk)
  (fun p hp => by
   obtain ⟨q,hq,rfl⟩:=List.mem_map.1 hp
   have hq:=List.mem_zipIdx_iff_getElem?.1 hq
   have hlt:q.2 < ops.size:=by
    have:=(List.getElem?_eq_some_iff.1 hq).1
    simpa using this
   exact ⟨hi.nx _ (by simp only;omega),by simp only [St.drawn,St.more];omega⟩)
  h (fun a' w' ι' ht => hQ a' w' ι' ⟨ht.inv,ev.trans ht.ev,ht.env,ht.defers⟩)
 exact this
end
end Go.Dn

namespace Go.Dn
open Go
structure LPut (s:St) (id:Nat) (fn:FuncId) (e:Env) (n:Nat) (ps:List Nat) (as_ bo:Code) (st:LoopState) (pend:Option Code) (g:Nat) (w':World):Prop where
 old:(s.σ.ent id = .none∧s.w.heap.size≤g)∨((∃ st0 pend0,s.σ.ent id = .loop fn e n ps as_ bo st0 pend0)∧g = s.ι id)
 size:s.w.heap.size≤w'.heap.size
 others:∀ b,b < s.w.heap.size→b ≠ g→w'.heap[b]? = s.w.heap[b]?
 here:∃ fn' tmps defers,w'.heap[g]? = some (.loop { state:=st,pending:=pend,fn:=fn',tmps:=tmps,params:=ps.toArray,assign:=as_,body:=bo,defers:=defers }) ∧
  tmps.size = n∧∀ t,PVR s (e t) (tmps.getD t Go.undef)
 nx:id < s.σ.nx
 os:w'.os = s.w.os
 tape:w'.tape = s.w.tape
 output:w'.output = s.w.output
def St.lput (s:St) (id:Nat) (en:Ent) (g:Nat) (w':World):St:=⟨w',s.Y,s.σ.put id en,upd s.ι id g⟩
section
variable {s:St} {id:Nat} {fn:FuncId} {e:Env} {n:Nat} {ps:List Nat} {as_ bo:Code} {st:LoopState} {pend:Option Code} {g:Nat} {w':World}
theorem LPut.old_rec (hi:Inv s) {st0:LoopState} {pend0:Option Code} (h:s.σ.ent id = .loop fn e n ps as_ bo st0 pend0):∃ fn' tmps defers,s.w.heap[s.ι id]? = some (.loop { state:=st0,pending:=pend0,fn:=fn',tmps:=tmps,params:=ps.toArray,assign:=as_,body:=bo,defers:=defers }) ∧
  tmps.size = n∧∀ t,PVR s (e t) (tmps.getD t Go.undef):=by
 have:=hi.ent id
 rw [h] at this
 exact this
theorem LPut.ne (hi:Inv s) (h:LPut s id fn e n ps as_ bo st pend g w') {id':Nat} (hne:id' ≠ id) (hl:Live s.σ id'):s.ι id' ≠ g:=by
 intro e
 rcases h.old with ⟨_,hp⟩ | ⟨⟨s0,p0,ho⟩,hp⟩
 ·have:=hl.lt hi;omega
 ·exact hne (hi.inj id' id hl (.inr (.inl ⟨_,_,_,_,_,_,_,_,ho⟩)) (e.trans hp))
theorem LPut.blk_ne (hi:Inv s) (h:LPut s id fn e n ps as_ bo st pend g w') {b:Nat} {cs:Array Value} {el:TypeId} {fr:Nat × Nat} (hb:s.w.heap[b]? = some (.cells cs el fr)):b ≠ g:=by
 intro hg
 subst hg
 rcases h.old with ⟨_,hp⟩ | ⟨⟨s0,p0,ho⟩,hp⟩
 ·have:=(Array.getElem?_eq_some_iff.1 hb).1;omega
 ·obtain ⟨f,t,d,q,_⟩:=LPut.old_rec hi ho
  rw [← hp,hb] at q;cases q
theorem LPut.ev (hi:Inv s) (h:LPut s id fn e n ps as_ bo st pend g w'):Ev s (s.lput id (.loop fn e n ps as_ bo st pend) g w') where
 Y:=rfl
 size:=h.size
 keep:=fun b hb hl => by
  refine h.others b hb fun e => ?_
  rcases h.old with ⟨_,hp⟩ | ⟨⟨s0,p0,ho⟩,hp⟩
  ·omega
  ·exact hl id (.inr (.inl ⟨_,_,_,_,_,_,_,_,ho⟩)) (by rw [e,hp])
 live:=fun id' hid hlt => by
  by_cases e:id' = id
  ·subst e;simp only [St.lput,ZH] at hlt ⊢
   rcases h.old with ⟨_,hp⟩ | ⟨⟨s0,p0,ho⟩,hp⟩
   ·omega
   ·exact ⟨id',.inr (.inl ⟨_,_,_,_,_,_,_,_,ho⟩),hp.symm⟩
  ·simp only [St.lput,ZQ _ _ e] at hlt ⊢;exact ⟨id',(Z0u e).1 hid,rfl⟩
 blk:=fun id' el' cells lv hb => by
  have e:id' ≠ id:=by
   rintro rfl
   rcases h.old with ⟨ho,_⟩ | ⟨⟨s0,p0,ho⟩,_⟩ <;> rw [ho] at hb <;> cases hb
  refine ⟨cells,lv,by simp [St.lput,Heap.put,ZQ _ _ e,hb],YB _,fun _ => ⟨by simp [St.lput,ZQ _ _ e],fun cs e' fr hcs => ?_⟩⟩
  refine ⟨cs,fr,?_,rfl⟩;rw [← hcs];exact h.others _ (Array.getElem?_eq_some_iff.1 hcs).1 (h.blk_ne hi hcs)
 loop:=fun id' fn' e1 n' ps' as' bo' st' pend' hl => by
  by_cases e':id' = id
  ·subst e'
   rcases h.old with ⟨ho,_⟩ | ⟨⟨s0,p0,ho⟩,hp⟩
   ·rw [ho] at hl;cases hl
   ·rw [ho] at hl;cases hl;exact ⟨⟨st,pend,by simp [St.lput,Heap.put,ZH]⟩,by simp [St.lput,ZH,hp]⟩
  ·exact ⟨⟨st',pend',by simp [St.lput,Heap.put,ZQ _ _ e',hl]⟩,by simp [St.lput,ZQ _ _ e']⟩
 map:=fun id' kv hl => by
  have e':id' ≠ id:=by
   rintro rfl
   rcases h.old with ⟨ho,_⟩ | ⟨⟨s0,p0,ho⟩,hp⟩ <;> rw [ho] at hl <;> cases hl
  exact ⟨⟨kv,by simp [St.lput,Heap.put,ZQ _ _ e',hl]⟩,by simp [St.lput,ZQ _ _ e']⟩
 os:=h.os
 tape:=h.tape
 output:=h.output
theorem LPut.inv (hi:Inv s) (h:LPut s id fn e n ps as_ bo st pend g w'):Inv (s.lput id (.loop fn e n ps as_ bo st pend) g w'):=by
 have hev:=h.ev hi
 have hsame:(s.lput id (.loop fn e n ps as_ bo st pend) g w').σ.ent id = .loop fn e n ps as_ bo st pend:=by simp [St.lput,Heap.put,ZH]
 refine ⟨fun id' => ?_,fun id1 id2 h1 h2 he => ?_,fun id' hl => ?_,fun id' el' c hb => ?_,fun id' hn => ?_,fun b hb => YU (hi.Ylt b hb) h.size⟩
 ·by_cases e1:id' = id
  ·subst e1;rw [hsame];obtain ⟨f,t,d,q1,q2,q3⟩:=h.here
   exact ⟨f,t,d,by simp only [St.lput,ZH];exact q1,q2,fun k => hev.pvr (q3 k)⟩
  ·have h1:(s.lput id (.loop fn e n ps as_ bo st pend) g w').σ.ent id' = s.σ.ent id':=by simp [St.lput,Heap.put,ZQ _ _ e1]
   have h2:(s.lput id (.loop fn e n ps as_ bo st pend) g w').ι id' = s.ι id':=by simp [St.lput,ZQ _ _ e1]
   rw [h1];have he:=hi.ent id'
   cases hent:s.σ.ent id' with
   | none => trivial
   | blk el' c lv =>
    rw [hent] at he;obtain ⟨cs,fr,q1,q2,q3,q4⟩:=he
    refine ⟨cs,fr,?_,q2,q3,fun j x hj => ?_⟩
    ·rw [h2,← q1];exact h.others _ (Array.getElem?_eq_some_iff.1 q1).1 (h.blk_ne hi q1)
    ·obtain ⟨u,hu,hp,ho⟩:=q4 j x hj
     exact ⟨u,hu,hev.pvr hp,ho⟩
   | loop fn' e' n' ps' as' bo' st' pend' =>
    rw [hent] at he;obtain ⟨fn2,tmps,defers,q1,q2,q3⟩:=he
    refine ⟨fn2,tmps,defers,?_,q2,fun t => hev.pvr (q3 t)⟩
    rw [h2,← q1];exact h.others _ (Array.getElem?_eq_some_iff.1 q1).1 (h.ne hi e1 (.inr (.inl ⟨_,_,_,_,_,_,_,_,hent⟩)))
   | map kv =>
    rw [hent] at he
    show w'.heap[_]? = _
    rw [h2,← he];exact h.others _ (Array.getElem?_eq_some_iff.1 he).1 (h.ne hi e1 (.inr (.inr ⟨_,hent⟩)))
 ·by_cases e1:id1 = id <;> by_cases e2:id2 = id
  ·rw [e1,e2]
  ·subst e1;simp only [St.lput,ZH,ZQ _ _ e2] at he;exact absurd he.symm (h.ne hi e2 ((Z0u e2).1 h2))
  ·subst e2;simp only [St.lput,ZH,ZQ _ _ e1] at he;exact absurd he (h.ne hi e1 ((Z0u e1).1 h1))
  ·simp only [St.lput,ZQ _ _ e1,ZQ _ _ e2] at he;exact hi.inj id1 id2 ((Z0u e1).1 h1) ((Z0u e2).1 h2) he
 ·by_cases e1:id' = id
  ·subst e1;simp only [St.lput,ZH];intro hy
   rcases h.old with ⟨_,hp⟩ | ⟨⟨s0,p0,ho⟩,hp⟩
   ·have:=hi.Ylt _ hy;omega
   ·rw [hp] at hy;exact hi.notY id' (.inr (.inl ⟨_,_,_,_,_,_,_,_,ho⟩)) hy
  ·simp only [St.lput,ZQ _ _ e1];exact hi.notY id' ((Z0u e1).1 hl)
 ·by_cases e1:id' = id
  ·subst e1;rw [hsame] at hb;cases hb
  ·have hb':s.σ.ent id' = .blk el' c false:=by simpa [St.lput,Heap.put,ZQ _ _ e1] using hb
   have:(s.lput id (.loop fn e n ps as_ bo st pend) g w').ι id' = s.ι id':=by simp [St.lput,ZQ _ _ e1]
   rw [this];exact (hev.imm _ (hi.fz id' el' c hb')).1
 ·have hne:id' ≠ id:=by
   intro e;subst e;have:=h.nx
   simp only [St.lput,Heap.put] at hn;omega
  simp only [St.lput,Heap.put,ZQ _ _ hne];exact hi.nx id' hn
end
def St.push (s:St) (o:Obj):St:=⟨s.w.alloc o,s.Y,s.σ,s.ι⟩
theorem Z4e {w:World} {o:Obj} {b:Nat} (h:b < w.heap.size):(w.alloc o).heap[b]? = w.heap[b]?:=by
 show (w.heap.push o)[b]? = _
 rw [Array.getElem?_push]
 rw [if_neg (by omega)]
theorem Z6l (w:World) (o:Obj):(w.alloc o).heap.size = w.heap.size + 1:=by
 show (w.heap.push o).size = _
 simp
theorem push_ev (s:St) (o:Obj):Ev s (s.push o) where
 Y:=rfl
 size:=by rw [St.push,Z6l];exact Nat.le_succ _
 keep:=fun b hb _ => Z4e hb
 live:=fun id h _ => ⟨id,h,rfl⟩
 blk:=fun id el cells lv h => ⟨cells,lv,h,YB _,fun _ => ⟨rfl,fun cs e fr h => ⟨cs,fr,by rw [← h];exact Z4e (Array.getElem?_eq_some_iff.1 h).1,rfl⟩⟩⟩
 loop:=fun id fn e n ps as_ bo st pend h => ⟨⟨st,pend,h⟩,rfl⟩
 map:=fun id kv h => ⟨⟨kv,h⟩,rfl⟩
 os:=rfl
 tape:=rfl
 output:=rfl
theorem push_inv {s:St} (hi:Inv s) (o:Obj):Inv (s.push o):=by
 have hev:=push_ev s o
 refine ⟨fun id => ?_,hi.inj,hi.notY,fun id el c h => (hev.imm _ (hi.fz id el c h)).1,hi.nx,fun b hb => YU (hi.Ylt b hb) hev.size⟩
 have he:=hi.ent id
 change EntOK _ id (s.σ.ent id)
 cases hent:s.σ.ent id with
 | none => trivial
 | blk el' c lv =>
  rw [hent] at he;obtain ⟨cs,fr,q1,q2,q3,q4⟩:=he
  exact ⟨cs,fr,(Z4e (Array.getElem?_eq_some_iff.1 q1).1).trans q1,q2,q3,fun j x hj => by
   obtain ⟨u,hu,hp,ho⟩:=q4 j x hj
   exact ⟨u,hu,hev.pvr hp,ho⟩⟩
 | loop fn' e' n' ps' as' bo' st' pend' =>
  rw [hent] at he;obtain ⟨fn2,tmps,defers,q1,q2,q3⟩:=he
  exact ⟨fn2,tmps,defers,(Z4e (Array.getElem?_eq_some_iff.1 q1).1).trans q1,q2,fun t => hev.pvr (q3 t)⟩
 | map kv => rw [hent] at he;exact (Z4e (Array.getElem?_eq_some_iff.1 he).1).trans he
def mark (r:Nat):Deferred:={ target:=.collected r,args:=#[] }
def Marks (s:St) (n0:Nat) (ms:List Nat):Prop:=ms.Nodup∧∀ r ∈ ms,n0≤r∧s.imm r∧s.w.heap[r]? = some (.deferred (some []))
theorem Marks.nil (s:St) (n0:Nat):Marks s n0 []:=⟨List.nodup_nil,fun r h => by cases h⟩
theorem Marks.mono {s s':St} {n0:Nat} {ms:List Nat} (h:Marks s n0 ms) (hev:Ev s s'):Marks s' n0 ms :=
 ⟨h.1,fun r hr => by
  obtain ⟨h1,h2,h3⟩:=h.2 r hr
  obtain ⟨h4,h5⟩:=hev.imm r h2
  exact ⟨h1,h4,h5.trans h3⟩⟩
theorem Marks.append {s s':St} {n0:Nat} {ms ms':List Nat} (h:Marks s n0 ms) (hev:Ev s s') (h':Marks s' s.w.heap.size ms') (hle:n0≤s.w.heap.size):Marks s' n0 (ms' ++ ms):=by
 have h1:=h.mono hev
 refine ⟨List.nodup_append.2 ⟨h'.1,h.1,fun r hr r' hr' e => ?_⟩,fun r hr => ?_⟩
 ·subst e;have:=(h'.2 r hr).1
  have:=(h.2 r hr').2.1.1
  omega
 ·rcases List.mem_append.1 hr with hr | hr
  ·obtain ⟨q1,q2⟩:=h'.2 r hr
   exact ⟨Yd hle q1,q2⟩
  ·exact h1.2 r hr
structure Aft (s:St) (n:Nat) (a:Act) (e':Env) (σ':Heap) (a':Act) (w':World) (ι':Nat→Nat):Prop where
 inv:Inv ⟨w',s.Y,σ',ι'⟩
 ev:Ev s ⟨w',s.Y,σ',ι'⟩
 env:EnvR ⟨w',s.Y,σ',ι'⟩ n e' a'
 marks:∃ ms,a'.defers = ms.map mark ++ a.defers∧Marks ⟨w',s.Y,σ',ι'⟩ s.w.heap.size ms
theorem Then.aft {s:St} {n:Nat} {a:Act} {e':Env} {σ':Heap} {a':Act} {w':World} {ι':Nat→Nat} (h:Then s n a e' σ' a' w' ι'):Aft s n a e' σ' a' w' ι' :=
 ⟨h.inv,h.ev,h.env,[],by simp [h.defers],Marks.nil _ _⟩
theorem Aft.refl {s:St} {n:Nat} {e:Env} {a:Act} (hi:Inv s) (he:EnvR s n e a):Aft s n a e s.σ a s.w s.ι :=
 ⟨hi,Ev.refl s,he,[],rfl,Marks.nil _ _⟩
theorem Aft.trans {s:St} {n:Nat} {a:Act} {e1 e2:Env} {σ1 σ2:Heap} {a1 a2:Act} {w1 w2:World} {ι1 ι2:Nat→Nat}
  (h:Aft s n a e1 σ1 a1 w1 ι1) (h':Aft ⟨w1,s.Y,σ1,ι1⟩ n a1 e2 σ2 a2 w2 ι2):Aft s n a e2 σ2 a2 w2 ι2:=by
 obtain ⟨ms,q1,q2⟩:=h.marks
 obtain ⟨ms',q1',q2'⟩:=h'.marks
 exact ⟨h'.inv,h.ev.trans h'.ev,h'.env,ms' ++ ms,by rw [q1',q1,Y00,Y01],q2.append h'.ev q2' h.ev.size⟩
def Ex.out:Ex→Exit
 | .normal => .normal
 | .exit id => .exit id
 | .ret => .ret
def RdOK (rd:Option Nat) (s:St):Prop:=∀ l,rd = some l→∃ id,s.σ.isLoop id∧s.ι id = l
theorem RdOK.mono {rd:Option Nat} {s s':St} (h:RdOK rd s) (hev:Ev s s'):RdOK rd s':=fun l hl => by
 obtain ⟨id,⟨fn,e,n,ps,as_,bo,st,pend,h1⟩,h2⟩:=h l hl
 obtain ⟨⟨st',pend',h3⟩,h4⟩:=hev.loop _ _ _ _ _ _ _ _ _ h1
 exact ⟨id,⟨_,_,_,_,_,_,_,_,h3⟩,h4.trans h2⟩
variable {X:Ctx} {n:Nat}
theorem enter_ok {s:St} {e:Env} {a:Act} {rd:Option Nat} (hi:Inv s) (he:EnvR s n e a) (hrd:RdOK rd s) (fn fn0:FuncId) (ps:Array Nat) (as_ bo:Code) :
  ∃ l ms w1 ι1,(Instr.enterLoop fn0 a.tmps ps as_ bo rd).run X.P s.w = .ok (l,ms.map mark) w1 ∧
   Inv ⟨w1,s.Y,⟨s.σ.nx + 1,upd s.σ.ent s.σ.nx (.loop fn e n ps.toList as_ bo .ready none)⟩,ι1⟩ ∧
   Ev s ⟨w1,s.Y,⟨s.σ.nx + 1,upd s.σ.ent s.σ.nx (.loop fn e n ps.toList as_ bo .ready none)⟩,ι1⟩∧ι1 s.σ.nx = l ∧
   Marks ⟨w1,s.Y,⟨s.σ.nx + 1,upd s.σ.ent s.σ.nx (.loop fn e n ps.toList as_ bo .ready none)⟩,ι1⟩ s.w.heap.size ms:=by
 cases rd with
 | none =>
  have ev0:Ev s ((s.push (.deferred (some []))).more 1):=(push_ev _ _).trans (Z3Q _)
  have i0:=Z81 (push_inv hi (.deferred (some []))) 1
  have hp:LPut ((s.push (.deferred (some []))).more 1) s.σ.nx fn e n ps.toList as_ bo .ready none (s.w.heap.size + 1)
    ((s.w.alloc (.deferred (some []))).alloc (.loop { state:=.ready,pending:=none,fn:=fn0,tmps:=a.tmps,params:=ps,assign:=as_,body:=bo,defers:=s.w.heap.size })):=by
   refine ⟨.inl ⟨hi.nx _ (YB _),by simp only [St.push,St.more,Z6l];exact YB _⟩,by simp only [St.push,St.more,Z6l];omega,fun b hb _ => Z4e hb,⟨fn0,a.tmps,s.w.heap.size,?_,he.1,fun t => ev0.pvr (he.2 t)⟩,Nat.lt_succ_self _,rfl,rfl,rfl⟩
   have:=World.alloc_heap_new (s.w.alloc (.deferred (some []))) (.loop { state:=.ready,pending:=none,fn:=fn0,tmps:=a.tmps,params:=ps,assign:=as_,body:=bo,defers:=s.w.heap.size })
   rw [Z6l] at this;exact this
  have hev:=hp.ev i0
  refine ⟨s.w.heap.size + 1,[s.w.heap.size],_,_,run_enterLoop_outer _ _ _ _ _,hp.inv i0,ev0.trans hev,ZH _ _ _,?_⟩;have m0:Marks ((s.push (.deferred (some []))).more 1) s.w.heap.size [s.w.heap.size]:=by
   refine ⟨by simp,fun r hr => ?_⟩
   simp only [YF] at hr;subst hr;refine ⟨YB _,⟨by simp only [St.push,St.more,Z6l];omega,fun hy => ?_,fun id hl hh => ?_⟩,World.alloc_heap_new _ _⟩
   ·exact Nat.lt_irrefl _ (hi.Ylt _ hy)
   ·have:=hl.lt hi
    simp only [St.more,St.push] at hh;omega
  exact m0.mono hev
 | some l0 =>
  obtain ⟨id0,⟨f1,e1,n1,ps1,as1,bo1,st1,pend1,h1⟩,h2⟩:=hrd l0 rfl
  have h3:=hi.ent id0
  rw [h1] at h3;obtain ⟨f2,tm,df,h4,_⟩:=h3
  rw [h2] at h4;have i0:=Z81 hi 1
  have hp:LPut (s.more 1) s.σ.nx fn e n ps.toList as_ bo .ready none s.w.heap.size
    (s.w.alloc (.loop { state:=.ready,pending:=none,fn:=fn0,tmps:=a.tmps,params:=ps,assign:=as_,body:=bo,defers:=df })):=by
   refine ⟨.inl ⟨hi.nx _ (YB _),YB _⟩,by simp only [St.more,Z6l];omega,fun b hb _ => Z4e hb,⟨fn0,a.tmps,df,World.alloc_heap_new _ _,he.1,fun t => (Z3Q 1).pvr (he.2 t)⟩,Nat.lt_succ_self _,rfl,rfl,rfl⟩
  have hev:=hp.ev i0
  refine ⟨s.w.heap.size,[],_,_,?_,hp.inv i0,(Z3Q 1).trans hev,ZH _ _ _,Marks.nil _ _⟩;unfold Instr.enterLoop;simp only [Sem.run_bind,run_getLoop h4,run_newObj_alloc,Result.andThen,Sem.run_pure,List.map_nil]
theorem range_resolve {a:Act} {g:Operand} {l:Nat} {f:FuncId} {fv cv:Array Value} (h:a.eval g = .func (.func f) fv cv) :
  resolve a.eval (rangeCall g l) 0 = pure { target:=.fn (.func f) cv,args:=fv ++ #[.func (.yield l) #[] #[]] }:=by
 simp only [resolve,rangeCall,h,Deferred.ofValue]
 simp [Act.eval]
variable {Q:Exit→Act→World→Prop} {m:Nat}
theorem range_ok {call:Z05} (hcall:Z59 X call) {s:St} {e:Env} {a:Act} {rd:Option Nat} {fn:FuncId} {lf:Nat} {g:Operand} {ps:Array Nat} {as_ bo:Code} {x:Ex} {e':Env} {σ':Heap}
  (hG:Z0W X s) (hi:Inv s) (he:EnvR s n e a) (hrd:RdOK rd s) (h:ZD X call lf n fn (.rangeFunc g ps as_ bo) e s.σ = some (x,e',σ'))
  (hQ:∀ a' w' ι',Aft s n a e' σ' a' w' ι'→Q x.out a' w'):(Code.rangeFunc g ps as_ bo).wpIn (Fw rd) m X.P Q a s.w:=by
 refine wpIn_rangeFunc fun fn0 _ => ?_
 obtain ⟨l,ms,w1,ι1,hent,i1,ev1,hl,hms⟩:=enter_ok (X:=X) hi he hrd fn fn0 ps as_ bo
 simp only [ZD] at h
 split at h
 ·rename_i gv hg;have hgv:=ZB hG he hg
  have key:∀ f (first caps:List PV) fv cv,a.eval g = .func (.func f) fv cv→PVRs s first fv→PVRs s caps cv →
    (∃ r σ2,call (.fn f) (first ++ [PV.yld s.σ.nx] ++ caps) ⟨s.σ.nx + 1,upd s.σ.ent s.σ.nx (.loop fn e n ps.toList as_ bo .ready none)⟩ = some (r,σ2) ∧
     ∃ fn' e2 n' ps' as' bo' st pend,σ2.ent s.σ.nx = .loop fn' e2 n' ps' as' bo' st pend∧st ≠ .busy∧Z6v pend = some x∧e' = e∧σ' = σ2.put s.σ.nx (.loop fn' e2 n' ps' as' bo' .exhausted pend)) →
    ∃ (l:Nat) (mark:List Deferred) (w₁:World) (d:Deferred) (w₁':World) (f:FuncId) (args:Array Value) (w₂:World),
     (Instr.enterLoop fn0 a.tmps ps as_ bo (Fw rd).round).run X.P s.w = .ok (l,mark) w₁ ∧
     (resolve a.eval (rangeCall g l) 0).run X.P w₁ = .ok d w₁' ∧
     (∀ f',Target.leads X.P w₁' d.target d.args = some f'→(Fw rd).fn f') ∧
     (invoke d.target d.args).run X.P w₁' = .ok (.enter f args) w₂ ∧
     ((Fw rd).depth.isSome = true→1≤m) ∧
     CallsIn (Fw rd) (m - 1) X.P f args w₂ (rangePost (Fw rd) m X.P l Q { a with defers:=mark ++ a.defers }):=by
   rintro f first caps fv cv hev hf hc ⟨r,σ2,hr,fn',e2,n',ps',as',bo',st,pend,hen,hst,hj,rfl,rfl⟩;have hy:PVR ⟨w1,s.Y,⟨s.σ.nx + 1,upd s.σ.ent s.σ.nx (.loop fn e' n ps.toList as_ bo .ready none)⟩,ι1⟩ (.yld s.σ.nx) (.func (.yield l) #[] #[]):=by
    rw [← hl];exact .yld (s:=⟨w1,s.Y,⟨s.σ.nx + 1,upd s.σ.ent s.σ.nx (.loop fn e' n ps.toList as_ bo .ready none)⟩,ι1⟩) ⟨_,_,_,_,_,_,_,_,ZH _ _ _⟩
   have hys:PVRs ⟨w1,s.Y,⟨s.σ.nx + 1,upd s.σ.ent s.σ.nx (.loop fn e' n ps.toList as_ bo .ready none)⟩,ι1⟩ [.yld s.σ.nx] #[.func (.yield l) #[] #[]] :=
    ⟨rfl,fun i y hi => by
     cases i with
     | zero => simp at hi;subst hi;exact hy
     | succ i => simp at hi⟩
   obtain ⟨h1,h2⟩:=hcall (.fn f) _ r σ2 ⟨w1,s.Y,_,ι1⟩ hr i1 (hG.mono ev1) (fv ++ #[.func (.yield l) #[] #[]] ++ cv) (Z69 (Z69 (hf.mono ev1) hys) (hc.mono ev1))
   refine ⟨l,ms.map mark,w1,_,w1,f,fv ++ #[.func (.yield l) #[] #[]] ++ cv,w1,hent,by rw [range_resolve hev,Sem.run_pure],fun _ _ => trivial,?_,ZAd rd m,?_⟩
   ·simp only [invoke];exact h1
   ·refine (Calls.wide rd h2 (m - 1)).mono fun en w3 hh => ?_
    obtain ⟨v,rfl,ι2,i3,ev3,_⟩:=hh
    have e3:=i3.ent s.σ.nx
    rw [hen] at e3;obtain ⟨fn2,tm,df,q1,q2,q3⟩:=e3
    obtain ⟨⟨_,_,hlo⟩,hι⟩:=ev3.loop s.σ.nx _ _ _ _ _ _ _ _ (ZH _ _ _)
    simp only at hlo hι;rw [hen] at hlo
    injection hlo with a1 a2 a3 a4 a5 a6 a7 a8
    have hl2:ι2 s.σ.nx = l:=hι.trans hl
    simp only [hl2] at q1;have hp:LPut ⟨w3,s.Y,σ2,ι2⟩ s.σ.nx fn' e2 n' ps' as' bo' .exhausted pend l (w3.putObj l (.loop { state:=.exhausted,pending:=pend,fn:=fn2,tmps:=tm,params:=ps'.toArray,assign:=as',body:=bo',defers:=df })):=by
     refine ⟨.inr ⟨⟨st,pend,hen⟩,hl2.symm⟩,by simp,fun b _ hb => World.putObj_heap_other hb,⟨fn2,tm,df,World.putObj_heap_same (Array.getElem?_eq_some_iff.1 q1).1,q2,q3⟩,?_,rfl,rfl,rfl⟩
     rcases YI s.σ.nx σ2.nx with h | h
     ·exact h
     ·have:=i3.nx _ h
      simp only at this;rw [hen] at this;cases this
    have i4:=hp.inv i3
    have ev4:=(ev1.trans ev3).trans (hp.ev i3)
    have hQ':=hQ { a with defers:=ms.map mark ++ a.defers } _ _ ⟨i4,ev4,(he.mono ev4),ms,rfl,(hms.mono ev3).mono (hp.ev i3)⟩
    refine ⟨pend,_,run_endLoop q1 hst,?_⟩;cases pend with
    | none =>
     simp only [Z6v,Y5] at hj;subst hj;exact hQ'
    | some c =>
     cases c <;> simp only [Z6v,Y5] at hj <;> (try (cases hj;done))
     ·subst hj;exact wpIn_exit hQ'
     ·subst hj;exact wpIn_ret hQ'
  have fin:∀ (r:Option (PV × Heap)),(match r with
    | some (_,σ2) =>
     match σ2.ent s.σ.nx with
     | .loop fn' e' n' ps' as' bo' st pend =>
      if st = LoopState.busy then none else
      match Z6v pend with
      | some x => some (x,e,σ2.put s.σ.nx (.loop fn' e' n' ps' as' bo' .exhausted pend))
      | none => none
     | _ => none
    | none => none) = some (x,e',σ')→∃ q σ2,r = some (q,σ2)∧∃ fn' e2 n' ps' as' bo' st pend,σ2.ent s.σ.nx = .loop fn' e2 n' ps' as' bo' st pend∧st ≠ .busy∧Z6v pend = some x∧e' = e∧σ' = σ2.put s.σ.nx (.loop fn' e2 n' ps' as' bo' .exhausted pend):=by
   intro r hr
   split at hr
   ·rename_i q σ2
    split at hr
    ·rename_i fn' e2 n' ps' as' bo' st pend hen
     split at hr
     ·cases hr
     ·rename_i hst
      split at hr
      ·rename_i x' hj;simp only [Y5,Y3] at hr;obtain ⟨rfl,rfl,rfl⟩:=hr
       exact ⟨q,σ2,rfl,fn',e2,n',ps',as',bo',st,pend,hen,hst,hj,rfl,rfl⟩
      ·cases hr
    ·cases hr
   ·cases hr
  cases gv with
  | v y =>
   cases y with
   | fn f =>
    have hfv:=fn_inv hgv
    obtain ⟨q,σ2,h1,h2⟩:=fin _ h
    exact key f [] [] #[] #[] hfv ⟨rfl,fun i y hi => by simp at hi⟩ ⟨rfl,fun i y hi => by simp at hi⟩ ⟨q,σ2,h1,h2⟩
   | _ => simp at h
  | clo f first caps =>
   obtain ⟨fv,cv,hfv,hf1,hf2⟩:=clo_inv hgv
   obtain ⟨q,σ2,h1,h2⟩:=fin _ h
   exact key f first caps fv cv hfv hf1 hf2 ⟨q,σ2,h1,h2⟩
  | _ => simp at h
 ·cases h
theorem Z3u {P:Program} {b:Frame} {a:Act} {k:List Item} {cs:List Frame} {w:World} {c:Code}:step P (lone (b.atR a (.code (.scope c) :: k)) cs w) = .next (lone (b.atR a (.code c :: .inScope c :: k)) cs w) :=
 step_lone_go (by simp [stepG,stepG.exec,Frame.atR])
theorem stepR_inScope {P:Program} {b:Frame} {a:Act} {k:List Item} {cs:List Frame} {w:World} {c:Code}:step P (lone (b.atR a (.inScope c :: k)) cs w) = .next (lone (b.atR a k) cs w) :=
 step_lone_go (by simp [stepG,stepG.exec,Frame.atR])
theorem wpIn_scope {F:Fence} {n:Nat} {P:Program} {Q:Exit→Act→World→Prop} {a:Act} {w:World} {c:Code} (h:c.wpIn F n P (fun e a w => (∀ l,e ≠ .goto l)∧Q e a w) a w):(Code.scope c).wpIn F n P Q a w:=by
 intro b k cs hro hb hr
 have h0:(lone (b.atR a (.code (.scope c) :: k)) cs w).fenced P F:=fenced_calm hb hr rfl
 obtain ⟨e,a₁,w₁,hq,harr⟩:=h b (.inScope c :: k) cs hro hb hr
 cases e with
 | normal => exact ⟨.normal,a₁,w₁,hq.2,.head h0 Z3u (StepsIn.trans harr (.one (fenced_calm hb hr rfl) stepR_inScope))⟩
 | exit id =>
  have hx:exitTo id (.inScope c :: k) = exitTo id k:=by simp [exitTo]
  exact ⟨.exit id,a₁,w₁,hq.2,fun k' hk => .head h0 Z3u (harr.1 k' (by rw [hx];exact hk)),
   fun hr' hk => let ⟨k₁,h1,h2⟩:=harr.2 hr' (by rw [hx];exact hk);⟨k₁,h1,.head h0 Z3u h2⟩⟩
 | goto l => exact absurd rfl (hq.1 l)
 | ret => exact ⟨_,a₁,w₁,hq.2,.of_steps (.one h0 Z3u) harr⟩
 | panic ch => exact ⟨_,a₁,w₁,hq.2,.of_steps (.one h0 Z3u) harr⟩
 | outgrown => exact ⟨_,a₁,w₁,hq.2,.of_steps (.one h0 Z3u) harr⟩
theorem code_ok {call:Z05} (hm:X.P.follows .mixedOrders = true) (hcall:Z59 X call) (htame:Z1l call) (hcp:CallPure X call) {lf:Nat} {fn:FuncId} {rd:Option Nat}:∀ (c:Code) {Q:Exit→Act→World→Prop} {s:St} {e:Env} {a:Act} {x:Ex} {e':Env} {σ':Heap},
  Z0W X s→Inv s→EnvR s n e a→RdOK rd s→ZD X call lf n fn c e s.σ = some (x,e',σ')→(∀ a' w' ι',Aft s n a e' σ' a' w' ι'→Q x.out a' w')→c.wpIn (Fw rd) m X.P Q a s.w:=by
 intro c
 induction c with
 | label l =>
  intro Q s e a x e' σ' hG hi he hrd h hQ;simp only [ZD,Y5,Y3] at h;obtain ⟨rfl,rfl,rfl⟩:=h
  exact wpIn_label (hQ a s.w s.ι (Aft.refl hi he))
 | scope c ih =>
  intro Q s e a x e' σ' hG hi he hrd h hQ;simp only [ZD] at h;refine wpIn_scope ?_;exact ih hG hi he hrd h fun a' w' ι' ht => ⟨fun l => by cases x <;> simp [Ex.out],hQ a' w' ι' ht⟩
 | skip =>
  intro Q s e a x e' σ' hG hi he hrd h hQ;simp only [ZD,Y5,Y3] at h;obtain ⟨rfl,rfl,rfl⟩:=h
  exact wpIn_skip (hQ a s.w s.ι (Aft.refl hi he))
 | region id ops draw =>
  intro Q s e a x e' σ' hG hi he hrd h hQ;simp only [ZD] at h
  split at h
  ·rename_i hd;subst hd
   split at h
   ·rename_i hok;simp only [Y1,Y3] at h;obtain ⟨⟨e1,σ1⟩,h1,rfl,rfl,rfl⟩:=h
    exact draw_ok hm hcall htame hcp hok hG hi he h1 fun a' w' ι' ht => hQ a' w' ι' ht.aft
   ·cases h
  ·rename_i hd;simp only [Y09] at hd;subst hd;simp only [Y1,Y3] at h;obtain ⟨⟨e1,σ1⟩,h1,rfl,rfl,rfl⟩:=h
   exact region_ok hcall htame hG hi he h1 fun a' w' ι' ht => hQ a' w' ι' ht.aft
 | seq c1 c2 ih1 ih2 =>
  intro Q s e a x e' σ' hG hi he hrd h hQ;simp only [ZD] at h;refine wpIn_seq ?_
  split at h
  ·rename_i e1 σ1 h1;refine ih1 hG hi he hrd h1 fun a1 w1 ι1 ht => ?_
   exact ih2 (s:=⟨w1,s.Y,σ1,ι1⟩) (hG.mono ht.ev) ht.inv ht.env (hrd.mono ht.ev) h fun a' w' ι' ht' => hQ a' w' ι' (ht.trans ht')
  ·rename_i hn;refine ih1 hG hi he hrd h fun a1 w1 ι1 ht => ?_
   cases x with
   | normal => exact absurd h (hn _ _)
   | exit id => exact hQ _ _ _ ht
   | ret => exact hQ _ _ _ ht
 | cond c c1 c2 ih1 ih2 =>
  intro Q s e a x e' σ' hG hi he hrd h hQ;simp only [ZD] at h
  split at h
  ·rename_i hc;exact wpIn_cond_true (Z3F (ZB hG he hc)) (ih1 hG hi he hrd h hQ)
  ·rename_i hc;exact wpIn_cond_false (Z3F (ZB hG he hc)) (ih2 hG hi he hrd h hQ)
  ·cases h
 | block id c ih =>
  intro Q s e a x e' σ' hG hi he hrd h hQ;simp only [ZD] at h;refine wpIn_block ?_
  split at h
  ·rename_i id' e1 σ1 h1;refine ih hG hi he hrd h1 fun a1 w1 ι1 ht => ?_
   simp only [Ex.out,Exit.inBlock]
   split at h
   ·rename_i hid;rw [if_pos hid];simp only [Y5,Y3] at h;obtain ⟨rfl,rfl,rfl⟩:=h
    exact hQ _ _ _ ht
   ·rename_i hid;rw [if_neg hid];simp only [Y5,Y3] at h;obtain ⟨rfl,rfl,rfl⟩:=h
    exact hQ _ _ _ ht
  ·rename_i hn;refine ih hG hi he hrd h fun a1 w1 ι1 ht => ?_
   cases x with
   | normal => exact hQ _ _ _ ht
   | exit id => exact absurd h (hn _ _ _)
   | ret => exact hQ _ _ _ ht
 | loop c ih =>
  intro Q s e a x e' σ' hG hi he hrd h hQ;simp only [ZD] at h;refine wpIn_loop_rounds lf ?_;have key:∀ (k:Nat) {s:St} {e:Env} {a:Act},Z0W X s→Inv s→EnvR s n e a→RdOK rd s→Z1x (ZD X call lf n fn c) k e s.σ = some (x,e',σ') →
    (∀ a' w' ι',Aft s n a e' σ' a' w' ι'→Q x.out a' w')→Code.roundsIn (Fw rd) m X.P c Q k a s.w:=by
   intro k
   induction k with
   | zero => intro s e a _ _ _ _ h;simp [Z1x] at h
   | succ k ihk =>
    intro s e a hG hi he hrd h hQ;simp only [Z1x] at h;rw [roundsIn_succ]
    split at h
    ·rename_i e1 σ1 h1;refine ih hG hi he hrd h1 fun a1 w1 ι1 ht => ?_
     exact ihk (s:=⟨w1,s.Y,σ1,ι1⟩) (hG.mono ht.ev) ht.inv ht.env (hrd.mono ht.ev) h fun a' w' ι' ht' => hQ a' w' ι' (ht.trans ht')
    ·rename_i hn;refine ih hG hi he hrd h fun a1 w1 ι1 ht => ?_
     cases x with
     | normal => exact absurd h (hn _ _)
     | exit id => exact hQ _ _ _ ht
     | ret => exact hQ _ _ _ ht
  exact key lf hG hi he hrd h hQ
 | exit id =>
  intro Q s e a x e' σ' hG hi he hrd h hQ;simp only [ZD,Y5,Y3] at h;obtain ⟨rfl,rfl,rfl⟩:=h
  exact wpIn_exit (hQ a s.w s.ι (Aft.refl hi he))
 | ret =>
  intro Q s e a x e' σ' hG hi he hrd h hQ;simp only [ZD,Y5,Y3] at h;obtain ⟨rfl,rfl,rfl⟩:=h
  exact wpIn_ret (hQ a s.w s.ι (Aft.refl hi he))
 | rangeFunc g ps as_ bo _ _ =>
  intro Q s e a x e' σ' hG hi he hrd h hQ;exact range_ok hcall hG hi he hrd h hQ
 | _ =>
  intro Q s e a x e' σ' hG hi he hrd h hQ;simp [ZD] at h
end Go.Dn

namespace Go.Dn
open Go
variable {X:Ctx} {s:St} {n:Nat}
def shut (w:World):List Nat→World
 | [] => w
 | r :: rs => shut (w.putObj r (.deferred none)) rs
theorem Z9Y:∀ (ms:List Nat) (w:World),(shut w ms).heap.size = w.heap.size∧(∀ b,b ∉ ms→(shut w ms).heap[b]? = w.heap[b]?)∧(shut w ms).os = w.os∧(shut w ms).tape = w.tape∧(shut w ms).output = w.output
 | [],w => ⟨rfl,fun _ _ => rfl,rfl,rfl,rfl⟩
 | r :: rs,w => by
  obtain ⟨h1,h2,h3,h4,h5⟩:=Z9Y rs (w.putObj r (.deferred none))
  refine ⟨by simp only [shut];rw [h1];simp,fun b hb => ?_,h3,h4,h5⟩
  simp only [List.mem_cons,not_or] at hb;simp only [shut];rw [h2 b hb.2];exact World.putObj_heap_other hb.1
theorem Z7L {F:Fence} {m:Nat} {P:Program} {fn:Func} {tmps:Array Value} {R:Ending→World→Prop}:∀ (ms:List Nat) (w:World),ms.Nodup→(∀ r ∈ ms,w.heap[r]? = some (.deferred (some []))) →
  (∃ v,(results fn tmps).run P (shut w ms) = .ok v (shut w ms)∧R (.returned v) (shut w ms))→LeavesInM F m P fn tmps R (ms.map mark) .returning w
 | [],w,_,_,h => h
 | r :: rs,w,hn,hd,h => by
  obtain ⟨hr,hrs⟩:=List.nodup_cons.1 hn
  refine ⟨by simp,.inl ⟨r,_,rfl,run_takeDeferred (hd r (by simp)),?_⟩⟩
  refine Z7L rs _ hrs (fun r' hr' => ?_) h
  rw [World.putObj_heap_other (fun e:r' = r => hr (e ▸ hr'))]
  exact hd r' (by simp [hr'])
section shut
variable {ms:List Nat} {w2:World}
theorem shut_cell (hkeep:∀ b,b ∉ ms→w2.heap[b]? = s.w.heap[b]?) (hms:∀ r ∈ ms,s.w.heap[r]? = some (.deferred (some []))) {b i:Nat} {u:Value} (h:s.w.cell? ⟨b,i,none⟩ = some u):w2.cell? ⟨b,i,none⟩ = some u:=by
 have:b ∉ ms:=fun hb => by
  simp only [World.cell?,hms b hb] at h;cases h
 rw [← h]
 simp only [World.cell?,hkeep b this]
theorem ZCK (hkeep:∀ b,b ∉ ms→w2.heap[b]? = s.w.heap[b]?) (hms:∀ r ∈ ms,s.w.heap[r]? = some (.deferred (some []))) {b:Nat} {cs:Array Value} {el:TypeId} {fr:Nat × Nat} (h:s.w.heap[b]? = some (.cells cs el fr)):w2.heap[b]? = some (.cells cs el fr):=by
 have:b ∉ ms:=fun hb => by
  rw [hms b hb] at h;cases h
 rw [hkeep b this,h]
theorem shut_imm (hsz:w2.heap.size = s.w.heap.size) (b:Nat):s.imm b ↔ (⟨w2,s.Y,s.σ,s.ι⟩ : St).imm b:=by
 simp only [St.imm,Imm,hsz]
theorem shut_fvr (hsz:w2.heap.size = s.w.heap.size) (hkeep:∀ b,b ∉ ms→w2.heap[b]? = s.w.heap[b]?) (hms:∀ r ∈ ms,s.w.heap[r]? = some (.deferred (some []))) {x:FV} {v:Value} (h:FVR s.w s.imm x v):FVR w2 (⟨w2,s.Y,s.σ,s.ι⟩ : St).imm x v:=by
 induction h with
 | bool b => exact .bool b
 | int k n => exact .int k n
 | str s => exact .str s
 | nilp => exact .nilp
 | nilf => exact .nilf
 | fn f => exact .fn f
 | nil => exact .nil
 | empty a cap => exact .empty a cap
 | sl xs b off cap sz vals himm hcap hsz' hcell hval ih =>
  exact .sl xs b off cap sz vals ((shut_imm hsz b).1 himm) hcap hsz' (fun i j hi hj => shut_cell hkeep hms (hcell i j hi hj)) ih
theorem ZAa (hsz:w2.heap.size = s.w.heap.size) (hkeep:∀ b,b ∉ ms→w2.heap[b]? = s.w.heap[b]?) (hms:∀ r ∈ ms,s.w.heap[r]? = some (.deferred (some []))) {x:PV} {v:Value} (h:PVR s x v):PVR ⟨w2,s.Y,s.σ,s.ι⟩ x v:=by
 induction h with
 | undef => exact .undef
 | v hx => exact .v (shut_fvr hsz hkeep hms hx)
 | nils => exact .nils
 | full hx => exact .full (shut_fvr hsz hkeep hms hx)
 | buf hb hv ho hk =>
  refine .buf (s:=⟨w2,s.Y,s.σ,s.ι⟩) hb hv ho fun e => ?_
  obtain ⟨cap,cs,el,fr,q1,q2,q3,q4⟩:=hk e
  exact ⟨cap,cs,el,fr,q1,q2,ZCK hkeep hms q3,q4⟩
 | ptr hb hv ho hk => exact .ptr (s:=⟨w2,s.Y,s.σ,s.ι⟩) hb hv ho hk
 | fptr himm hcell =>
  refine .fptr ((shut_imm hsz _).1 himm) fun j x hj => ?_
  obtain ⟨u,h1,h2⟩:=hcell j x hj
  exact ⟨u,shut_cell hkeep hms h1,shut_fvr hsz hkeep hms h2⟩
 | clo hf hc _ _ ih1 ih2 => exact .clo hf hc ih1 ih2
 | yld hl => exact .yld (s:=⟨w2,s.Y,s.σ,s.ι⟩) hl
 | agg hs _ ho ih => exact .agg hs ih ho
 | tup hs _ ih => exact .tup hs ih
 | mp hm => exact .mp (s:=⟨w2,s.Y,s.σ,s.ι⟩) hm
 | view hb hv ho hk => exact .view (s:=⟨w2,s.Y,s.σ,s.ι⟩) hb hv ho hk
theorem shut_inv (hsz:w2.heap.size = s.w.heap.size) (hkeep:∀ b,b ∉ ms→w2.heap[b]? = s.w.heap[b]?) (hms:∀ r ∈ ms,s.w.heap[r]? = some (.deferred (some []))) (hi:Inv s):Inv ⟨w2,s.Y,s.σ,s.ι⟩:=by
 refine ⟨fun id => ?_,hi.inj,hi.notY,fun id el c h => (shut_imm hsz _).1 (hi.fz id el c h),hi.nx,fun b hb => by simp only [hsz];exact hi.Ylt b hb⟩
 have he:=hi.ent id
 simp only
 cases hent:s.σ.ent id with
 | none => trivial
 | blk el' c lv =>
  rw [hent] at he;obtain ⟨cs,fr,q1,q2,q3,q4⟩:=he
  exact ⟨cs,fr,ZCK hkeep hms q1,q2,q3,fun j x hj => by
   obtain ⟨u,hu,hp,ho⟩:=q4 j x hj
   exact ⟨u,hu,ZAa hsz hkeep hms hp,ho⟩⟩
 | loop fn' e' n' ps' as' bo' st' pend' =>
  rw [hent] at he;obtain ⟨fn2,tmps,defers,q1,q2,q3⟩:=he
  have:s.ι id ∉ ms:=fun hb => by
   rw [hms _ hb] at q1;cases q1
  exact ⟨fn2,tmps,defers,(hkeep _ this).trans q1,q2,fun t => ZAa hsz hkeep hms (q3 t)⟩
 | map kv =>
  rw [hent] at he;have:s.ι id ∉ ms:=fun hb => by
   have q1:s.w.heap[s.ι id]? = some (mobj kv):=he
   rw [hms _ hb] at q1;cases q1
  exact (hkeep _ this).trans he
end shut
theorem shut_ev {s0:St} {ms:List Nat} {w2:World} (hev:Ev s0 s) (hsz:w2.heap.size = s.w.heap.size) (hkeep:∀ b,b ∉ ms→w2.heap[b]? = s.w.heap[b]?) (hms:∀ r ∈ ms,s0.w.heap.size≤r)
  (ho:w2.os = s.w.os) (ht:w2.tape = s.w.tape) (hp:w2.output = s.w.output):Ev s0 ⟨w2,s.Y,s.σ,s.ι⟩ where
 Y:=hev.Y
 size:=by simp only [hsz];exact hev.size
 keep:=fun b hb hl => by
  rw [← hev.keep b hb hl];exact hkeep b fun hm => by have:=hms b hm;omega
 live:=hev.live
 blk:=fun id el cells lv h => by
  obtain ⟨c',l',e',hle,hk⟩:=hev.blk id el cells lv h
  refine ⟨c',l',e',hle,fun heq => ?_⟩
  obtain ⟨h1,h2⟩:=hk heq
  refine ⟨h1,fun cs e fr hc => ?_⟩
  obtain ⟨cs',fr',h3,h4⟩:=h2 cs e fr hc
  exact ⟨cs',fr',by rw [← h3];exact hkeep _ fun hm => by have:=hms _ hm;have:=(Array.getElem?_eq_some_iff.1 hc).1;omega,h4⟩
 loop:=hev.loop
 map:=hev.map
 os:=ho.trans hev.os
 tape:=ht.trans hev.tape
 output:=hp.trans hev.output
theorem grow_ev {w':World} (hi:Inv s) (hsz:s.w.heap.size≤w'.heap.size) (hk:∀ b,b < s.w.heap.size→w'.heap[b]? = s.w.heap[b]?) (ho:w'.os = s.w.os) (ht:w'.tape = s.w.tape) (hp:w'.output = s.w.output) :
  Ev s ⟨w',s.Y,s.σ,s.ι⟩∧Inv ⟨w',s.Y,s.σ,s.ι⟩:=by
 have hev:Ev s ⟨w',s.Y,s.σ,s.ι⟩ :=
  { Y:=rfl,size:=hsz,keep:=fun b hb _ => hk b hb,live:=fun id h _ => ⟨id,h,rfl⟩,blk:=fun id el cells lv h => ⟨cells,lv,h,YB _,fun _ => ⟨rfl,fun cs e fr h => ⟨cs,fr,by rw [← h];exact hk _ (Array.getElem?_eq_some_iff.1 h).1,rfl⟩⟩⟩,loop:=fun id fn e n ps as_ bo st pend h => ⟨⟨st,pend,h⟩,rfl⟩,map:=fun id kv h => ⟨⟨kv,h⟩,rfl⟩,os:=ho,tape:=ht,output:=hp }
 refine ⟨hev,fun id => ?_,hi.inj,hi.notY,fun id el c h => (hev.imm _ (hi.fz id el c h)).1,hi.nx,fun b hb => YU (hi.Ylt b hb) hsz⟩
 have he:=hi.ent id
 simp only
 cases hent:s.σ.ent id with
 | none => trivial
 | blk el' c lv =>
  rw [hent] at he;obtain ⟨cs,fr,q1,q2,q3,q4⟩:=he
  exact ⟨cs,fr,(hk _ (Array.getElem?_eq_some_iff.1 q1).1).trans q1,q2,q3,fun j x hj => by
   obtain ⟨u,hu,hp,ho⟩:=q4 j x hj
   exact ⟨u,hu,hev.pvr hp,ho⟩⟩
 | loop fn' e' n' ps' as' bo' st' pend' =>
  rw [hent] at he;obtain ⟨fn2,tmps,defers,q1,q2,q3⟩:=he
  exact ⟨fn2,tmps,defers,(hk _ (Array.getElem?_eq_some_iff.1 q1).1).trans q1,q2,fun t => hev.pvr (q3 t)⟩
 | map kv => rw [hent] at he;exact (hk _ (Array.getElem?_eq_some_iff.1 he).1).trans he
def Z7r:PV→Bool
 | .undef | .v _ | .fptr _ => true
 | .agg cs => cs.all PV.isV
 | _ => false
def flat:PV→Bool
 | .tup xs => xs.all Z7r
 | x => Z7r x
theorem Z4d {s':St} {x:PV} {v:Value} (hm:∀ b,s.imm b→s'.imm b∧s'.w.heap[b]? = s.w.heap[b]?) (hf:Z7r x = true) (h:PVR s x v):PVR s' x v:=by
 cases h with
 | undef => exact .undef
 | v hx => exact .v (hx.mono hm)
 | fptr himm hcell =>
  refine .fptr (hm _ himm).1 fun j x hj => ?_
  obtain ⟨u,h1,h2⟩:=hcell j x hj
  refine ⟨u,?_,h2.mono hm⟩;rw [← h1];simp only [World.cell?,(hm _ himm).2]
 | @agg cells cs hs h ho =>
  refine .agg hs (fun i x hi => ?_) ho
  simp only [Z7r,YJ] at hf;have h1:=hf x (Y6 hi)
  have h2:=h i x hi
  cases x <;> simp [PV.isV] at h1
  generalize cs.getD i Go.undef = u at h2;cases h2 with
  | v hx => exact .v (hx.mono hm)
 | _ => simp [Z7r] at hf
theorem flat_pvr {s':St} {x:PV} {v:Value} (hm:∀ b,s.imm b→s'.imm b∧s'.w.heap[b]? = s.w.heap[b]?) (hf:flat x = true) (h:PVR s x v):PVR s' x v:=by
 cases x with
 | tup xs =>
  cases h with
  | tup hs h =>
   refine .tup hs fun i x hi => ?_
   simp only [flat,YJ] at hf;exact Z4d hm (hf x (Y6 hi)) (h i x hi)
 | _ => exact Z4d hm hf h
theorem pure_flat {x:PV} (h:x.pure = true):flat x = true∧Z7r x = true:=by
 cases x <;> simp [PV.pure] at h <;> simp [flat,Z7r]
 ·exact h
theorem vs_all (xs:List FV):(vs xs).all PV.isV = true:=by
 rw [YJ]
 intro x hx
 simp only [vs,List.mem_map] at hx
 obtain ⟨y,_,rfl⟩:=hx
 rfl
theorem ZBa {σ σ':Heap} {x y:PV} (h:Z1Q σ x = some (y,σ')):Z7r y = true∧∀ ts,y ≠ .tup ts:=by
 have one:∀ {x:PV},(Z02 6 σ x).bind (fun r => some (PV.v r.1,r.2)) = some (y,σ')→Z7r y = true∧∀ ts,y ≠ .tup ts:=by
  intro x h;simp only [Y4,Y5,Y3] at h;obtain ⟨⟨z,σ1⟩,h1,rfl,rfl⟩:=h
  exact ⟨rfl,by simp⟩
 unfold Z1Q at h
 split at h
 ·simp only [Y4,Y5,Y3] at h;obtain ⟨⟨z,σ1⟩,h1,rfl,rfl⟩:=h
  exact ⟨vs_all _,by simp⟩
 ·cases h;exact ⟨rfl,by simp⟩
 ·cases h;exact ⟨rfl,by simp⟩
 ·cases h
 ·exact one h
theorem ZAN:∀ {xs ys:List PV} {σ σ':Heap},Z2g σ xs = some (ys,σ')→ys.all Z7r = true
 | [],ys,σ,σ',h => by simp [Z2g] at h;rw [h.1];rfl
 | x :: xs,ys,σ,σ',h => by
  simp only [Z2g,Y4,Y5,Y3] at h;obtain ⟨⟨y,σ1⟩,h1,⟨zs,σ2⟩,h2,rfl,rfl⟩:=h
  simp only [Yw,Y9];exact ⟨(ZBa h1).1,ZAN h2⟩
theorem ZBT {σ σ':Heap} {x y:PV} (h:Z1C σ x = some (y,σ')):flat y = true:=by
 unfold Z1C at h
 split at h
 ·simp only [Y4,Y5,Y3] at h;obtain ⟨⟨z,σ1⟩,h1,rfl,rfl⟩:=h
  exact ZAN h1
 ·obtain ⟨h1,h2⟩:=ZBa h
  cases y <;> first | exact h1 | exact absurd rfl (h2 _)
theorem expCell_v {σ:Heap} {y:FV}:Z02 6 σ (.v y) = some (y,σ):=rfl
theorem Z8y {σ:Heap}:∀ (cs:List PV),cs.all PV.isV = true→∃ ys,Z0I (Z02 6) σ cs = some (ys,σ)∧vs ys = cs
 | [],_ => ⟨[],rfl,rfl⟩
 | x :: cs,h => by
  simp only [Yw,Y9] at h;obtain ⟨ys,h1,h2⟩:=Z8y (σ:=σ) cs h.2
  cases x <;> simp [PV.isV] at h
  rename_i y;exact ⟨y :: ys,by simp only [Z0I,expCell_v,Y0,h1],by simp only [vs,Y0B] at h2 ⊢;rw [h2]⟩
theorem Z7p {σ:Heap} {x:PV} (h:x.pure = true):Z4S σ x = some (x,σ):=by
 cases x <;> simp [PV.pure] at h
 ·rfl
 ·rfl
 ·rename_i cs;obtain ⟨ys,h1,h2⟩:=Z8y (σ:=σ) cs (by simpa using h)
  simp [Z4S,Z1Q,Z8T,h1,h2]
theorem Z3T {σ:Heap}:∀ {xs:List PV},xs.all PV.pure = true→Z13 σ xs = some (xs,σ)
 | [],_ => rfl
 | x :: xs,h => by
  simp only [Yw,Y9] at h;simp [Z13,Z7p h.1,Z3T h.2]
theorem ZBI {xs:List PV} (h:xs.all PV.pure = true):xs.all PV.calm = true:=by
 rw [YJ] at h ⊢
 intro x hx
 have:=h x hx
 cases x <;> simp only [PV.pure,PV.calm,YA] at this ⊢
 rw [YJ] at this ⊢
 intro y hy
 have:=this y hy
 cases y <;> simp only [PV.isV,PV.isN,YA] at this ⊢
theorem Z8q:∀ (cs:List PV),cs.all PV.isN = true→∃ ys,∀ σ,Z0I (Z02 6) σ cs = some (ys,σ)
 | [],_ => ⟨[],fun _ => rfl⟩
 | x :: cs,h => by
  simp only [Yw,Y9] at h;obtain ⟨ys,h1⟩:=Z8q cs h.2
  have h0:∃ y,∀ σ,Z02 6 σ x = some (y,σ):=by
   cases x <;> simp only [PV.isN,YA,false_and] at h
   ·exact ⟨_,fun _ => rfl⟩
   ·exact ⟨_,fun _ => rfl⟩
   ·exact ⟨_,fun _ => rfl⟩
  obtain ⟨y,hy⟩:=h0
  exact ⟨y :: ys,fun σ => by simp only [Z0I,hy,Y0,h1]⟩
theorem expArg_calm {x:PV} (h:x.calm = true):∃ y:PV,y.pure = true∧∀ σ,Z4S σ x = some (y,σ):=by
 have one:∀ {y:FV},(∀ σ,Z4S σ x = some (.v y,σ))→∃ y:PV,y.pure = true∧∀ σ,Z4S σ x = some (y,σ):=fun {y} h => ⟨.v y,rfl,h⟩
 cases x with
 | v y => exact one (y:=y) fun _ => rfl
 | nils => exact one (y:=.sl []) fun _ => rfl
 | full xs => exact one (y:=.sl xs) fun _ => rfl
 | fptr cs => exact ⟨.fptr cs,rfl,fun _ => rfl⟩
 | agg cs =>
  obtain ⟨ys,h1⟩:=Z8q cs h
  refine ⟨.agg (vs ys),?_,fun σ => ?_⟩
  ·simp [PV.pure,vs,PV.isV]
  ·simp only [Z4S,Z1Q,Z8T,h1,Y0]
 | _ => simp only [PV.calm,YA] at h
theorem ZAJ:∀ {xs:List PV},xs.all PV.calm = true→∃ ys:List PV,ys.all PV.pure = true∧∀ σ,Z13 σ xs = some (ys,σ)
 | [],_ => ⟨[],rfl,fun _ => rfl⟩
 | x :: xs,h => by
  simp only [Yw,Y9] at h;obtain ⟨y,h1,h2⟩:=expArg_calm h.1
  obtain ⟨ys,h3,h4⟩:=ZAJ h.2
  exact ⟨y :: ys,by simp only [Yw,h1,h3,Y0P],fun σ => by simp only [Z13,h2,Y0,h4]⟩
theorem ZCR (hi:Inv s) {fn:Func} {e:Env} {a:Act} (he:EnvR s n e a) {xs:List PV} (h:Z0H X.P e s.σ fn.results.toList = some xs) :
  ∃ v,(results fn a.tmps).run X.P s.w = .ok v s.w∧PVR s (Z1r xs) v:=by
 let q:ResultVar→Sem Value:=fun
  | .tmp t => pure (a.tmps.getD t undef)
  | .cell ad t => do loadVar t (← asAddr (a.tmps.getD ad undef))
 have key:∀ (rs:List ResultVar) (xs:List PV),Z0H X.P e s.σ rs = some xs→∃ us:List Value,(rs.mapM q).run X.P s.w = .ok us s.w∧us.length = xs.length∧∀ (i:Nat) (x:PV),xs[i]? = some x→PVR s x ((us[i]?).getD Go.undef):=by
  intro rs
  induction rs with
  | nil => intro xs h;simp [Z0H] at h;subst h;exact ⟨[],by simp,rfl,by simp⟩
  | cons r rs ih =>
   intro xs h;have one:∃ x ys u,(q r).run X.P s.w = .ok u s.w∧PVR s x u∧Z0H X.P e s.σ rs = some ys∧xs = x :: ys:=by
    cases r with
    | tmp t =>
     simp only [Z0H,Y1] at h;obtain ⟨ys,h1,rfl⟩:=h
     exact ⟨e t,ys,_,by simp [q],he.2 t,h1,rfl⟩
    | cell ad t =>
     simp only [Z0H,Y4,Y1] at h;obtain ⟨x,h1,ys,h2,rfl⟩:=h
     obtain ⟨addr,u,h3,h4,h5⟩:=load_ok (P:=X.P) hi (he.2 ad) h1
     refine ⟨x,ys,u,?_,h5,h2,rfl⟩
     show ((do loadVar t (← asAddr (a.tmps.getD ad undef)):Sem Value)).run X.P s.w = _
     rw [h3];simp [asAddr,h4]
   obtain ⟨x,ys,u,h1,h2,h3,rfl⟩:=one
   obtain ⟨us,h4,h5,h6⟩:=ih ys h3
   refine ⟨u :: us,by simp [List.mapM_cons,h1,h4],by simp [h5],fun i y hi => ?_⟩
   cases i with
   | zero => simp at hi;subst hi;exact h2
   | succ i => exact h6 i y (by simpa using hi)
 obtain ⟨us,h1,h2,h3⟩:=key _ _ h
 have hr:(results fn a.tmps).run X.P s.w = .ok (if h:us.toArray.size = 1 then us.toArray[0] else .tuple us.toArray) s.w:=by
  have:results fn a.tmps = (do let vs ← fn.results.mapM q;pure (if h:vs.size = 1 then vs[0] else .tuple vs)):=rfl
  rw [this,Array.mapM_eq_mapM_toList];simp [Sem.run_bind,h1]
 refine ⟨_,hr,?_⟩
 cases xs with
 | nil =>
  have:us = []:=List.length_eq_zero_iff.1 h2
  subst this;exact .tup rfl (fun i x hi => by simp at hi)
 | cons x xs =>
  cases xs with
  | nil =>
   cases us with
   | nil => simp at h2
   | cons u us =>
    have:us = []:=List.length_eq_zero_iff.1 (by simpa using h2)
    subst this;have:=h3 0 x (by simp)
    simpa [Z1r] using this
  | cons y ys =>
   have hne:us.toArray.size ≠ 1:=by simp [h2]
   rw [dif_neg hne];refine .tup (by simp [h2]) fun i z hz => ?_
   have:=h3 i z hz
   simpa [Y7] using this
theorem env_of {args:List PV} {vs:Array Value} {k:Nat} (h:PVRs s args vs):EnvR s (max k args.length) (Z72 args) { tmps:=vs ++ Array.replicate (k - vs.size) undef,defers:=[] }:=by
 refine ⟨by simp [h.1];omega,fun t => ?_⟩
 unfold Z72
 rw [YE]
 simp only [Y7,Array.getElem?_append]
 by_cases ht:t < args.length
 ·have h1:=h.2 t args[t] (by simp [ht])
  have ht':t < vs.size:=by rw [← h.1];exact ht
  simpa [ht,ht',Y7] using h1
 ·have ht':¬ t < vs.size:=by rw [← h.1];exact ht
  rw [if_neg ht',YZ (by omega)]
  simp only [Option.getD_none]
  by_cases h2:t - vs.size < k - vs.size
  ·simp [h2];exact .undef
  ·simp [h2];exact .undef
theorem body_ok {call : Z05} (hm : X.P.follows .mixedOrders = true) (hnm : ∀ (f : FuncId) (fn : Func), X.P.funcs[f]? = some fn → (fn.name == "runtime.NumGoroutine") = false)
  (hcall:Z59 X call) (htame:Z1l call) (hcp:CallPure X call) {lf:Nat} {f:FuncId} {args:List PV} {vs:Array Value} {r:PV} {σ':Heap} (hi:Inv s) (hG:Z0W X s) (hv:PVRs s args vs) (h:Z1R X call lf f args s.σ = some (r,σ')) :
  (callFunc f vs).run X.P s.w = .ok (.enter f vs) s.w∧Calls X.P f vs s.w fun en w' => ∃ v,en = .returned v∧Post s r σ' v w':=by
 unfold Z1R at h
 split at h
 ·cases h
 ·rename_i fn hfn
  split at h
  ·cases h
  ·rename_i c hb;refine ⟨?_,?_⟩
   ·have hp:(program).run X.P s.w = .ok X.P s.w:=rfl
    simp only [callFunc,Sem.run_bind,hp,Result.andThen_ok,hfn,hnm f fn hfn,hb]
    simp
   ·have fin:∀ (x:Ex) (e1:Env) (σ1:Heap),ZD X call lf (max fn.ntmps args.length) f c (Z72 args) s.σ = some (x,e1,σ1)→(x = .normal∨x = .ret) →
      ((Z0H X.P e1 σ1 fn.results.toList).map fun xs => (Z1r xs,σ1)) = some (r,σ')→Calls X.P f vs s.w fun en w' => ∃ v,en = .returned v∧Post s r σ' v w':=by
     intro x e1 σ1 h1 hx h2;simp only [Y1,Y3] at h2;obtain ⟨xs,h2,rfl,rfl⟩:=h2
     have hw:CallsIn (Fw none) 0 X.P f vs s.w fun en w' => ∃ v,en = .returned v∧Post s (Z1r xs) σ1 v w':=by
      refine callsIn_of_wp_marks hfn hb trivial ?_ rfl;refine code_ok hm hcall htame hcp c hG hi (env_of hv) (fun l hl => by cases hl) h1 fun a' w' ι' ht => ?_
      obtain ⟨ms,hd,hmk⟩:=ht.marks
      have hd:a'.defers = ms.map mark:=by simpa using hd
      have hml:∀ r ∈ ms,w'.heap[r]? = some (.deferred (some [])):=fun r hr => (hmk.2 r hr).2.2
      obtain ⟨g1,g2,g3,g4,g5⟩:=Z9Y ms w'
      have hi2:=shut_inv (s:=⟨w',s.Y,σ1,ι'⟩) g1 g2 hml ht.inv
      have he2:EnvR ⟨shut w' ms,s.Y,σ1,ι'⟩ (max fn.ntmps args.length) e1 a':=⟨ht.env.1,fun t => ZAa (s:=⟨w',s.Y,σ1,ι'⟩) g1 g2 hml (ht.env.2 t)⟩
      have hev2:=shut_ev ht.ev g1 g2 (fun r hr => (hmk.2 r hr).1) g3 g4 g5
      obtain ⟨v,h3,h4⟩:=ZCR (X:=X) hi2 he2 h2
      have hl:LeavesInM (Fw none) 0 X.P fn a'.tmps (fun en w' => ∃ v,en = .returned v∧Post s (Z1r xs) σ1 v w') a'.defers .returning w':=by
       rw [hd];exact Z7L ms w' hmk.1 hml ⟨v,h3,v,rfl,ι',hi2,hev2,h4⟩
      rcases hx with rfl | rfl
      ·exact hl
      ·exact hl
     exact (callsIn_wide (n:=0)).1 hw
    split at h
    ·rename_i e1 σ1 h1;exact fin .normal e1 σ1 h1 (.inl rfl) h
    ·rename_i e1 σ1 h1;exact fin .ret e1 σ1 h1 (.inr rfl) h
    ·cases h
end Go.Dn

namespace Go.Dn
open Go
variable {X:Ctx} {s:St} {n:Nat}
theorem ZBS {call:Z05} (hc:Z1l call) {ops:Array Oper} {base:Nat} {p:Nat→Prop} (hp:∀ k,p k→k < base):∀ (l:List Oper) (i:Nat) (e:Env) (σ:Heap) (e':Env) (σ':Heap),
  base≤σ.nx→(∀ k,p k→σ.ent k = .none)→Z2Q X call n ops base i l e σ = some (e',σ')→base≤σ'.nx∧∀ k,p k→σ'.ent k = .none
 | [],i,e,σ,e',σ',hb,hk,h => by
  simp [Z2Q] at h;obtain ⟨_,rfl⟩:=h
  exact ⟨hb,hk⟩
 | o :: l,i,e,σ,e',σ',hb,hk,h => by
  simp only [Z2Q,Y4] at h;obtain ⟨⟨e1,σ1⟩,h1,h2⟩:=h
  have ht:=Z7D hc h1
  exact ZBS hc hp l (i + 1) e1 σ1 e' σ' (Yd hb ht.1) (fun k hpk => ht.2 k (by have:=hp k hpk;omega) (by have:=hp k hpk;simp;omega) (hk k hpk)) h2
theorem ZAV {call:Z05} (hc:Z1l call) {ops:Array Oper} {base:Nat} {p:Nat→Prop} (hp:∀ k,p k→k < base):∀ (l:List Oper) (i:Nat) (e:Env) (σ:Heap) (e':Env) (σ':Heap),
  base≤σ.nx→(∀ k,p k→σ.ent k = .none)→Z1U X call n ops base i l e σ = some (e',σ')→base≤σ'.nx∧∀ k,p k→σ'.ent k = .none
 | [],i,e,σ,e',σ',hb,hk,h => by
  simp [Z1U] at h;obtain ⟨_,rfl⟩:=h
  exact ⟨hb,hk⟩
 | o :: l,i,e,σ,e',σ',hb,hk,h => by
  simp only [Z1U,Y4] at h;obtain ⟨⟨e1,σ1⟩,h1,h2⟩:=h
  have ht:=Z7D hc (ZBP h1)
  exact ZAV hc hp l (i + 1) e1 σ1 e' σ' (Yd hb ht.1) (fun k hpk => ht.2 k (by have:=hp k hpk;omega) (by have:=hp k hpk;simp;omega) (hk k hpk)) h2
theorem Z5K {call:Z05} (hc:Z1l call) {lf:Nat} {fn:FuncId}:∀ (c:Code) (e:Env) (σ:Heap) (x:Ex) (e':Env) (σ':Heap),ZD X call lf n fn c e σ = some (x,e',σ')→Tame σ none σ':=by
 intro c
 induction c with
 | skip => intro e σ x e' σ' h;simp only [ZD,Y5,Y3] at h;rw [← h.2.2];exact Tame.refl _ _
 | label l => intro e σ x e' σ' h;simp only [ZD,Y5,Y3] at h;rw [← h.2.2];exact Tame.refl _ _
 | scope c ih => intro e σ x e' σ' h;simp only [ZD] at h;exact ih e σ x e' σ' h
 | region id ops draw =>
  intro e σ x e' σ' h;simp only [ZD] at h
  split at h
  ·split at h
   ·simp only [Y1,Y3] at h;obtain ⟨⟨e1,σ1⟩,h1,_,_,rfl⟩:=h
    obtain ⟨q1,q2⟩:=ZAV hc (p:=fun k => k < σ.nx∧σ.ent k = .none) (fun k hk => hk.1) ops.toList 0 e ⟨σ.nx + ops.size,σ.ent⟩ e1 σ1 (Y0z _ _) (fun k hk => hk.2) h1
    exact ⟨q1,fun k hk _ hn => q2 k ⟨hk,hn⟩⟩
   ·cases h
  ·simp only [Y1,Y3] at h;obtain ⟨⟨e1,σ1⟩,h1,_,_,rfl⟩:=h
   obtain ⟨q1,q2⟩:=ZBS hc (p:=fun k => k < σ.nx∧σ.ent k = .none) (fun k hk => hk.1) ops.toList 0 e ⟨σ.nx + ops.size,σ.ent⟩ e1 σ1 (Y0z _ _) (fun k hk => hk.2) h1
   exact ⟨q1,fun k hk _ hn => q2 k ⟨hk,hn⟩⟩
 | seq c1 c2 ih1 ih2 =>
  intro e σ x e' σ' h;simp only [ZD] at h
  split at h
  ·rename_i h1;exact (ih1 _ _ _ _ _ h1).trans (ih2 _ _ _ _ _ h)
  ·exact ih1 _ _ _ _ _ h
 | cond c c1 c2 ih1 ih2 =>
  intro e σ x e' σ' h;simp only [ZD] at h
  split at h
  ·exact ih1 _ _ _ _ _ h
  ·exact ih2 _ _ _ _ _ h
  ·cases h
 | block id c ih =>
  intro e σ x e' σ' h;simp only [ZD] at h
  split at h
  ·rename_i h1;have:=ih _ _ _ _ _ h1
   split at h <;> simp only [Y5,Y3] at h <;> rw [← h.2.2] <;> exact this
  ·exact ih _ _ _ _ _ h
 | loop c ih =>
  intro e σ x e' σ' h;simp only [ZD] at h;have key:∀ (k:Nat) (e:Env) (σ:Heap),Z1x (ZD X call lf n fn c) k e σ = some (x,e',σ')→Tame σ none σ':=by
   intro k
   induction k with
   | zero => intro e σ h;simp [Z1x] at h
   | succ k ihk =>
    intro e σ h;simp only [Z1x] at h
    split at h
    ·rename_i h1;exact (ih _ _ _ _ _ h1).trans (ihk _ _ h)
    ·exact ih _ _ _ _ _ h
  exact key lf e σ h
 | exit id => intro e σ x e' σ' h;simp only [ZD,Y5,Y3] at h;rw [← h.2.2];exact Tame.refl _ _
 | ret => intro e σ x e' σ' h;simp only [ZD,Y5,Y3] at h;rw [← h.2.2];exact Tame.refl _ _
 | rangeFunc g ps as_ bo _ _ =>
  intro e σ x e' σ' h;simp only [ZD] at h
  split at h
  ·rename_i gv hg;have fin:∀ (r:Option (PV × Heap)),(∀ q σ2,r = some (q,σ2)→Tame ⟨σ.nx + 1,upd σ.ent σ.nx (.loop fn e n ps.toList as_ bo .ready none)⟩ none σ2)→(match r with
    | some (_,σ2) =>
     match σ2.ent σ.nx with
     | .loop fn' e' n' ps' as' bo' st pend =>
      if st = LoopState.busy then none else
      match Z6v pend with
      | some x => some (x,e,σ2.put σ.nx (.loop fn' e' n' ps' as' bo' .exhausted pend))
      | none => none
     | _ => none
    | none => none) = some (x,e',σ')→Tame σ none σ':=by
    intro r ht hr
    split at hr
    ·rename_i q σ2;have ht:=ht q σ2 rfl
     split at hr
     ·split at hr
      ·cases hr
      ·split at hr
       ·simp only [Y5,Y3] at hr;obtain ⟨_,_,rfl⟩:=hr
        refine ⟨Yd (Nat.le_succ _) ht.1,fun k hk _ hn => ?_⟩
        simp only [Heap.put,ZQ _ _ (Nat.ne_of_lt hk)];exact ht.2 k (Nat.lt_succ_of_lt hk) (by simp) (by simp only [ZQ _ _ (Nat.ne_of_lt hk)];exact hn)
       ·cases hr
     ·cases hr
    ·cases hr
   cases gv with
   | v y =>
    cases y with
    | fn f => exact fin _ (fun q σ2 hq => hc _ _ _ _ _ hq) h
    | _ => simp at h
   | clo f first caps => exact fin _ (fun q σ2 hq => hc _ _ _ _ _ hq) h
   | _ => simp at h
  ·cases h
 | _ =>
  intro e σ x e' σ' h;simp [ZD] at h
theorem ZCG {call:Z05} (hc:Z1l call) {lf:Nat} {f:FuncId} {args:List PV} {σ σ':Heap} {r:PV} (h:Z1R X call lf f args σ = some (r,σ')):Tame σ none σ':=by
 unfold Z1R at h
 split at h
 ·cases h
 ·split at h
  ·cases h
  ·split at h
   ·rename_i h1;simp only [Y1,Y3] at h;obtain ⟨_,_,_,rfl⟩:=h
    exact Z5K hc _ _ _ _ _ _ h1
   ·rename_i h1;simp only [Y1,Y3] at h;obtain ⟨_,_,_,rfl⟩:=h
    exact Z5K hc _ _ _ _ _ _ h1
   ·cases h
theorem callD_fn {k:Nat} {f:FuncId} {args:List PV} {σ σ':Heap} {r:PV} (h:Z0b X (k + 1) (.fn f) args σ = some (r,σ')) :
  (X.intr f args = some r∧args.all PV.pure = true∧σ' = σ) ∨
  ∃ args' σ1,((X.keep f = true∧args' = args∧σ1 = σ)∨Z13 σ args = some (args',σ1)) ∧
   ((X.intr f args' = some r∧args'.all PV.pure = true∧σ' = σ1)∨(X.opn f = true∧Z1R X (Z0b X k) k f args' σ1 = some (r,σ')) ∨
    (X.opn f = false∧args'.all PV.pure = true∧(σ' = σ1∨(σ' = σ∧r.Z8E = true))∧∃ q σ2 σ3,Z1R X (Z0b X k) k f args' Heap.empty = some (q,σ2)∧Z1C σ2 q = some (r,σ3)) ∨
    (X.opn f = false∧args'.all PV.pure = false∧∃ q σ2,Z1R X (Z0b X k) k f args' σ1 = some (q,σ2)∧Z1C σ2 q = some (r,σ')) ∨
    (X.opn f = false∧args'.all PV.pure = false∧Z6R σ1 args' = true∧σ' = σ1∧∃ q σ2 σ3,Z1R X (Z0b X k) k f args' (σ1.only (args'.flatMap vids)) = some (q,σ2)∧Z1C σ2 q = some (r,σ3)∧∀ id ∈ args'.flatMap vids,σ3.ent id = σ1.ent id)):=by
 simp only [Z0b] at h
 split at h
 ·rename_i r' hr
  split at h
  ·rename_i hp;simp only [Y5,Y3] at h;obtain ⟨rfl,rfl⟩:=h
   exact .inl ⟨hr,hp,rfl⟩
  ·cases h
 ·split at h
  ·cases h
  ·rename_i args' σ1 ha;refine .inr ⟨args',σ1,?_,?_⟩
   ·split at ha
    ·rename_i hk;simp only [Y5,Y3] at ha;exact .inl ⟨hk,ha.1.symm,ha.2.symm⟩
    ·exact .inr ha
   ·split at h
    ·rename_i r' hr'
     split at h
     ·rename_i hp;simp only [Y5,Y3] at h;obtain ⟨rfl,rfl⟩:=h
      exact .inl ⟨hr',hp,rfl⟩
     ·cases h
    refine .inr ?_
    split at h
    ·rename_i ho;exact .inl ⟨ho,h⟩
    ·rename_i ho;simp only [Y09] at ho
     split at h
     ·rename_i hp;simp only [Y4,Y1,Y3] at h;obtain ⟨⟨q,σ2⟩,h1,⟨r',σ3⟩,h2,rfl,rfl⟩:=h
      refine .inr (.inl ⟨ho,hp,?_,q,σ2,σ3,h1,h2⟩)
      split
      ·rename_i hc;exact .inr ⟨rfl,(Bool.and_eq_true_iff.1 hc).2⟩
      ·exact .inl rfl
     ·rename_i hp;simp only [Y09] at hp
      split at h
      ·split at h
       ·rename_i hpt;simp only [Y4] at h;obtain ⟨⟨q,σ2⟩,h1,⟨r',σ3⟩,h2,h3⟩:=h
        split at h3
        ·rename_i hall;simp only [Y5,Y3] at h3;obtain ⟨rfl,rfl⟩:=h3
         exact .inr (.inr (.inr ⟨ho,hp,hpt,rfl,q,σ2,σ3,h1,h2,hall⟩))
        ·cases h3
       ·cases h
      ·simp only [Y4] at h;obtain ⟨⟨q,σ2⟩,h1,h2⟩:=h
       exact .inr (.inr (.inl ⟨ho,hp,q,σ2,h1,h2⟩))
theorem callD_yld {k:Nat} {id:Nat} {args:List PV} {σ σ':Heap} {r:PV} (h:Z0b X (k + 1) (.yld id) args σ = some (r,σ')) :
  ∃ fn e n ps as_ bo args' σ1 e1 σ2 pend x e3 σ3,σ.ent id = .loop fn e n ps as_ bo .ready none∧ps.length = args.length∧Z13 σ args = some (args',σ1) ∧
   ZD X (Z0b X k) k n fn as_ (Z4v e n ps args') σ1 = some (.normal,e1,σ2)∧(∃ fn' e' n' ps' as' bo',σ2.ent id = .loop fn' e' n' ps' as' bo' .ready pend) ∧
   ZD X (Z0b X k) k n fn bo e1 (σ2.put id (.loop fn e n ps as_ bo .busy pend)) = some (x,e3,σ3) ∧
   ((x = .normal∧r = .v (.bool true)∧σ' = σ3.put id (.loop fn e n ps as_ bo .ready none)) ∨
    (∃ t,x = .exit t∧r = .v (.bool false)∧σ' = σ3.put id (.loop fn e n ps as_ bo .done (some (.exit t)))) ∨
    (x = .ret∧r = .v (.bool false)∧σ' = σ3.put id (.loop fn e n ps as_ bo .done (some .ret)))):=by
 simp only [Z0b] at h
 split at h
 ·rename_i fn e n ps as_ bo hen
  split at h
  ·rename_i hlen
   split at h
   ·cases h
   ·rename_i args' σ1 ha
    split at h
    ·rename_i e1 σ2 h1
     split at h
     ·rename_i fn' e' n' ps' as' bo' pend h2
      split at h
      ·rename_i x e3 σ3 h3;refine ⟨fn,e,n,ps,as_,bo,args',σ1,e1,σ2,pend,x,e3,σ3,hen,hlen,ha,h1,⟨_,_,_,_,_,_,h2⟩,h3,?_⟩
       split at h <;> simp only [Y5,Y3] at h
       ·exact .inl ⟨rfl,h.1.symm,h.2.symm⟩
       ·exact .inr (.inl ⟨_,rfl,h.1.symm,h.2.symm⟩)
       ·exact .inr (.inr ⟨rfl,h.1.symm,h.2.symm⟩)
      ·cases h
     ·cases h
    ·cases h
  ·cases h
 ·cases h
theorem Z9j:∀ k,Z1l (Z0b X k)
 | 0 => fun c args σ r σ' h => by cases c <;> simp [Z0b] at h
 | k + 1 => fun c args σ r σ' h => by
  have ih:=Z9j k
  cases c with
  | fn f =>
   rcases callD_fn h with ⟨_,_,rfl⟩ | ⟨args',σ1,h1,h2⟩
   ·exact Tame.refl _ _
   ·have t1:Tame σ none σ1:=by
     rcases h1 with ⟨_,_,rfl⟩ | h1
     ·exact Tame.refl _ _
     ·exact Z7F h1
    rcases h2 with ⟨_,_,rfl⟩ | ⟨_,h2⟩ | ⟨_,_,rfl | ⟨rfl,_⟩,_⟩ | ⟨_,_,q,σ2,h2,h3⟩ | ⟨_,_,_,rfl,_⟩
    ·exact t1
    ·exact t1.trans (ZCG ih h2)
    ·exact t1
    ·exact Tame.refl _ _
    ·exact t1.trans ((ZCG ih h2).trans (expRes_tame h3))
    ·exact t1
  | yld id =>
   obtain ⟨fn,e,n,ps,as_,bo,args',σ1,e1,σ2,pend,x,e3,σ3,hen,_,ha,h1,_,h3,h4⟩:=callD_yld h
   have t1:=(Z7F ha).trans (Z5K ih _ _ _ _ _ _ h1)
   have t2:=Z5K ih _ _ _ _ _ _ h3
   have t3:σ.nx≤σ3.nx∧∀ k,k < σ.nx→k ≠ id→σ.ent k = .none→σ3.ent k = .none:=by
    refine ⟨Yd t1.1 t2.1,fun k hk hne hn => t2.2 k (YU hk t1.1) (by simp) ?_⟩
    simp only [Heap.put,ZQ _ _ hne];exact t1.2 k hk (by simp) hn
   have t4:∀ en,Tame σ none (σ3.put id en):=fun en => ⟨t3.1,fun k hk _ hn => by
    have hne:k ≠ id:=by rintro rfl;rw [hen] at hn;cases hn
    simp only [Heap.put,ZQ _ _ hne];exact t3.2 k hk hne hn⟩
   rcases h4 with ⟨_,_,rfl⟩ | ⟨_,_,_,rfl⟩ | ⟨_,_,rfl⟩ <;> exact t4 _
theorem callD_pure1:∀ k f args σ r σ',Z0b X k (.fn f) args σ = some (r,σ')→args.all PV.calm = true→X.opn f = false→X.keep f = false→σ' = σ∧∀ σ2,Z0b X k (.fn f) args σ2 = some (r,σ2)
 | 0 => fun f args σ r σ' h => by simp [Z0b] at h
 | k + 1 => fun f args σ r σ' h hp ho hk => by
  obtain ⟨ys,hy,he⟩:=ZAJ hp
  simp only [Z0b,hk,ho,YA,if_false,he,hy,if_true] at h ⊢
  split at h
  ·split at h
   ·rename_i hpu;simp only [Y5,Y3] at h;obtain ⟨rfl,rfl⟩:=h
    exact ⟨rfl,fun σ2 => by simp only [hpu,if_true]⟩
   ·cases h
  ·cases hin:X.intr f ys with
   | some r2 =>
    simp only [hin,Y5,Y3] at h;obtain ⟨rfl,rfl⟩:=h
    exact ⟨rfl,fun σ2 => rfl⟩
   | none =>
    simp only [hin,Y4,Y1,Y3] at h;obtain ⟨⟨q,σ2⟩,h1,⟨r',σ3⟩,h2,rfl,rfl⟩:=h
    refine ⟨by rw [ite_self],fun σ4 => ?_⟩
    simp only [h1,Y0,h2,Y8,ite_self]
theorem only_congr {σ σ2:Heap} {ids:List Nat} (h1:σ2.nx = σ.nx) (h2:∀ k ∈ ids,σ2.ent k = σ.ent k):σ2.only ids = σ.only ids:=by
 unfold Heap.only
 rw [h1]
 congr 1
 funext k
 split
 ·exact h2 k ‹_›
 ·rfl
theorem ZAD {σ σ2:Heap}:∀ {args:List PV},(∀ k ∈ args.flatMap vids,σ2.ent k = σ.ent k)→Z6R σ2 args = Z6R σ args
 | [],_ => rfl
 | x :: xs,h => by
  have ih:=ZAD (args:=xs) fun k hk => h k (by simp only [YO,Yu];exact .inr hk)
  unfold Z6R at ih ⊢;simp only [Yw,ih]
  congr 1
  cases x with
  | buf id len sz => simp only;rw [h id (by simp [vids])]
  | _ => rfl
theorem Z9c:∀ k,CallPure X (Z0b X k):=fun k => ⟨callD_pure1 k,fun f args σ r σ' h hs hk ho hp => by
 cases k with
 | zero => simp [Z0b] at h
 | succ k =>
  cases hin:X.intr f args with
  | some v =>
   simp only [Z0b,hin,hp,if_false,YA] at h;cases h
  | none =>
   simp only [Z0b,hin,hk,hs,ho,hp,Y0P,if_true,if_false,YA] at h ⊢
   split at h
   ·rename_i hpt;simp only [Y4] at h;obtain ⟨⟨q,σ2⟩,h1,⟨r',σ3⟩,h2,h3⟩:=h
    split at h3
    ·rename_i hall;simp only [Y5,Y3] at h3;obtain ⟨rfl,rfl⟩:=h3
     refine ⟨rfl,fun σ4 h4 h5 => ?_⟩
     rw [ZAD h5,if_pos hpt,only_congr h4 h5,h1];simp only [Y0,h2];rw [if_pos fun id hid => (hall id hid).trans (h5 id hid).symm]
    ·cases h3
   ·cases h⟩
def IntrOK (X:Ctx):Prop:=∀ f args r,X.intr f args = some r→∀ (s:St),Inv s→Z0W X s→∀ vs,PVRs s args vs→args.all PV.pure = true →
 (callFunc f vs).run X.P s.w = .ok (.enter f vs) s.w∧Calls X.P f vs s.w fun en w' => ∃ v,en = .returned v∧Post s r s.σ v w'
def St.under (s:St):St:=⟨s.w,fun b => s.Y b∨∃ id,Live s.σ id∧s.ι id = b,Heap.empty,fun _ => 0⟩
theorem Z2Z {id:Nat}:¬ Live Heap.empty id:=by
 rintro (⟨el,c,h⟩ | ⟨_,_,_,_,_,_,_,_,h⟩ | ⟨_,h⟩) <;> cases h
theorem under_imm {b:Nat}:s.under.imm b ↔ s.imm b:=by
 simp only [St.imm,Imm,St.under,not_or,not_exists,not_and]
 constructor
 ·rintro ⟨h1,⟨h2,h3⟩,_⟩;exact ⟨h1,h2,h3⟩
 ·rintro ⟨h1,h2,h3⟩;exact ⟨h1,⟨h2,h3⟩,fun id h => absurd h Z2Z⟩
theorem Z8Q (hi:Inv s):Inv s.under :=
 ⟨fun _ => trivial,fun _ _ h => absurd h Z2Z,fun _ h => absurd h Z2Z,fun _ _ _ h => (by cases h),fun _ _ => rfl,
  fun b hb => hb.elim (hi.Ylt b) fun ⟨_,hl,e⟩ => e ▸ hl.lt hi⟩
theorem ZB9 {x:PV} {v:Value} (hp:x.pure = true) (h:PVR s x v):PVR s.under x v :=
 Z4d (fun b hb => ⟨under_imm.2 hb,rfl⟩) (pure_flat hp).2 h
theorem ZCI {xs:List PV} {vs:Array Value} (hp:xs.all PV.pure = true) (h:PVRs s xs vs):PVRs s.under xs vs :=
 ⟨h.1,fun i x hi => ZB9 (by rw [YJ] at hp;exact hp x (Y6 hi)) (h.2 i x hi)⟩
theorem ZCt (hG:Z0W X s):Z0W X s.under:=fun g cells hg => ZB9 rfl (hG g cells hg)
theorem Z9F {q r:PV} {σ2 σ3:Heap} {v:Value} {w':World} (hi:Inv s) (h:Post s.under q σ2 v w') (hr:Z1C σ2 q = some (r,σ3)):Post s r s.σ v w':=by
 obtain ⟨ι',h1,h2,h3⟩:=h
 obtain ⟨⟨e1,_⟩,e2⟩:=Z8R (s:=⟨w',s.under.Y,σ2,ι'⟩) hr h1 h3
 obtain ⟨g1,g2⟩:=grow_ev hi h2.size (fun b hb => h2.keep b hb fun id hl => absurd hl Z2Z) h2.os h2.tape h2.output
 refine ⟨s.ι,g2,g1,flat_pvr (s:=⟨w',s.under.Y,σ3,ι'⟩) (fun b hb => ⟨?_,rfl⟩) (ZBT hr) e2⟩
 obtain ⟨q1,q2,q3⟩:=hb
 simp only [St.under,not_or,not_exists,not_and] at q2
 exact ⟨q1,q2.1,q2.2⟩
theorem noRef_fvr {w w':World} {I I':Nat→Prop} {x:FV} {v:Value} (hn:x.Z8E = true) (h:FVR w I x v):FVR w' I' x v:=by
 cases h with
 | bool b => exact .bool b
 | int k n => exact .int k n
 | str s => exact .str s
 | nilp => exact .nilp
 | nilf => exact .nilf
 | fn f => exact .fn f
 | nil => exact .nil
 | empty a cap => exact .empty a cap
 | sl xs b off cap sz vals himm hcap hsz hcell hval =>
  cases xs with
  | nil => exact .empty _ _
  | cons y ys => simp [FV.Z8E] at hn
theorem ZCX {s s':St} {x:PV} {v:Value} (hn:x.noRef2 = true) (h:PVR s x v):PVR s' x v:=by
 cases h with
 | v h => exact .v (noRef_fvr hn h)
 | @agg cells cs hs h ho =>
  refine .agg hs (fun i x hi => ?_) ho
  simp only [PV.noRef2,YJ] at hn;have h1:=hn x (Y6 hi)
  have h2:=h i x hi
  cases x <;> simp [PV.noRef1] at h1
  generalize cs.getD i Go.undef = u at h2;cases h2 with
  | v hx => exact .v (noRef_fvr h1 hx)
 | _ => simp [PV.noRef2] at hn
theorem noRef_pvr {s s':St} {x:PV} {v:Value} (hn:x.Z8E = true) (h:PVR s x v):PVR s' x v:=by
 cases x with
 | tup xs =>
  cases h with
  | tup hs h =>
   refine .tup hs fun i x hi => ?_
   simp only [PV.Z8E,YJ] at hn;exact ZCX (hn x (Y6 hi)) (h i x hi)
 | _ => exact ZCX hn h
theorem under_thaw {q r:PV} {σ1 σ2 σ3:Heap} {v:Value} {w':World} (hi:Inv s) (h:Post (St.under ⟨s.w,s.Y,σ1,s.ι⟩) q σ2 v w') (hr:Z1C σ2 q = some (r,σ3)) (hn:r.Z8E = true):Post s r s.σ v w':=by
 obtain ⟨ι',h1,h2,h3⟩:=h
 obtain ⟨_,e2⟩:=Z8R (s:=⟨w',_,σ2,ι'⟩) hr h1 h3
 obtain ⟨g1,g2⟩:=grow_ev hi h2.size (fun b hb => h2.keep b hb fun id hl => absurd hl Z2Z) h2.os h2.tape h2.output
 exact ⟨s.ι,g2,g1,noRef_pvr hn e2⟩
def St.part (s:St) (ids:List Nat):St:=⟨s.w,fun b => s.Y b∨∃ id,id ∉ ids∧Live s.σ id∧s.ι id = b,s.σ.only ids,s.ι⟩
theorem only_in {σ:Heap} {ids:List Nat} {id:Nat} (h:id ∈ ids):(σ.only ids).ent id = σ.ent id:=if_pos h
theorem Z4g {σ:Heap} {ids:List Nat} {id:Nat}:Live (σ.only ids) id ↔ id ∈ ids∧Live σ id:=by
 by_cases h:id ∈ ids <;> simp [Live,Heap.only,Heap.isLoop,Heap.isMap,h]
theorem part_imm {ids:List Nat} {b:Nat}:(s.part ids).imm b ↔ s.imm b:=by
 simp only [St.imm,Imm,St.part,not_or,not_exists,not_and]
 constructor
 ·rintro ⟨h1,⟨h2,h3⟩,h4⟩;refine ⟨h1,h2,fun id hl => ?_⟩
  by_cases hid:id ∈ ids
  ·exact h4 id (Z4g.2 ⟨hid,hl⟩)
  ·exact h3 id hid hl
 ·rintro ⟨h1,h2,h3⟩;exact ⟨h1,⟨h2,fun id _ hl => h3 id hl⟩,fun id hl => h3 id (Z4g.1 hl).2⟩
def FlatIds (σ:Heap) (ids:List Nat):Prop:=∀ id ∈ ids,∃ el cells,σ.ent id = .blk el cells true∧cells.all PV.isV = true
theorem isV_flat {x:PV} (h:x.isV = true):Z7r x = true:=by
 cases x <;> simp [PV.isV] at h
 rfl
theorem part_inv {ids:List Nat} (hi:Inv s) (hf:FlatIds s.σ ids):Inv (s.part ids):=by
 have live:∀ {id},id ∈ ids→Live s.σ id:=fun hid => by
  obtain ⟨el,cells,h1,_⟩:=hf _ hid
  exact .inl ⟨el,cells,h1⟩
 refine ⟨fun id => ?_,fun id id' h h' he => ?_,fun id h => ?_,fun id el c h => ?_,fun id h => ?_,fun b hb => ?_⟩
 ·by_cases hid:id ∈ ids
  ·have he:=hi.ent id
   obtain ⟨el,cells,h1,h2⟩:=hf id hid
   have e1:(s.part ids).σ.ent id = .blk el cells true:=(only_in hid).trans h1
   rw [e1];rw [h1] at he;obtain ⟨cs,fr,q1,q2,q3,q4⟩:=he
   refine ⟨cs,fr,q1,q2,q3,fun j x hj => ?_⟩
   obtain ⟨u,hu,hp,ho⟩:=q4 j x hj
   refine ⟨u,hu,Z4d (fun b hb => ⟨part_imm.2 hb,rfl⟩) (isV_flat ?_) hp,ho⟩
   rw [YJ] at h2;exact h2 x (Y6 hj)
  ·have e1:(s.part ids).σ.ent id = .none:=if_neg hid
   rw [e1]
   trivial
 ·exact hi.inj id id' (Z4g.1 h).2 (Z4g.1 h').2 he
 ·obtain ⟨h1,h2⟩:=Z4g.1 h
  rintro (h3 | ⟨id',h3,h4,h5⟩)
  ·exact hi.notY id h2 h3
  ·have:=hi.inj id' id h4 h2 h5
   exact h3 (this ▸ h1)
 ·exfalso
  by_cases hid:id ∈ ids
  ·obtain ⟨el',cells,h1,_⟩:=hf id hid
   have e1:(s.part ids).σ.ent id = .blk el' cells true:=(only_in hid).trans h1
   rw [e1] at h;cases h
  ·have e1:(s.part ids).σ.ent id = .none:=if_neg hid
   rw [e1] at h;cases h
 ·show (if id ∈ ids then s.σ.ent id else .none) = .none
  split
  ·exact hi.nx id h
  ·rfl
 ·rcases hb with hb | ⟨id,_,hl,rfl⟩
  ·exact hi.Ylt b hb
  ·exact hl.lt hi
theorem part_glob {ids:List Nat} (hG:Z0W X s):Z0W X (s.part ids):=fun g cells hg => Z4d (fun b hb => ⟨part_imm.2 hb,rfl⟩) rfl (hG g cells hg)
theorem partOK_flat {σ:Heap} {args:List PV} (h:Z6R σ args = true):FlatIds σ (args.flatMap vids):=by
 intro id hid
 obtain ⟨x,hx,hv⟩:=List.mem_flatMap.1 hid
 unfold Z6R at h
 rw [YJ] at h
 have:=h x hx
 cases x with
 | buf k len sz =>
  simp only [vids,YF] at hv;subst hv;simp only at this
  split at this
  ·exact ⟨_,_,‹_›,this⟩
  ·cases this
 | ptr _ _ _ => simp [PV.pure] at this
 | view _ _ _ _ _ => simp [PV.pure] at this
 | _ => simp [vids] at hv
theorem part_pvrs {xs:List PV} {vs:Array Value} (hp:Z6R s.σ xs = true) (h:PVRs s xs vs):PVRs (s.part (xs.flatMap vids)) xs vs:=by
 refine ⟨h.1,fun i x hi => ?_⟩
 have hm:=Y6 hi
 have h2:=h.2 i x hi
 unfold Z6R at hp
 rw [YJ] at hp
 have h3:=hp x hm
 have fl:x.pure = true→PVR (s.part (xs.flatMap vids)) x (vs.getD i Go.undef):=fun hpu => Z4d (fun b hb => ⟨part_imm.2 hb,rfl⟩) (pure_flat hpu).2 h2
 cases x with
 | buf id len sz =>
  have hid:id ∈ xs.flatMap vids:=List.mem_flatMap.2 ⟨_,hm,by simp [vids]⟩
  have e1:(s.part (xs.flatMap vids)).σ.ent id = s.σ.ent id:=only_in hid
  have e2:(s.part (xs.flatMap vids)).σ.ver id = s.σ.ver id:=by simp only [Heap.ver,e1]
  generalize vs.getD i Go.undef = u at h2;cases h2 with
  | buf hb hv ho hk =>
   refine .buf ?_ (by rw [e2];exact hv) ho (fun hh => ?_)
   ·obtain ⟨el,cells,lv,h4⟩:=hb
    exact ⟨el,cells,lv,e1.trans h4⟩
   ·exact hk (by rw [← e2];exact hh)
 | nils =>
  generalize vs.getD i Go.undef = u at h2;cases h2 with
  | nils => exact .nils
 | _ => exact fl h3
theorem part_post {ids:List Nat} {q r:PV} {σ2 σ3:Heap} {v:Value} {w':World} (hi:Inv s) (hf:FlatIds s.σ ids) (h:Post (s.part ids) q σ2 v w') (hr:Z1C σ2 q = some (r,σ3))
  (hs:∀ id ∈ ids,σ3.ent id = s.σ.ent id):Post s r s.σ v w':=by
 obtain ⟨ι',h1,h2,h3⟩:=h
 obtain ⟨⟨e1,e3⟩,e2⟩:=Z8R (s:=⟨w',(s.part ids).Y,σ2,ι'⟩) hr h1 h3
 have hev:=h2.trans e3
 have loc:∀ id ∈ ids,ι' id = s.ι id∧Live σ3 id∧∀ cs e fr,s.w.heap[s.ι id]? = some (.cells cs e fr)→∃ cs' fr',w'.heap[s.ι id]? = some (.cells cs' e fr')∧cs'.size = cs.size:=fun id hid => by
  obtain ⟨el,cells,q1,q2⟩:=hf id hid
  obtain ⟨c',l',p1,p2,p3⟩:=hev.blk id el cells true ((only_in hid).trans q1)
  have p4:=hs id hid
  simp only at p1;rw [p1,q1] at p4;cases p4;obtain ⟨p5,p6⟩:=p3 rfl
  exact ⟨p5,.inl ⟨el,cells,p1⟩,p6⟩
 have kept:∀ id,id ∉ ids→(Live s.σ id∨s.imm (s.ι id))→s.ι id < s.w.heap.size→w'.heap[s.ι id]? = s.w.heap[s.ι id]?:=fun id hid hl hlt => by
  refine hev.keep _ hlt fun id' hl' he => ?_
  obtain ⟨h4,h5⟩:=Z4g.1 hl'
  rcases hl with hl | hl
  ·exact hid ((hi.inj id' id h5 hl he) ▸ h4)
  ·exact hl.2.2 id' h5 he
 have hbl:∀ id el cells lv,s.σ.ent id = .blk el cells lv→∀ cs e fr,s.w.heap[s.ι id]? = some (.cells cs e fr)→∃ cs' fr',w'.heap[s.ι id]? = some (.cells cs' e fr')∧cs'.size = cs.size:=fun id el cells lv hent cs e fr hc => by
  by_cases hid:id ∈ ids
  ·exact (loc id hid).2.2 cs e fr hc
  ·refine ⟨cs,fr,(kept id hid ?_ (Array.getElem?_eq_some_iff.1 hc).1).trans hc,rfl⟩;cases lv with
   | true => exact .inl (.inl ⟨el,cells,hent⟩)
   | false => exact .inr (hi.fz id el cells hent)
 have ev:Ev s ⟨w',s.Y,s.σ,s.ι⟩:=⟨rfl,hev.size,fun b hb hl => hev.keep b hb fun id hlo => hl id (Z4g.1 hlo).2,fun id h _ => ⟨id,h,rfl⟩,fun id el cells lv hent => ⟨cells,lv,hent,YB _,fun _ => ⟨rfl,hbl id el cells lv hent⟩⟩,fun id fn e n ps as_ bo st pend h => ⟨⟨st,pend,h⟩,rfl⟩,fun id kv h => ⟨⟨kv,h⟩,rfl⟩,hev.os,hev.tape,hev.output⟩
 have im:∀ b,St.imm ⟨w',(s.part ids).Y,σ3,ι'⟩ b→St.imm ⟨w',s.Y,s.σ,s.ι⟩ b:=fun b hb => by
  obtain ⟨q1,q2,q3⟩:=hb
  simp only [St.part,not_or,not_exists,not_and] at q2;refine ⟨q1,q2.1,fun id hl => ?_⟩
  by_cases hid:id ∈ ids
  ·obtain ⟨p1,p2,_⟩:=loc id hid
   have:=q3 id p2
   simp only at this ⊢;rw [← p1];exact this
  ·exact q2.2 id hid hl
 refine ⟨s.ι,⟨fun id => ?_,hi.inj,hi.notY,fun id el c h => (ev.imm _ (hi.fz id el c h)).1,hi.nx,fun b hb => YU (hi.Ylt b hb) hev.size⟩,ev,flat_pvr (s:=⟨w',(s.part ids).Y,σ3,ι'⟩) (fun b hb => ⟨im b hb,rfl⟩) (ZBT hr) e2⟩
 by_cases hid:id ∈ ids
 ·have he:=e1.ent id
  obtain ⟨el,cells,q1,q2⟩:=hf id hid
  simp only at he ⊢;rw [hs id hid,q1] at he;rw [q1];obtain ⟨cs,fr,p1,p2,p3,p4⟩:=he
  simp only [(loc id hid).1] at p1;refine ⟨cs,fr,p1,p2,p3,fun j x hj => ?_⟩
  obtain ⟨u,hu,hp,ho⟩:=p4 j x hj
  rw [YJ] at q2;exact ⟨u,hu,Z4d (fun b hb => ⟨im b hb,rfl⟩) (isV_flat (q2 x (Y6 hj))) hp,ho⟩
 ·have he:=hi.ent id
  simp only;cases hent:s.σ.ent id with
  | none => trivial
  | blk el' c lv =>
   rw [hent] at he;obtain ⟨cs,fr,q1,q2,q3,q4⟩:=he
   have hk:=kept id hid (by
    cases lv with
    | true => exact .inl (.inl ⟨el',c,hent⟩)
    | false => exact .inr (hi.fz id el' c hent)) (Array.getElem?_eq_some_iff.1 q1).1
   exact ⟨cs,fr,hk.trans q1,q2,q3,fun j x hj => by
    obtain ⟨u,hu,hp,ho⟩:=q4 j x hj
    exact ⟨u,hu,ev.pvr hp,ho⟩⟩
  | loop fn' e' n' ps' as' bo' st' pend' =>
   rw [hent] at he;obtain ⟨fn2,tmps,defers,q1,q2,q3⟩:=he
   have hk:=kept id hid (.inl (.inr (.inl ⟨_,_,_,_,_,_,_,_,hent⟩))) (Array.getElem?_eq_some_iff.1 q1).1
   exact ⟨fn2,tmps,defers,hk.trans q1,q2,fun t => ev.pvr (q3 t)⟩
  | map kv =>
   rw [hent] at he;exact (kept id hid (.inl (.inr (.inr ⟨kv,hent⟩))) (Array.getElem?_eq_some_iff.1 he).1).trans he
theorem ZC8:∀ {ps:List Nat} {xs:List PV} {us:List Value} {e:Env} {a:Act},EnvR s n e a→xs.length = us.length→(∀ (i:Nat) (x:PV),xs[i]? = some x→PVR s x ((us[i]?).getD Go.undef)) →
  EnvR s n (Z4v e n ps xs) { a with tmps:=(ps.zip us).foldl (fun tmps (t,a) => tmps.setIfInBounds t a) a.tmps }
 | [],_,_,_,_,he,_,_ => by simpa [Z4v] using he
 | p :: ps,[],[],_,_,he,_,_ => by simpa [Z4v] using he
 | p :: ps,x :: xs,u :: us,e,a,he,hl,hx => by
  have h0:=hx 0 x (by simp)
  have h1:=he.put (dst:=some p) (x:=x) (v:=u) (by simpa using h0)
  have:=ZC8 (ps:=ps) (xs:=xs) (us:=us) h1 (by simpa using hl) (fun i y hy => by have:=hx (i + 1) y (by simpa using hy);simpa using this)
  simpa [Z4v,Act.put] using this
 | _ :: _,[],_ :: _,_,_,_,hl,_ => by simp at hl
 | _ :: _,_ :: _,[],_,_,_,hl,_ => by simp at hl
structure CtxOK (X:Ctx):Prop where
 prog:ProgOK X.P
 intr:IntrOK X
theorem Z9l {s':St} (hi:Inv s') {id:Nat} {fn:FuncId} {e:Env} {ps:List Nat} {as_ bo:Code} {st:LoopState} {pend:Option Code} (h:s'.σ.ent id = .loop fn e n ps as_ bo st pend) :
  id < s'.σ.nx∧∃ fn' tmps defers,s'.w.heap[s'.ι id]? = some (.loop { state:=st,pending:=pend,fn:=fn',tmps:=tmps,params:=ps.toArray,assign:=as_,body:=bo,defers:=defers })∧tmps.size = n∧∀ t,PVR s' (e t) (tmps.getD t Go.undef):=by
 refine ⟨?_,LPut.old_rec hi h⟩
 rcases YI id s'.σ.nx with h' | h'
 ·exact h'
 ·have:=hi.nx _ h'
  rw [h] at this;cases this
theorem callD_ok (hX:CtxOK X):∀ k,Z59 X (Z0b X k)
 | 0 => fun c args r σ' s h => by cases c <;> simp [Z0b] at h
 | k + 1 => fun c args r σ' s h hi hG vs hv => by
  have ih:=callD_ok hX k
  have it:=Z9j (X:=X) k
  have ip:=Z9c (X:=X) k
  have body:=fun {s:St} {f:FuncId} {args:List PV} {vs:Array Value} {r:PV} {σ':Heap} => body_ok (X:=X) (s:=s) hX.prog.mixed hX.prog.names ih it ip (lf:=k) (f:=f) (args:=args) (vs:=vs) (r:=r) (σ':=σ')
  cases c with
  | fn f =>
   simp only
   rcases callD_fn h with ⟨h1,hp,rfl⟩ | ⟨args',σ1,h1,h2⟩
   ·exact hX.intr f args r h1 s hi hG vs hv hp
   ·have t1:Exp s σ1∧PVRs ⟨s.w,s.Y,σ1,s.ι⟩ args' vs:=by
     rcases h1 with ⟨_,rfl,rfl⟩ | h1
     ·exact ⟨Exp.refl hi,hv⟩
     ·obtain ⟨e1,e2,e3⟩:=Z9A args s (fun j => vs.getD j Go.undef) args' σ1 h1 hi hv.2
      exact ⟨e1,by rw [e2];exact hv.1,e3⟩
    obtain ⟨⟨i1,ev1⟩,v1⟩:=t1
    have post:∀ {r:PV} {σ':Heap} {v:Value} {w':World},Post ⟨s.w,s.Y,σ1,s.ι⟩ r σ' v w'→Post s r σ' v w':=fun ⟨ι',p1,p2,p3⟩ => ⟨ι',p1,ev1.trans p2,p3⟩
    rcases h2 with ⟨hin,hp,rfl⟩ | ⟨_,h2⟩ | ⟨_,hp,rfl | ⟨rfl,hn⟩,q,σ2,σ3,h2,h3⟩ | ⟨_,_,q,σ2,h2,h3⟩ | ⟨_,_,hpt,rfl,q,σ2,σ3,h2,h3,h4⟩
    ·obtain ⟨b1,b2⟩:=hX.intr f args' r hin ⟨s.w,s.Y,σ',s.ι⟩ i1 (hG.mono ev1) vs v1 hp
     exact ⟨b1,b2.mono fun en w' ⟨v,e,p⟩ => ⟨v,e,post p⟩⟩
    ·obtain ⟨b1,b2⟩:=body (s:=⟨s.w,s.Y,σ1,s.ι⟩) i1 (hG.mono ev1) v1 h2
     exact ⟨b1,b2.mono fun en w' ⟨v,e,p⟩ => ⟨v,e,post p⟩⟩
    ·obtain ⟨b1,b2⟩:=body (s:=St.under ⟨s.w,s.Y,σ',s.ι⟩) (Z8Q i1) (ZCt (hG.mono ev1)) (ZCI hp v1) h2
     exact ⟨b1,b2.mono fun en w' ⟨v,e,p⟩ => ⟨v,e,post (Z9F i1 p h3)⟩⟩
    ·obtain ⟨b1,b2⟩:=body (s:=St.under ⟨s.w,s.Y,σ1,s.ι⟩) (Z8Q i1) (ZCt (hG.mono ev1)) (ZCI hp v1) h2
     exact ⟨b1,b2.mono fun en w' ⟨v,e,p⟩ => ⟨v,e,under_thaw hi p h3 hn⟩⟩
    ·obtain ⟨b1,b2⟩:=body (s:=⟨s.w,s.Y,σ1,s.ι⟩) i1 (hG.mono ev1) v1 h2
     refine ⟨b1,b2.mono fun en w' ⟨v,e,p⟩ => ⟨v,e,post ?_⟩⟩
     obtain ⟨ι',p1,p2,p3⟩:=p
     obtain ⟨⟨x1,x2⟩,x3⟩:=Z8R (s:=⟨w',s.Y,σ2,ι'⟩) h3 p1 p3
     exact ⟨ι',x1,p2.trans x2,x3⟩
    ·have hfl:=partOK_flat hpt
     obtain ⟨b1,b2⟩:=body (s:=St.part ⟨s.w,s.Y,σ',s.ι⟩ (args'.flatMap vids)) (part_inv i1 hfl) (part_glob (hG.mono ev1)) (part_pvrs (s:=⟨s.w,s.Y,σ',s.ι⟩) hpt v1) h2
     exact ⟨b1,b2.mono fun en w' ⟨v,e,p⟩ => ⟨v,e,post (part_post i1 hfl p h3 h4)⟩⟩
  | yld id =>
   simp only;obtain ⟨fn,e,n,ps,as_,bo,args',σ1,e1,σ2,pend,x,e3,σ3,hen,hlen,ha,h1,⟨fn',e',n',ps',as',bo',h2⟩,h3,h4⟩:=callD_yld h
   obtain ⟨hnx,f0,tm,df,q1,q2,q3⟩:=Z9l hi hen
   obtain ⟨⟨i1,ev1⟩,l1,v1⟩:=Z9A args s (fun j => vs.getD j Go.undef) args' σ1 ha hi hv.2
   have hsz:vs.size = ps.length:=by rw [hlen];exact hv.1.symm
   refine ⟨_,_,_,_,_,run_yield q1 (by simpa using hsz),fun m => ?_⟩
   refine roundIn_of_wpIn trivial ?_;have he0:EnvR ⟨s.w,s.Y,σ1,s.ι⟩ n e { tmps:=tm,defers:=[] }:=⟨q2,fun t => ev1.pvr (q3 t)⟩
   have he1:=ZC8 (ps:=ps) (xs:=args') (us:=vs.toList) he0 (by rw [l1,hv.1];simp) (fun i y hy => by
    have:=v1 i y hy
    simpa [Y7] using this)
   have hfold:(ps.toArray.zip vs).foldl (fun tmps (x:Nat × Value) => tmps.setIfInBounds x.1 x.2) tm = (ps.zip vs.toList).foldl (fun tmps (x:Nat × Value) => tmps.setIfInBounds x.1 x.2) tm:=by
    rw [← Y15]
    simp
   have hrd:RdOK (some (s.ι id)) ⟨s.w,s.Y,σ1,s.ι⟩:=fun l hl => by
    cases hl;obtain ⟨⟨st',pend',e4⟩,e5⟩:=ev1.loop _ _ _ _ _ _ _ _ _ hen
    exact ⟨id,⟨_,_,_,_,_,_,_,_,e4⟩,rfl⟩
   have he2:EnvR ⟨s.w,s.Y,σ1,s.ι⟩ n (Z4v e n ps args') { tmps:=(ps.toArray.zip vs).foldl (fun tmps (x:Nat × Value) => tmps.setIfInBounds x.1 x.2) tm,defers:=[] }:=by
    rw [hfold];exact he1
   refine code_ok (rd:=some (s.ι id)) hX.prog.mixed ih it ip as_ (s:=⟨s.w,s.Y,σ1,s.ι⟩) (hG.mono ev1) i1 he2 hrd h1 fun a1 w1 ι1 ht => ?_
   simp only [Ex.out,Exit.then];have evA:=ev1.trans ht.ev
   obtain ⟨⟨stA,pendA,eA⟩,hιA⟩:=evA.loop _ _ _ _ _ _ _ _ _ hen
   simp only at eA hιA;rw [h2] at eA
   injection eA with a1' a2 a3 a4 a5 a6 a7 a8
   subst a1' a2 a3 a4 a5 a6 a7 a8;obtain ⟨hnx2,f2,tm2,df2,r1,r2,r3⟩:=Z9l (s':=⟨w1,s.Y,σ2,ι1⟩) ht.inv h2
   simp only [hιA] at r1;have hpB:LPut ⟨w1,s.Y,σ2,ι1⟩ id fn' e' n' ps' as' bo' .busy pend (s.ι id) (w1.putObj (s.ι id) (.loop { state:=.busy,pending:=pend,fn:=f2,tmps:=tm2,params:=ps'.toArray,assign:=as',body:=bo',defers:=df2 })) :=
    ⟨.inr ⟨⟨_,_,h2⟩,hιA.symm⟩,by simp,fun b _ hb => World.putObj_heap_other hb,⟨f2,tm2,df2,World.putObj_heap_same (Array.getElem?_eq_some_iff.1 r1).1,r2,r3⟩,hnx2,rfl,rfl,rfl⟩
   have iB:=hpB.inv ht.inv
   have evB:=evA.trans (hpB.ev ht.inv)
   refine ⟨_,run_beginRound r1 rfl,?_⟩;refine code_ok (rd:=some (s.ι id)) hX.prog.mixed ih it ip bo' (s:=(St.lput ⟨w1,s.Y,σ2,ι1⟩ id (.loop fn' e' n' ps' as' bo' .busy pend) (s.ι id) _)) (hG.mono evB) iB (ht.env.mono (hpB.ev ht.inv)) ((hrd.mono ht.ev).mono (hpB.ev ht.inv)) h3 fun a3 w3 ι3 ht3 => ?_
   have evC:=evB.trans ht3.ev
   obtain ⟨⟨stC,pendC,eC⟩,hιC⟩:=evC.loop _ _ _ _ _ _ _ _ _ hen
   simp only at eC hιC;obtain ⟨hnx3,f3,tm3,df3,u1,u2,u3⟩:=Z9l (s':=⟨w3,s.Y,σ3,ι3⟩) ht3.inv eC
   simp only [hιC] at u1;have fin:∀ (jump:Option Code) (b:Bool),b = jump.isNone→∃ v w',(Instr.endRound (s.ι id) jump).run X.P w3 = .ok v w'∧∃ v',Ending.returned v = .returned v'∧Post s (.v (.bool b)) (σ3.put id (.loop fn' e' n' ps' as' bo' (if jump.isNone then .ready else .done) jump)) v' w':=by
    intro jump b hb;have hpC:LPut ⟨w3,s.Y,σ3,ι3⟩ id fn' e' n' ps' as' bo' (if jump.isNone then .ready else .done) jump (s.ι id) (w3.putObj (s.ι id) (.loop { state:=if jump.isNone then .ready else .done,pending:=jump,fn:=f3,tmps:=tm3,params:=ps'.toArray,assign:=as',body:=bo',defers:=df3 })) :=
     ⟨.inr ⟨⟨_,_,eC⟩,hιC.symm⟩,by simp,fun b _ hb => World.putObj_heap_other hb,⟨f3,tm3,df3,World.putObj_heap_same (Array.getElem?_eq_some_iff.1 u1).1,u2,u3⟩,hnx3,rfl,rfl,rfl⟩
    subst hb;exact ⟨_,_,run_endRound jump u1,_,rfl,_,hpC.inv ht3.inv,evC.trans (hpC.ev ht3.inv),.v (.bool _)⟩
   rcases h4 with ⟨rfl,rfl,rfl⟩ | ⟨t,rfl,rfl,rfl⟩ | ⟨rfl,rfl,rfl⟩
   ·exact fin none true rfl
   ·exact fin (some (.exit t)) false rfl
   ·exact fin (some .ret) false rfl
end Go.Dn

namespace Go.Dn
open Go
def App {α:Type} (F:Nat→Option α) (r:Option α):Prop:=∀ a,r = some a→∃ K,∀ k,K≤k→F k = some a
theorem App.const {α:Type} (r:Option α):App (fun _ => r) r:=fun _ h => ⟨0,fun _ _ => h⟩
theorem App.bind {α β:Type} {F:Nat→Option α} {r:Option α} {G:Nat→α→Option β} {g:α→Option β} (h:App F r) (hg:∀ a,App (fun k => G k a) (g a)):App (fun k => (F k).bind (G k)) (r.bind g):=fun b hb => by
 rw [Y4] at hb
 obtain ⟨a,ha,hb⟩:=hb
 obtain ⟨K1,h1⟩:=h a ha
 obtain ⟨K2,h2⟩:=hg a b hb
 exact ⟨max K1 K2,fun k hk => by show (F k).bind (G k) = _;rw [h1 k (by omega)];exact h2 k (by omega)⟩
theorem App.map {α β:Type} {F:Nat→Option α} {r:Option α} (h:App F r) (g:α→β):App (fun k => (F k).map g) (r.map g):=fun b hb => by
 rw [Y1] at hb
 obtain ⟨a,ha,rfl⟩:=hb
 obtain ⟨K1,h1⟩:=h a ha
 exact ⟨K1,fun k hk => by show (F k).map g = _;rw [h1 k hk];rfl⟩
def AppC (F:Nat→Z05) (c:Z05):Prop:=∀ f args σ,App (fun k => F k f args σ) (c f args σ)
variable {X:Ctx} {n:Nat} {F:Nat→Z05} {call:Z05}
theorem callOp_app (hc:AppC F call) {e:Env} {σ:Heap} {id0:Nat} {c:Call}:App (fun k => Zx X (F k) e σ id0 c) (Zx X call e σ id0 c):=by
 intro a h
 unfold Zx at h
 split at h
 ·cases h
 ·rename_i args hargs
  split at h
  ·rename_i b hb;exact ⟨0,fun k _ => by simp only [Zx,hargs,hb];exact h⟩
  ·cases h
  ·rename_i f hf
   split at h
   ·rename_i g hg;obtain ⟨K,hK⟩:=hc _ _ _ _ h
    exact ⟨K,fun k hk => by simp only [Zx,hargs,hf,hg];exact hK k hk⟩
   ·rename_i g fi ca hg;obtain ⟨K,hK⟩:=hc _ _ _ _ h
    exact ⟨K,fun k hk => by simp only [Zx,hargs,hf,hg];exact hK k hk⟩
   ·rename_i id hg;obtain ⟨K,hK⟩:=hc _ _ _ _ h
    exact ⟨K,fun k hk => by simp only [Zx,hargs,hf,hg];exact hK k hk⟩
   ·cases h
theorem ZC9 (hc:AppC F call) {e:Env} {σ:Heap} {id0:Nat} {op:Op}:App (fun k => Z5 X (F k) e σ id0 op) (Z5 X call e σ id0 op):=by
 cases op <;> first | exact callOp_app hc | exact App.const _ | (rename_i g _ _;cases g <;> exact App.const _) | (rename_i _ g;cases g <;> exact App.const _)
theorem ZAo (hc:AppC F call) {ops:Array Oper} {base i:Nat} {o:Oper} {e:Env} {σ:Heap}:App (fun k => Z0s X (F k) n ops base i o e σ) (Z0s X call n ops base i o e σ):=by
 intro a h
 unfold Z0s at h
 split at h
 ·rename_i hw;obtain ⟨K,hK⟩:=(ZC9 (X:=X) hc).bind (G:=fun _ r => some (putD n e o.dst r.1,r.2)) (fun r => App.const _) a h
  exact ⟨K,fun k hk => by simp only [Z0s,hw];exact hK k hk⟩
 ·rename_i hw;exact ⟨0,fun k _ => by simp only [Z0s,hw];exact h⟩
 ·cases h
theorem ZCe (hc:AppC F call) {ops:Array Oper} {base:Nat}:∀ (l:List Oper) (i:Nat) (e:Env) (σ:Heap),App (fun k => Z2Q X (F k) n ops base i l e σ) (Z2Q X call n ops base i l e σ)
 | [],_,_,_ => App.const _
 | o :: l,i,_,_ => (ZAo hc).bind fun r => ZCe hc l (i + 1) r.1 r.2
theorem Z7q {call:Z05} {e:Env} {σ:Heap} {id id':Nat} {op:Op} (h:Zs op = .call):Z5 X call e σ id op = Z5 X call e σ id' op:=by
 cases op <;> simp only [Zs] at h <;> (try (cases h;done))
 case makeFunc fn _ _ => cases fn <;> cases h
 case binOp op _ _ _ _ => cases op <;> cases h
 case call c =>
  simp only [Z5,Zx];cases hc:c.callee with
  | builtin b => rw [hc] at h;cases b <;> cases h
  | _ => rfl
theorem stepW_app (hc:AppC F call) {ops:Array Oper} {base i:Nat} {o:Oper} {e:Env} {σ:Heap}:App (fun k => Z0c X (F k) n ops base i o e σ) (Z0c X call n ops base i o e σ):=by
 intro a h
 unfold Z0c at h
 split at h
 ·rename_i hw
  split at h
  ·rename_i hs;obtain ⟨K,hK⟩:=ZAo (X:=X) hc a h
   -- what the call comes to is the same from some fuel on
   unfold Z0s at h;rw [hw.1] at h;simp only [Y4] at h;obtain ⟨⟨x,σ1⟩,h1,_⟩:=h
   obtain ⟨K2,hK2⟩:=ZC9 (X:=X) hc (x,σ1) h1
   refine ⟨max K K2,fun k hk => ?_⟩
   have hs2:Z4j X (F k) ops base i o e σ:=by
    refine ⟨hs.1,hs.2.imp id fun hs2 => ⟨hs2.1,fun id r σ' hr k' hk' => ?_⟩⟩
    have e1:=hK2 k (by omega)
    have e2:Z5 X (F k) e σ id o.op = some (x,σ1):=by rw [Z7q hs.1];exact e1
    rw [e2] at hr;cases hr;exact hs2.2 _ _ _ h1 k' hk'
   simp only [Z0c];rw [if_pos hw,if_pos hs2];exact hK k (by omega)
  ·cases h
 ·rename_i hw;obtain ⟨K,hK⟩:=ZAo (X:=X) hc a h
  exact ⟨K,fun k hk => by simp only [Z0c,if_neg hw];exact hK k hk⟩
theorem ZBe (hc:AppC F call) {ops:Array Oper} {base:Nat}:∀ (l:List Oper) (i:Nat) (e:Env) (σ:Heap),App (fun k => Z1U X (F k) n ops base i l e σ) (Z1U X call n ops base i l e σ)
 | [],_,_,_ => App.const _
 | o :: l,i,_,_ => (stepW_app hc).bind fun r => ZBe hc l (i + 1) r.1 r.2
theorem Z51 (hc:AppC F call) {lf:Nat} {L:Nat→Nat} (hL:∃ K,∀ k,K≤k→lf≤L k) {fn:FuncId}:∀ (c:Code) (e:Env) (σ:Heap),App (fun k => ZD X (F k) (L k) n fn c e σ) (ZD X call lf n fn c e σ):=by
 intro c
 induction c with
 | skip => intro e σ;exact App.const _
 | label l => intro e σ;exact App.const _
 | scope c ih => intro e σ;simp only [ZD];exact ih e σ
 | region id ops draw =>
  intro e σ;cases draw with
  | false => simp only [ZD,YA,if_false];exact (ZCe hc _ _ _ _).map _
  | true =>
   by_cases hd:Z4Y ops = true
   ·simp only [ZD,if_true,hd];exact (ZBe hc _ _ _ _).map _
   ·simp only [ZD,if_true,if_neg hd];exact App.const _
 | seq a b iha ihb =>
  intro e σ out h;simp only [ZD] at h
  split at h
  ·rename_i e1 σ1 h1;obtain ⟨K1,q1⟩:=iha e σ _ h1
   obtain ⟨K2,q2⟩:=ihb e1 σ1 _ h
   exact ⟨max K1 K2,fun k hk => by simp only [ZD,q1 k (by omega)];exact q2 k (by omega)⟩
  ·rename_i hn;obtain ⟨K1,q1⟩:=iha e σ _ h
   refine ⟨K1,fun k hk => ?_⟩
   simp only [ZD,q1 k hk]
   split
   ·rename_i heq;rw [h] at hn;cases heq;exact absurd rfl (hn _ _)
   ·rfl
 | cond c a b iha ihb =>
  intro e σ out h;simp only [ZD] at h
  split at h
  ·rename_i h1;obtain ⟨K1,q1⟩:=iha e σ _ h
   exact ⟨K1,fun k hk => by simp only [ZD,h1];exact q1 k hk⟩
  ·rename_i h1;obtain ⟨K1,q1⟩:=ihb e σ _ h
   exact ⟨K1,fun k hk => by simp only [ZD,h1];exact q1 k hk⟩
  ·cases h
 | block id c ih =>
  intro e σ out h;simp only [ZD] at h
  split at h
  ·rename_i id' e1 σ1 h1;obtain ⟨K1,q1⟩:=ih e σ _ h1
   exact ⟨K1,fun k hk => by simp only [ZD,q1 k hk];exact h⟩
  ·rename_i hn;obtain ⟨K1,q1⟩:=ih e σ _ h
   refine ⟨K1,fun k hk => ?_⟩
   simp only [ZD,q1 k hk]
   split
   ·rename_i heq;rw [h] at hn;cases heq;exact absurd rfl (hn _ _ _)
   ·rfl
 | loop c ih =>
  intro e σ out h;simp only [ZD] at h;have key:∀ (m:Nat) (e:Env) (σ:Heap),Z1x (ZD X call lf n fn c) m e σ = some out→∃ K,∀ k,K≤k→∀ m',m≤m'→Z1x (ZD X (F k) (L k) n fn c) m' e σ = some out:=by
   intro m
   induction m with
   | zero => intro e σ h;simp [Z1x] at h
   | succ m ihm =>
    intro e σ h;simp only [Z1x] at h
    split at h
    ·rename_i e1 σ1 h1;obtain ⟨K1,q1⟩:=ih e σ _ h1
     obtain ⟨K2,q2⟩:=ihm e1 σ1 h
     refine ⟨max K1 K2,fun k hk m' hm' => ?_⟩
     obtain ⟨m',rfl⟩ : ∃ j,m' = j + 1:=⟨m' - 1,by omega⟩
     simp only [Z1x,q1 k (by omega)]
     exact q2 k (by omega) m' (by omega)
    ·rename_i hn;obtain ⟨K1,q1⟩:=ih e σ _ h
     refine ⟨K1,fun k hk m' hm' => ?_⟩
     obtain ⟨m',rfl⟩ : ∃ j,m' = j + 1:=⟨m' - 1,by omega⟩
     simp only [Z1x,q1 k hk]
     split
     ·rename_i heq;rw [h] at hn;cases heq;exact absurd rfl (hn _ _)
     ·rfl
  obtain ⟨K1,q1⟩:=key lf e σ h
  obtain ⟨K2,q2⟩:=hL
  exact ⟨max K1 K2,fun k hk => by simp only [ZD];exact q1 k (by omega) (L k) (q2 k (by omega))⟩
 | exit id => intro e σ;exact App.const _
 | ret => intro e σ;exact App.const _
 | rangeFunc g ps as_ bo _ _ =>
  intro e σ out h;simp only [ZD] at h ⊢
  split at h
  ·rename_i gv hg;have fin:∀ (f:Callee) (args:List PV) (σ1:Heap),(match call f args σ1 with
     | some (_,σ2) =>
      match σ2.ent σ.nx with
      | .loop fn' e' n' ps' as' bo' st pend =>
       if st = LoopState.busy then none else
       match Z6v pend with
       | some x => some (x,e,σ2.put σ.nx (.loop fn' e' n' ps' as' bo' .exhausted pend))
       | none => none
      | _ => none
     | none => none) = some out→∃ K,∀ k,K≤k→(match F k f args σ1 with
     | some (_,σ2) =>
      match σ2.ent σ.nx with
      | .loop fn' e' n' ps' as' bo' st pend =>
       if st = LoopState.busy then none else
       match Z6v pend with
       | some x => some (x,e,σ2.put σ.nx (.loop fn' e' n' ps' as' bo' .exhausted pend))
       | none => none
      | _ => none
     | none => none) = some out:=by
    intro f args σ1 h;cases hr:call f args σ1 with
    | none => rw [hr] at h;cases h
    | some r =>
     rw [hr] at h;obtain ⟨K,hK⟩:=hc _ _ _ _ hr
     exact ⟨K,fun k hk => by have hk':F k f args σ1 = some r:=hK k hk;rw [hk'];exact h⟩
   cases gv with
   | v y =>
    cases y with
    | fn f => simp only [hg];exact fin _ _ _ h
    | _ => simp at h
   | clo f first caps => simp only [hg];exact fin _ _ _ h
   | _ => simp at h
  ·cases h
 | _ => intro e σ out h;simp [ZD] at h
theorem Z8Y (hc:AppC F call) {lf:Nat} {L:Nat→Nat} (hL:∃ K,∀ k,K≤k→lf≤L k) {f:FuncId} {args:List PV} {σ:Heap}:App (fun k => Z1R X (F k) (L k) f args σ) (Z1R X call lf f args σ):=by
 intro out h
 unfold Z1R at h
 split at h
 ·cases h
 ·rename_i fn hfn
  split at h
  ·cases h
  ·rename_i c hb
   split at h
   ·rename_i h1;obtain ⟨K,hK⟩:=Z51 hc hL c _ _ _ h1
    exact ⟨K,fun k hk => by simp only [Z1R,hfn,hb,hK k hk];exact h⟩
   ·rename_i h1;obtain ⟨K,hK⟩:=Z51 hc hL c _ _ _ h1
    exact ⟨K,fun k hk => by simp only [Z1R,hfn,hb,hK k hk];exact h⟩
   ·cases h
noncomputable def Z5Z (X:Ctx) (call:Z05) (lf:Nat):Z05
 | .fn f,args,σ =>
  match X.intr f args with
  | some r => if args.all PV.pure then some (r,σ) else none
  | none =>
   match (if X.keep f then some (args,σ) else Z13 σ args) with
   | none => none
   | some (args,σ1) =>
    match X.intr f args with
    | some r => if args.all PV.pure then some (r,σ1) else none
    | none =>
    if X.opn f then Z1R X call lf f args σ1
    else if args.all PV.pure then (Z1R X call lf f args Heap.empty).bind fun r => (Z1C r.2 r.1).map fun s => (s.1,if X.thaw f && s.1.Z8E then σ else σ1)
    else if X.keep f && X.shut f then
     if Z6R σ1 args then (Z1R X call lf f args (σ1.only (args.flatMap vids))).bind fun r => (Z1C r.2 r.1).bind fun s => @ite _ (∀ id ∈ args.flatMap vids,s.2.ent id = σ1.ent id) (Classical.propDecidable _) (some (s.1,σ1)) none else none
    else (Z1R X call lf f args σ1).bind fun r => Z1C r.2 r.1
 | .yld id,args,σ =>
  match σ.ent id with
  | .loop fn e n ps as_ bo .ready none =>
   if ps.length = args.length then
    match Z13 σ args with
    | none => none
    | some (args,σ) =>
    match ZD X call lf n fn as_ (Z4v e n ps args) σ with
    | some (.normal,e1,σ1) =>
     match σ1.ent id with
     | .loop _ _ _ _ _ _ .ready pend =>
      match ZD X call lf n fn bo e1 (σ1.put id (.loop fn e n ps as_ bo .busy pend)) with
      | some (x,_,σ2) =>
       match x with
       | .normal => some (.v (.bool true),σ2.put id (.loop fn e n ps as_ bo .ready none))
       | .exit t => some (.v (.bool false),σ2.put id (.loop fn e n ps as_ bo .done (some (.exit t))))
       | .ret => some (.v (.bool false),σ2.put id (.loop fn e n ps as_ bo .done (some .ret)))
      | none => none
     | _ => none
    | _ => none
   else none
  | _ => none
theorem Z9B (k:Nat):Z0b X (k + 1) = Z5Z X (Z0b X k) k:=by
 funext c args σ
 cases c <;> (simp only [Z0b,Z5Z];rfl)
theorem callS_app (hc:AppC F call) {lf:Nat} {L:Nat→Nat} (hL:∃ K,∀ k,K≤k→lf≤L k):AppC (fun k => Z5Z X (F k) (L k)) (Z5Z X call lf):=by
 intro c args σ
 cases c with
 | fn f =>
  simp only [Z5Z]
  split
  ·exact App.const _
  ·split
   ·exact App.const _
   ·split
    ·exact App.const _
    ·split
     ·exact Z8Y hc hL
     ·split
      ·exact (Z8Y hc hL).bind fun r => App.const _
      ·split
       ·split
        ·exact (Z8Y hc hL).bind fun r => App.const _
        ·exact App.const _
       ·exact (Z8Y hc hL).bind fun r => App.const _
 | yld id =>
  simp only [Z5Z]
  split
  ·split
   ·split
    ·exact App.const _
    ·rename_i fn e n ps as_ bo _ _ _ args' σ1 _;intro out h
     split at h
     ·rename_i e1 σ2 h1;obtain ⟨K1,q1⟩:=Z51 hc hL _ _ _ _ h1
      split at h
      ·rename_i h2
       split at h
       ·rename_i x e3 σ3 h3;obtain ⟨K2,q2⟩:=Z51 hc hL _ _ _ _ h3
        exact ⟨max K1 K2,fun k hk => by simp only [q1 k (by omega),h2,q2 k (by omega)];exact h⟩
       ·cases h
      ·cases h
     ·cases h
   ·exact App.const _
  ·exact App.const _
theorem ZBV:∀ k,AppC (fun _ => Z0b X (k + 1)) (Z0b X k)
 | 0 => fun c args σ out h => by cases c <;> simp [Z0b] at h
 | k + 1 => by
  have ih:=callS_app (X:=X) (ZBV k) (lf:=k) (L:=fun _ => k + 1) ⟨0,fun _ _ => Nat.le_succ k⟩
  rw [Z9B k];rw [Z9B (k + 1)];exact ih
theorem Z9V {k k':Nat} (h:k≤k') {c:Callee} {args:List PV} {σ:Heap} {r:PV × Heap} (hr:Z0b X k c args σ = some r):Z0b X k' c args σ = some r:=by
 induction h with
 | refl => exact hr
 | @step m _ ih =>
  obtain ⟨K,hK⟩:=ZBV m c args σ r ih
  exact hK K (YB _)
open Classical in
noncomputable def Z0M (X:Ctx):Z05:=fun c args σ => if h:∃ r,∃ k,Z0b X k c args σ = some r then some h.choose else none
theorem Z2O {c:Callee} {args:List PV} {σ:Heap} {r:PV × Heap}:Z0M X c args σ = some r ↔ ∃ k,Z0b X k c args σ = some r:=by
 unfold Z0M
 constructor
 ·intro h
  split at h
  ·rename_i hex;cases h;exact hex.choose_spec
  ·cases h
 ·rintro ⟨k,h⟩;have hex:∃ r,∃ k,Z0b X k c args σ = some r:=⟨r,k,h⟩
  rw [dif_pos hex];obtain ⟨k',h'⟩:=hex.choose_spec
  have e1:=Z9V (Y14 k k') h
  have e2:=Z9V (Y10 k k') h'
  rw [e1] at e2;exact e2.symm
theorem callL_app:AppC (fun k => Z0b X k) (Z0M X):=fun c args σ r h => by
 obtain ⟨k,hk⟩:=Z2O.1 h
 exact ⟨k,fun k' hk' => Z9V hk' hk⟩
theorem Z36 {lf:Nat} {c:Callee} {args:List PV} {σ:Heap} {r:PV × Heap} (h:Z5Z X (Z0M X) lf c args σ = some r):Z0M X c args σ = some r:=by
 obtain ⟨K,hK⟩:=callS_app (X:=X) callL_app (lf:=lf) (L:=fun k => k) ⟨lf,fun k hk => hk⟩ c args σ r h
 exact Z2O.2 ⟨K + 1,by rw [Z9B];exact hK K (YB _)⟩
structure Runs (X:Ctx) (n:Nat) (fn:FuncId) (c:Code) (e:Env) (σ:Heap) (Q:Ex→Env→Heap→Prop):Prop where
 run:∃ lf x e' σ',ZD X (Z0M X) lf n fn c e σ = some (x,e',σ')∧Q x e' σ'
variable {fn:FuncId} {c a b:Code} {e:Env} {σ:Heap} {Q:Ex→Env→Heap→Prop}
theorem Z1L {lf lf':Nat} (h:lf≤lf') {out:Out} (hr:ZD X call lf n fn c e σ = some out):ZD X call lf' n fn c e σ = some out:=by
 obtain ⟨K,hK⟩:=Z51 (F:=fun _ => call) (fun f args σ => App.const _) (lf:=lf) (L:=fun _ => lf') ⟨0,fun _ _ => h⟩ c e σ out hr
 exact hK K (YB _)
theorem Runs.skip (h:Q .normal e σ):Runs X n fn .skip e σ Q:=⟨0,_,_,_,rfl,h⟩
theorem Runs.exit {id:Nat} (h:Q (.exit id) e σ):Runs X n fn (.exit id) e σ Q:=⟨0,_,_,_,rfl,h⟩
theorem Runs.ret (h:Q .ret e σ):Runs X n fn .ret e σ Q:=⟨0,_,_,_,rfl,h⟩
theorem Runs.label {l:Nat} (h:Q .normal e σ):Runs X n fn (.label l) e σ Q:=⟨0,_,_,_,rfl,h⟩
theorem Runs.scope (h:Runs X n fn c e σ Q):Runs X n fn (.scope c) e σ Q:=by
 obtain ⟨l1,x,e1,σ1,h1,h2⟩:=h.run
 exact ⟨l1,x,e1,σ1,by simp only [ZD];exact h1,h2⟩
theorem Runs.seq (h:Runs X n fn a e σ fun x e' σ' => match x with | .normal => Runs X n fn b e' σ' Q | x => Q x e' σ'):Runs X n fn (.seq a b) e σ Q:=by
 obtain ⟨l1,x,e1,σ1,h1,h2⟩:=h.run
 cases x with
 | normal =>
  obtain ⟨l2,y,e2,σ2,h3,h4⟩:=h2.run
  exact ⟨max l1 l2,y,e2,σ2,by simp only [ZD,Z1L (Y14 l1 l2) h1];exact Z1L (Y10 l1 l2) h3,h4⟩
 | exit id => exact ⟨l1,_,e1,σ1,by simp only [ZD,h1],h2⟩
 | ret => exact ⟨l1,_,e1,σ1,by simp only [ZD,h1],h2⟩
theorem Runs.mono {Q':Ex→Env→Heap→Prop} (h:Runs X n fn c e σ Q) (hq:∀ x e σ,Q x e σ→Q' x e σ):Runs X n fn c e σ Q':=by
 obtain ⟨l1,x,e1,σ1,h1,h2⟩:=h.run
 exact ⟨l1,x,e1,σ1,h1,hq _ _ _ h2⟩
theorem Runs.block {id:Nat} (h:Runs X n fn c e σ fun x e' σ' => if x = .exit id then Q .normal e' σ' else Q x e' σ'):Runs X n fn (.block id c) e σ Q:=by
 obtain ⟨l1,x,e1,σ1,h1,h2⟩:=h.run
 cases x with
 | normal => exact ⟨l1,.normal,e1,σ1,by simp only [ZD,h1],by simpa using h2⟩
 | ret => exact ⟨l1,.ret,e1,σ1,by simp only [ZD,h1],by simpa using h2⟩
 | exit id' =>
  by_cases hid:id' = id
  ·subst hid;exact ⟨l1,.normal,e1,σ1,by simp only [ZD,h1,if_true],by simpa using h2⟩
  ·exact ⟨l1,.exit id',e1,σ1,by simp only [ZD,h1,if_neg hid],by simpa [hid] using h2⟩
theorem Runs.cond {t:Operand} {v:Bool} (ht:Z0 X e t = some (.v (.bool v))) (h1:v = true→Runs X n fn a e σ Q) (h2:v = false→Runs X n fn b e σ Q):Runs X n fn (.cond t a b) e σ Q:=by
 cases v with
 | true =>
  obtain ⟨l1,x,e1,σ1,h1,h2⟩:=(h1 rfl).run
  exact ⟨l1,x,e1,σ1,by simp only [ZD,ht];exact h1,h2⟩
 | false =>
  obtain ⟨l1,x,e1,σ1,h1,h2⟩:=(h2 rfl).run
  exact ⟨l1,x,e1,σ1,by simp only [ZD,ht];exact h1,h2⟩
theorem Runs.ops {id:Nat} {ops:Array Oper} {r:Env × Heap} (h:Z2Q X (Z0M X) n ops σ.nx 0 ops.toList e ⟨σ.nx + ops.size,σ.ent⟩ = some r) (hq:Q .normal r.1 r.2):Runs X n fn (.region id ops false) e σ Q :=
 ⟨0,_,_,_,by simp only [ZD,YA,if_false,h,Y8],hq⟩
theorem Runs.draw {id:Nat} {ops:Array Oper} {r:Env × Heap} (hd:Z4Y ops = true) (h:Z1U X (Z0M X) n ops σ.nx 0 ops.toList e ⟨σ.nx + ops.size,σ.ent⟩ = some r) (hq:Q .normal r.1 r.2):Runs X n fn (.region id ops true) e σ Q :=
 ⟨0,_,_,_,by simp only [ZD,if_true,hd,h,Y8],hq⟩
theorem Runs.loop (I:Nat→Env→Heap→Prop) {m:Nat} (h0:I m e σ)
  (hs:∀ m e σ,I m e σ→Runs X n fn c e σ fun x e' σ' => match x with | .normal => ∃ m',m' < m∧I m' e' σ' | x => Q x e' σ'):Runs X n fn (.loop c) e σ Q:=by
 have key:∀ m e σ,I m e σ→∃ lf,∀ lf',lf≤lf'→∃ j x e' σ',Z1x (ZD X (Z0M X) lf' n fn c) j e σ = some (x,e',σ')∧Q x e' σ':=by
  intro m
  induction m using Nat.strongRecOn with
  | _ m ih =>
   intro e σ hI;obtain ⟨l1,x,e1,σ1,h1,h2⟩:=(hs m e σ hI).run
   cases x with
   | normal =>
    obtain ⟨m',hlt,hI'⟩:=h2
    obtain ⟨l2,q2⟩:=ih m' hlt e1 σ1 hI'
    refine ⟨max l1 l2,fun lf' hl => ?_⟩
    obtain ⟨j,x,e',σ',q3,q4⟩:=q2 lf' (by omega)
    exact ⟨j + 1,x,e',σ',by simp only [Z1x,Z1L (show l1≤lf' by omega) h1];exact q3,q4⟩
   | exit id => exact ⟨l1,fun lf' hl => ⟨1,_,e1,σ1,by simp only [Z1x,Z1L hl h1],h2⟩⟩
   | ret => exact ⟨l1,fun lf' hl => ⟨1,_,e1,σ1,by simp only [Z1x,Z1L hl h1],h2⟩⟩
 obtain ⟨lf,hl⟩:=key m e σ h0
 obtain ⟨j,x,e',σ',q1,q2⟩:=hl lf (YB _)
 have up:∀ (step step':Env→Heap→Option Out) (hst:∀ e σ r,step e σ = some r→step' e σ = some r) (j j':Nat) (hj:j≤j') (e:Env) (σ:Heap) (r:Out),Z1x step j e σ = some r→Z1x step' j' e σ = some r:=by
  intro step step' hst j
  induction j with
  | zero => intro j' _ e σ r h;simp [Z1x] at h
  | succ j ihj =>
   intro j' hj e σ r h;obtain ⟨j',rfl⟩ : ∃ i,j' = i + 1:=⟨j' - 1,by omega⟩
   simp only [Z1x] at h ⊢
   split at h
   ·rename_i h1;rw [hst _ _ _ h1];exact ihj j' (by omega) _ _ _ h
   ·rename_i hn;rw [hst _ _ _ h]
    split
    ·rename_i heq;rw [h] at hn;cases heq;exact absurd rfl (hn _ _)
    ·rfl
 refine ⟨max lf j,x,e',σ',?_,q2⟩
 simp only [ZD]
 exact up _ _ (fun e σ r h => Z1L (Y14 lf j) h) j _ (Y10 lf j) _ _ _ q1
structure Fn (X:Ctx) (f:FuncId) (args:List PV) (r:PV):Prop where
 call:∀ σ,Z0M X (.fn f) args σ = some (r,σ)
 pure:args.all PV.pure = true
 keep:X.keep f = false
 opn:X.opn f = false
theorem Fn.of {f:FuncId} {args:List PV} {r:PV} {fu:Func} {c:Code} (hf:X.P.funcs[f]? = some fu) (hb:fu.body = some c) (hi:X.intr f args = none) (hk:X.keep f = false) (ho:X.opn f = false) (hp:args.all PV.pure = true)
  (h:Runs X (max fu.ntmps args.length) f c (Z72 args) Heap.empty fun x e σ => (x = .normal∨x = .ret)∧∃ xs σ',Z0H X.P e σ fu.results.toList = some xs∧Z1C σ (Z1r xs) = some (r,σ')):Fn X f args r:=by
 refine ⟨fun σ => ?_,hp,hk,ho⟩
 obtain ⟨lf,x,e',σ',h1,hx,xs,σ2,h2,h3⟩:=h.run
 refine Z36 (lf:=lf) ?_
 have hbody:Z1R X (Z0M X) lf f args Heap.empty = some (Z1r xs,σ'):=by
  simp only [Z1R,hf,hb,h1]
  rcases hx with rfl | rfl <;> simp only [h2,Y8]
 simp only [Z5Z,hi,hk,YA,if_false,Z3T hp,ho,hp,if_true,hbody,Y0,h3,Y8,ite_self]
theorem Fn.intr {f:FuncId} {args:List PV} {r:PV} (hi:X.intr f args = some r) (hp:args.all PV.pure = true) (hk:X.keep f = false) (ho:X.opn f = false):Fn X f args r :=
 ⟨fun σ => Z36 (lf:=0) (by simp only [Z5Z,hi,hp,if_true]),hp,hk,ho⟩
theorem Fn.run {f:FuncId} {args:List PV} {r:PV} (k:Nat) (h:∀ σ,Z0b X k (.fn f) args σ = some (r,σ)) (hp:args.all PV.pure = true) (hk:X.keep f = false) (ho:X.opn f = false):Fn X f args r :=
 ⟨fun σ => Z2O.2 ⟨k,h σ⟩,hp,hk,ho⟩
end Go.Dn

namespace Go.Dn
open Go
def set (e:Env) (d:Nat) (v:PV):Env:=fun j => bif Nat.beq j d then v else e j
theorem ZBE (e:Env) (d:Nat) (v:PV):set e d v = upd e d v:=by
 funext j
 simp only [set,upd]
 by_cases h:j = d
 ·subst h;simp
 ·have:Nat.beq j d = false:=by
   cases hb:Nat.beq j d with
   | false => rfl
   | true => exact absurd (Y0N hb) h
  rw [this,if_neg h]
  rfl
structure Ops (X:Ctx) (n:Nat) (dr:Bool) (ops:Array Oper) (base i:Nat) (l:List Oper) (e:Env) (σ:Heap) (K:Env→Heap→Prop):Prop where
 run:∃ e' σ',(if dr then Z1U X (Z0M X) n ops base i l e σ else Z2Q X (Z0M X) n ops base i l e σ) = some (e',σ')∧K e' σ'
variable {X:Ctx} {n:Nat} {dr:Bool} {fn:FuncId} {ops:Array Oper} {base i:Nat} {l:List Oper} {e:Env} {σ:Heap} {K:Env→Heap→Prop} {Q:Ex→Env→Heap→Prop} {c a b:Code}
def Then' (R:Env→Heap→Prop) (Q:Ex→Env→Heap→Prop):Ex→Env→Heap→Prop
 | .normal,e,σ => R e σ
 | x,e,σ => Q x e σ
def InBlock (id:Nat) (Q:Ex→Env→Heap→Prop):Ex→Env→Heap→Prop
 | .exit id',e,σ => if id' = id then Q .normal e σ else Q (.exit id') e σ
 | x,e,σ => Q x e σ
theorem Runs.then (h:Runs X n fn a e σ (Then' (fun e σ => Runs X n fn b e σ Q) Q)):Runs X n fn (.seq a b) e σ Q :=
 .seq (h.mono fun x e σ hx => by cases x <;> exact hx)
theorem Runs.inBlock {id:Nat} (h:Runs X n fn c e σ (InBlock id Q)):Runs X n fn (.block id c) e σ Q :=
 .block (h.mono fun x e σ hx => by
  cases x with
  | exit id' =>
   simp only [InBlock] at hx
   by_cases hid:id' = id
   ·simp only [hid,if_true] at hx ⊢;exact hx
   ·simp only [hid,if_false] at hx;rw [if_neg (by simpa using hid)]
    exact hx
  | normal => exact (by simpa [InBlock] using hx)
  | ret => exact (by simpa [InBlock] using hx))
theorem Runs.region {id m m':Nat} {ent:Nat→Ent} (hm:m + l.length = m') (h:Ops X n false l.toArray m 0 l e ⟨m',ent⟩ (Q .normal)):Runs X n fn (.region id l.toArray false) e ⟨m,ent⟩ Q:=by
 subst hm
 obtain ⟨e',σ',h1,h2⟩:=h.run
 simp only [YA,if_false] at h1
 exact Runs.ops (r:=(e',σ')) (by simpa using h1) h2
theorem Runs.drawn {id m m':Nat} {ent:Nat→Ent} (hd:Z4Y l.toArray = true) (hm:m + l.length = m') (h:Ops X n true l.toArray m 0 l e ⟨m',ent⟩ (Q .normal)):Runs X n fn (.region id l.toArray true) e ⟨m,ent⟩ Q:=by
 subst hm
 obtain ⟨e',σ',h1,h2⟩:=h.run
 simp only [if_true] at h1
 exact Runs.draw hd (r:=(e',σ')) (by simpa using h1) h2
theorem Runs.whether {t:Operand} {v:Bool} (ht:Z0 X e t = some (.v (.bool v))) (h1:v = true→Runs X n fn a e σ Q) (h2:v = false→Runs X n fn b e σ Q):Runs X n fn (.cond t a b) e σ Q:=.cond ht h1 h2
theorem Runs.yes {t:Operand} (ht:Z0 X e t = some (.v (.bool true))) (h1:Runs X n fn a e σ Q):Runs X n fn (.cond t a b) e σ Q:=.cond ht (fun _ => h1) (fun h => by cases h)
theorem Runs.yesB {t:Operand} {v:Bool} (ht:Z0 X e t = some (.v (.bool v))) (hv:v = true) (h1:Runs X n fn a e σ Q):Runs X n fn (.cond t a b) e σ Q:=.cond ht (fun _ => h1) (fun h => by rw [hv] at h;cases h)
theorem Runs.noB {t:Operand} {v:Bool} (ht:Z0 X e t = some (.v (.bool v))) (hv:v = false) (h1:Runs X n fn b e σ Q):Runs X n fn (.cond t a b) e σ Q:=.cond ht (fun h => by rw [hv] at h;cases h) (fun _ => h1)
theorem Runs.no {t:Operand} (ht:Z0 X e t = some (.v (.bool false))) (h1:Runs X n fn b e σ Q):Runs X n fn (.cond t a b) e σ Q:=.cond ht (fun h => by cases h) (fun _ => h1)
theorem Ops.nil (h:K e σ):Ops X n dr ops base i [] e σ K:=⟨e,σ,by cases dr <;> rfl,h⟩
theorem Ops.step {o:Oper} {e1:Env} {σ1:Heap} (h:Z0s X (Z0M X) n ops base i o e σ = some (e1,σ1)) (ha:dr = true→Zz ops e o = some true→Zp X ops base i o e = true) (hk:Ops X n dr ops base (i + 1) l e1 σ1 K):Ops X n dr ops base i (o :: l) e σ K:=by
 obtain ⟨e',σ',h1,h2⟩:=hk.run
 refine ⟨⟨e',σ',?_,h2⟩⟩
 cases dr with
 | false =>
  simp only [YA,if_false] at h1 ⊢;simp only [Z2Q,h,Y0,h1]
 | true =>
  simp only [if_true] at h1 ⊢;have:Z0c X (Z0M X) n ops base i o e σ = some (e1,σ1):=by
   unfold Z0c;rw [if_neg]
   ·exact h
   ·rintro ⟨q1,q2⟩;rw [ha rfl q1] at q2;cases q2
  simp only [Z1U,this,Y0,h1]
def inert (op:Op):Bool:=Zs op == .pure && (match op with | .slice .. | .buildSlice .. => false | _ => true)
theorem ask0 {o:Oper} (h:Zj X ops base i o e = true):Zp X ops base i o e = true:=by
 unfold Zp
 rw [h,Bool.or_true]
theorem Z5O {o:Oper} (h:Z34 (Region.before ops) ops i = true):Zp X ops base i o e = true:=by
 unfold Zp
 rw [h,Bool.true_or]
theorem Z16 {o:Oper} (h:inert o.op = true):Zp X ops base i o e = true:=by
 refine ask0 ?_
 unfold inert at h
 simp only [Y9,beq_iff_eq] at h
 unfold Zj
 rw [h.1]
 cases ho:o.op <;> rw [ho] at h <;> simp_all [frozen]
theorem Z4W {o:Oper} (h:Zs o.op = .read) (ht:touched X e o.op = []):Zp X ops base i o e = true:=by
 refine ask0 ?_
 unfold Zj
 rw [h,ht]
 simp
theorem ZAs {d m:Nat} (h:Nat.blt d m = true):d < m:=by
 rw [Nat.blt_eq] at h
 exact h
section
variable {d:Nat} {op:Op} {t:TypeId} {p:String} {af:Array Edge} {x:PV} {σ1:Heap}
theorem Ops.plain (h:Z5 X (Z0M X) e σ (base + i) op = some (x,σ1)) (ha:dr = true→Zp X ops base i ⟨some d,op,t,p,af,none⟩ e = true) (hd:Nat.blt d n = true) (hk:Ops X n dr ops base (i + 1) l (set e d x) σ1 K):Ops X n dr ops base i (⟨some d,op,t,p,af,none⟩ :: l) e σ K:=by
 refine .step ?_ (fun hw _ => ha hw) hk
 simp only [Z0s,Zz,h,Y0,putD,if_pos (ZAs hd),ZBE]
theorem Ops.plain0 (h:Z5 X (Z0M X) e σ (base + i) op = some (x,σ1)) (ha:dr = true→Zp X ops base i ⟨none,op,t,p,af,none⟩ e = true) (hk:Ops X n dr ops base (i + 1) l e σ1 K):Ops X n dr ops base i (⟨none,op,t,p,af,none⟩ :: l) e σ K:=by
 refine .step ?_ (fun hw _ => ha hw) hk
 simp only [Z0s,Zz,h,Y0,putD]
theorem Ops.part {o:Oper} {g:Nat} {v:Bool} (h:e g = .v (.bool v)) (ht:v = true→Ops X n dr ops base i (o :: l) (set e g (.v (.bool true))) σ K) (hf:v = false→Ops X n dr ops base i (o :: l) (set e g (.v (.bool false))) σ K):Ops X n dr ops base i (o :: l) e σ K:=by
 have key:set e g (.v (.bool v)) = e:=by
  rw [ZBE]
  funext k
  simp only [upd]
  split
  ·rename_i hk;rw [hk,h]
  ·rfl
 cases v with
 | true => rw [← key];exact ht rfl
 | false => rw [← key];exact hf rfl
variable {j g:Nat} {w:Bool}
theorem Ops.split {dst:Option Tmp} {v:Bool} (hg:(ops[j]?).bind (·.dst) = some g) (h:e g = .v (.bool v)) (ht:v = true→Ops X n dr ops base i (⟨dst,op,t,p,af,some (j,w)⟩ :: l) (set e g (.v (.bool true))) σ K)
  (hf:v = false→Ops X n dr ops base i (⟨dst,op,t,p,af,some (j,w)⟩ :: l) (set e g (.v (.bool false))) σ K):Ops X n dr ops base i (⟨dst,op,t,p,af,some (j,w)⟩ :: l) e σ K:=by
 have _:=hg
 exact .part h ht hf
theorem Ops.wanted {dst:Option Tmp} (hg:(ops[j]?).bind (·.dst) = some g) (he:e g = .v (.bool w)) (hk:Ops X n dr ops base i (⟨dst,op,t,p,af,none⟩ :: l) e σ K):Ops X n dr ops base i (⟨dst,op,t,p,af,some (j,w)⟩ :: l) e σ K:=by
 obtain ⟨e',σ',h1,h2⟩:=hk.run
 refine ⟨⟨e',σ',?_,h2⟩⟩
 have this:Zz ops e ⟨dst,op,t,p,af,some (j,w)⟩ = some true:=by
  simp only [Zz,hg,he];cases w <;> rfl
 have t2:Zz ops e ⟨dst,op,t,p,af,none⟩ = some true:=rfl
 have s1:Z0s X (Z0M X) n ops base i ⟨dst,op,t,p,af,some (j,w)⟩ e σ = Z0s X (Z0M X) n ops base i ⟨dst,op,t,p,af,none⟩ e σ:=by
  unfold Z0s;rw [this,t2]
 have s2:Zp X ops base i ⟨dst,op,t,p,af,some (j,w)⟩ e = Zp X ops base i ⟨dst,op,t,p,af,none⟩ e:=rfl
 have s3:Z0c X (Z0M X) n ops base i ⟨dst,op,t,p,af,some (j,w)⟩ e σ = Z0c X (Z0M X) n ops base i ⟨dst,op,t,p,af,none⟩ e σ:=by
  unfold Z0c;rw [this,t2,s1,s2]
  rfl
 rw [← h1]
 cases dr <;> simp only [YA,if_false,if_true,Z2Q,Z1U,s1,s3]
theorem Ops.knownT {dst:Option Tmp} {v:Bool} (hg:(ops[j]?).bind (·.dst) = some g) (h:e g = .v (.bool v)) (hv:v = true) (ht:Ops X n dr ops base i (⟨dst,op,t,p,af,some (j,w)⟩ :: l) (set e g (.v (.bool true))) σ K):Ops X n dr ops base i (⟨dst,op,t,p,af,some (j,w)⟩ :: l) e σ K :=
 .split hg h (fun _ => ht) (fun h => by rw [hv] at h;cases h)
theorem Ops.knownF {dst:Option Tmp} {v:Bool} (hg:(ops[j]?).bind (·.dst) = some g) (h:e g = .v (.bool v)) (hv:v = false) (ht:Ops X n dr ops base i (⟨dst,op,t,p,af,some (j,w)⟩ :: l) (set e g (.v (.bool false))) σ K):Ops X n dr ops base i (⟨dst,op,t,p,af,some (j,w)⟩ :: l) e σ K :=
 .split hg h (fun h => by rw [hv] at h;cases h) (fun _ => ht)
theorem Ops.want (hg:(ops[j]?).bind (·.dst) = some g) (he:e g = .v (.bool w)) (hk:Ops X n dr ops base i (⟨some d,op,t,p,af,none⟩ :: l) e σ K):Ops X n dr ops base i (⟨some d,op,t,p,af,some (j,w)⟩ :: l) e σ K:=.wanted hg he hk
theorem Ops.pass (hg:(ops[j]?).bind (·.dst) = some g) (he:e g = .v (.bool (!w))) (hd:Nat.blt d n = true) (hk:Ops X n dr ops base (i + 1) l (set e d .undef) σ K):Ops X n dr ops base i (⟨some d,op,t,p,af,some (j,w)⟩ :: l) e σ K:=by
 have:Zz ops e ⟨some d,op,t,p,af,some (j,w)⟩ = some false:=by
  simp only [Zz,hg,he];cases w <;> rfl
 refine .step ?_ (fun _ h => by rw [this] at h;cases h) hk
 simp only [Z0s,this,putD,if_pos (ZAs hd),ZBE]
theorem Ops.passU (hg:(ops[j]?).bind (·.dst) = some g) (he:e g = .undef) (hd:Nat.blt d n = true) (hk:Ops X n dr ops base (i + 1) l (set e d .undef) σ K):Ops X n dr ops base i (⟨some d,op,t,p,af,some (j,w)⟩ :: l) e σ K:=by
 have:Zz ops e ⟨some d,op,t,p,af,some (j,w)⟩ = some false:=by
  simp only [Zz,hg,he]
 refine .step ?_ (fun _ h => by rw [this] at h;cases h) hk
 simp only [Z0s,this,putD,if_pos (ZAs hd),ZBE]
theorem Ops.pass0 (hg:(ops[j]?).bind (·.dst) = some g) (he:e g = .v (.bool (!w))) (hk:Ops X n dr ops base (i + 1) l e σ K):Ops X n dr ops base i (⟨none,op,t,p,af,some (j,w)⟩ :: l) e σ K:=by
 have:Zz ops e ⟨none,op,t,p,af,some (j,w)⟩ = some false:=by
  simp only [Zz,hg,he];cases w <;> rfl
 refine .step ?_ (fun _ h => by rw [this] at h;cases h) hk
 simp only [Z0s,this,putD]
theorem Ops.pass0U (hg:(ops[j]?).bind (·.dst) = some g) (he:e g = .undef) (hk:Ops X n dr ops base (i + 1) l e σ K):Ops X n dr ops base i (⟨none,op,t,p,af,some (j,w)⟩ :: l) e σ K:=by
 have:Zz ops e ⟨none,op,t,p,af,some (j,w)⟩ = some false:=by
  simp only [Zz,hg,he]
 refine .step ?_ (fun _ h => by rw [this] at h;cases h) hk
 simp only [Z0s,this,putD]
theorem Ops.call {f:FuncId} {args:Array Operand} {ts:Array TypeId} {ys:List PV} {r:PV} (ha:ZY X e args.toList = some ys) (hf:Fn X f ys r) (hd:Nat.blt d n = true) (hk:Ops X n dr ops base (i + 1) l (set e d r) σ K) :
  Ops X n dr ops base i (⟨some d,.call { callee:=.value (.func f),args:=args,argTypes:=ts },t,p,af,none⟩ :: l) e σ K :=
 .plain (x:=r) (σ1:=σ) (by simp only [Z5,Zx,ha,Z0,hf.call σ]) (fun _ => by
  exact ask0 (by simp only [Zj,Zs,ha,Z6G,Z0,ZBI hf.pure,hf.opn,hf.keep,Y0l,Y0P])) hd hk
end
section
variable {d:Nat} {t t1 t2:TypeId} {p:String} {af:Array Edge} {x y:Operand} {v:PV}
theorem ZAU {op:BinOp} {u v:FV} {o:Oper} (hx:Z0 X e x = some (.v u)) (hy:Z0 X e y = some (.v v)) (ho:o.op = .binOp op t1 x y t2:=by rfl):Zp X ops base i o e = true:=by
 by_cases h:Zs o.op = .pure
 ·exact Z16 (by rw [ho] at h;simp only [inert,ho,h];rfl)
 ·refine Z4W ?_ ?_
  ·rw [ho] at h ⊢;cases op <;> first | rfl | exact absurd rfl h
  ·rw [ho];simp only [touched,Zf,YO,YT,hx,hy,vids,YQ]
theorem Ops.move (hx:Z0 X e x = some v) (hd:Nat.blt d n = true) (hk:Ops X n dr ops base (i + 1) l (set e d v) σ K):Ops X n dr ops base i (⟨some d,.move x,t,p,af,none⟩ :: l) e σ K :=
 .plain (by simp only [Z5,hx,Y8]) (fun _ => Z16 rfl) hd hk
theorem Ops.assign (hx:Z0 X e x = some v) (hd:Nat.blt d n = true) (hk:Ops X n dr ops base (i + 1) l (set e d v) σ K):Ops X n dr ops base i (⟨some d,.assign x,t,p,af,none⟩ :: l) e σ K :=
 .plain (by simp only [Z5,hx,Y8]) (fun _ => Z16 rfl) hd hk
theorem Ops.int {op:BinOp} {k:IntKind} {m m':Int} {r:FV} (hx:Z0 X e x = some (.v (.int k m))) (hy:Z0 X e y = some (.v (.int k m'))) (hop:(op != .shl && op != .shr) = true) (hr:Z8L op k m m' = some r) (hd:Nat.blt d n = true) (hk:Ops X n dr ops base (i + 1) l (set e d (.v r)) σ K) :
  Ops X n dr ops base i (⟨some d,.binOp op t1 x y t2,t,p,af,none⟩ :: l) e σ K:=by
 refine .plain (x:=.v r) (σ1:=σ) ?_ (fun _ => ZAU hx hy) hd hk
 simp only [Z5,hx,hy]
 cases op <;> simp [binD,hr] at hop ⊢
theorem Ops.shl {k k':IntKind} {m m':Int} (hx:Z0 X e x = some (.v (.int k m))) (hy:Z0 X e y = some (.v (.int k' m'))) (h0:0≤m') (hd:Nat.blt d n = true) (hk:Ops X n dr ops base (i + 1) l (set e d (.v (.int k (k.wrap (m * 2 ^ min m'.toNat k.bits))))) σ K) :
  Ops X n dr ops base i (⟨some d,.binOp .shl t1 x y t2,t,p,af,none⟩ :: l) e σ K:=by
 refine .plain (σ1:=σ) ?_ (fun _ => ZAU hx hy) hd hk
 simp only [Z5,hx,hy,binD,if_neg (Int.not_lt.2 h0),Y8]
theorem Ops.shr {k k':IntKind} {m m':Int} (hx:Z0 X e x = some (.v (.int k m))) (hy:Z0 X e y = some (.v (.int k' m'))) (h0:0≤m') (hd:Nat.blt d n = true) (hk:Ops X n dr ops base (i + 1) l (set e d (.v (.int k (m.fdiv (2 ^ min m'.toNat k.bits))))) σ K) :
  Ops X n dr ops base i (⟨some d,.binOp .shr t1 x y t2,t,p,af,none⟩ :: l) e σ K:=by
 refine .plain (σ1:=σ) ?_ (fun _ => ZAU hx hy) hd hk
 simp only [Z5,hx,hy,binD,if_neg (Int.not_lt.2 h0),Y8]
theorem Ops.quo {k:IntKind} {m m':Int} (hx:Z0 X e x = some (.v (.int k m))) (hy:Z0 X e y = some (.v (.int k m'))) (h0:m' ≠ 0) (hd:Nat.blt d n = true) (hk:Ops X n dr ops base (i + 1) l (set e d (.v (.int k (k.wrap (m.tdiv m'))))) σ K) :
  Ops X n dr ops base i (⟨some d,.binOp .quo t1 x y t2,t,p,af,none⟩ :: l) e σ K :=
 .int hx hy rfl (by simp only [Z8L,if_neg h0]) hd hk
theorem Ops.rem {k:IntKind} {m m':Int} (hx:Z0 X e x = some (.v (.int k m))) (hy:Z0 X e y = some (.v (.int k m'))) (h0:m' ≠ 0) (hd:Nat.blt d n = true) (hk:Ops X n dr ops base (i + 1) l (set e d (.v (.int k (m.tmod m')))) σ K) :
  Ops X n dr ops base i (⟨some d,.binOp .rem t1 x y t2,t,p,af,none⟩ :: l) e σ K :=
 .int hx hy rfl (by simp only [Z8L,if_neg h0]) hd hk
theorem Ops.eqB {b b':Bool} (hx:Z0 X e x = some (.v (.bool b))) (hy:Z0 X e y = some (.v (.bool b'))) (ht:X.P.underlying t1 = some .bool) (hd:Nat.blt d n = true) (hk:Ops X n dr ops base (i + 1) l (set e d (.v (.bool (b == b')))) σ K) :
  Ops X n dr ops base i (⟨some d,.binOp .eql t1 x y t2,t,p,af,none⟩ :: l) e σ K:=by
 refine .plain (σ1:=σ) ?_ (fun _ => ZAU hx hy) hd hk
 simp only [Z5,hx,hy,binD,Z6i,if_true,eqD,ht,Y8]
theorem Ops.neB {b b':Bool} (hx:Z0 X e x = some (.v (.bool b))) (hy:Z0 X e y = some (.v (.bool b'))) (ht:X.P.underlying t1 = some .bool) (hd:Nat.blt d n = true) (hk:Ops X n dr ops base (i + 1) l (set e d (.v (.bool (b != b')))) σ K) :
  Ops X n dr ops base i (⟨some d,.binOp .neq t1 x y t2,t,p,af,none⟩ :: l) e σ K:=by
 refine .plain (σ1:=σ) ?_ (fun _ => ZAU hx hy) hd hk
 simp only [Z5,hx,hy,binD,Z6i,if_true,eqD,ht,Y8]
 rfl
theorem Ops.not {b:Bool} (hx:Z0 X e x = some (.v (.bool b))) (hd:Nat.blt d n = true) (hk:Ops X n dr ops base (i + 1) l (set e d (.v (.bool (!b)))) σ K):Ops X n dr ops base i (⟨some d,.unOp .not t1 x,t,p,af,none⟩ :: l) e σ K :=
 .plain (by simp only [Z5,hx,Y0,unD,Y8]) (fun _ => Z16 rfl) hd hk
theorem Ops.neg {k:IntKind} {m:Int} (hx:Z0 X e x = some (.v (.int k m))) (hd:Nat.blt d n = true) (hk:Ops X n dr ops base (i + 1) l (set e d (.v (.int k (k.wrap (0 - m))))) σ K):Ops X n dr ops base i (⟨some d,.unOp .neg t1 x,t,p,af,none⟩ :: l) e σ K :=
 .plain (by simp only [Z5,hx,Y0,unD,Y8]) (fun _ => Z16 rfl) hd hk
theorem Ops.conv {k k':IntKind} {m:Int} {de:TypeDesc} (hx:Z0 X e x = some (.v (.int k m))) (h1:X.P.underlying t1 = some de) (h2:tint X.P t2 = some k') (hd:Nat.blt d n = true) (hk:Ops X n dr ops base (i + 1) l (set e d (.v (.int k' (k'.wrap m)))) σ K):Ops X n dr ops base i (⟨some d,.convert t1 t2 x,t,p,af,none⟩ :: l) e σ K :=
 .plain (by simp only [Z5,hx,Y0,convD,h1,h2,Y8]) (fun _ => Z16 rfl) hd hk
theorem Ops.pickT {c:Operand} (hc:Z0 X e c = some (.v (.bool true))) (hx:Z0 X e x = some v) (hd:Nat.blt d n = true) (hk:Ops X n dr ops base (i + 1) l (set e d v) σ K):Ops X n dr ops base i (⟨some d,.pick c x y,t,p,af,none⟩ :: l) e σ K :=
 .plain (by simp only [Z5,hc,hx,Y8]) (fun _ => Z16 rfl) hd hk
theorem Ops.pickF {c:Operand} (hc:Z0 X e c = some (.v (.bool false))) (hx:Z0 X e y = some v) (hd:Nat.blt d n = true) (hk:Ops X n dr ops base (i + 1) l (set e d v) σ K):Ops X n dr ops base i (⟨some d,.pick c x y,t,p,af,none⟩ :: l) e σ K :=
 .plain (by simp only [Z5,hc,hx,Y8]) (fun _ => Z16 rfl) hd hk
theorem Ops.moveV {u:FV} (hx:Z0 X e x = some (.v u)) (hd:Nat.blt d n = true) (hk:Ops X n dr ops base (i + 1) l (set e d (.v u)) σ K):Ops X n dr ops base i (⟨some d,.move x,t,p,af,none⟩ :: l) e σ K:=.move hx hd hk
theorem Ops.Z9z {u:FV} (hx:Z0 X e x = some (.v u)) (hd:Nat.blt d n = true) (hk:Ops X n dr ops base (i + 1) l (set e d (.v u)) σ K):Ops X n dr ops base i (⟨some d,.assign x,t,p,af,none⟩ :: l) e σ K:=.assign hx hd hk
theorem Ops.moveT {u:List PV} (hx:Z0 X e x = some (.tup u)) (hd:Nat.blt d n = true) (hk:Ops X n dr ops base (i + 1) l (set e d (.tup u)) σ K):Ops X n dr ops base i (⟨some d,.move x,t,p,af,none⟩ :: l) e σ K:=.move hx hd hk
theorem Ops.moveA {u:List PV} (hx:Z0 X e x = some (.agg u)) (hd:Nat.blt d n = true) (hk:Ops X n dr ops base (i + 1) l (set e d (.agg u)) σ K):Ops X n dr ops base i (⟨some d,.move x,t,p,af,none⟩ :: l) e σ K:=.move hx hd hk
theorem Ops.ZA6 {u:List PV} (hx:Z0 X e x = some (.agg u)) (hd:Nat.blt d n = true) (hk:Ops X n dr ops base (i + 1) l (set e d (.agg u)) σ K):Ops X n dr ops base i (⟨some d,.assign x,t,p,af,none⟩ :: l) e σ K:=.assign hx hd hk
theorem Ops.pickTV {c:Operand} {u:FV} (hc:Z0 X e c = some (.v (.bool true))) (hx:Z0 X e x = some (.v u)) (hd:Nat.blt d n = true) (hk:Ops X n dr ops base (i + 1) l (set e d (.v u)) σ K):Ops X n dr ops base i (⟨some d,.pick c x y,t,p,af,none⟩ :: l) e σ K:=.pickT hc hx hd hk
theorem Ops.pickFV {c:Operand} {u:FV} (hc:Z0 X e c = some (.v (.bool false))) (hx:Z0 X e y = some (.v u)) (hd:Nat.blt d n = true) (hk:Ops X n dr ops base (i + 1) l (set e d (.v u)) σ K):Ops X n dr ops base i (⟨some d,.pick c x y,t,p,af,none⟩ :: l) e σ K:=.pickF hc hx hd hk
theorem Ops.extract {vs:List PV} {j:Nat} (hx:Z0 X e x = some (.tup vs)) (hj:vs[j]? = some v) (hd:Nat.blt d n = true) (hk:Ops X n dr ops base (i + 1) l (set e d v) σ K):Ops X n dr ops base i (⟨some d,.extract x j,t,p,af,none⟩ :: l) e σ K :=
 .plain (by simp only [Z5,hx,hj,Y8]) (fun _ => Z16 rfl) hd hk
end
def Z5q:PV→Bool
 | .tup xs => xs.all PV.pure
 | x => x.pure
theorem Z56 {x:PV} (h:x.pure = true):Z1Q σ x = some (x,σ):=by
 have:=Z7p (σ:=σ) h
 cases x <;> simp [PV.pure] at h <;> exact this
theorem ZAY:∀ {xs:List PV},xs.all PV.pure = true→Z2g σ xs = some (xs,σ)
 | [],_ => rfl
 | x :: xs,h => by
  simp only [Yw,Y9] at h;simp [Z2g,Z56 h.1,ZAY h.2]
theorem Z8O {x:PV} (h:Z5q x = true):Z1C σ x = some (x,σ):=by
 cases x with
 | tup xs => simp only [Z5q] at h;simp [Z1C,ZAY h]
 | v y => exact Z56 (x:=.v y) h
 | fptr y => exact Z56 (x:=.fptr y) h
 | agg y => exact Z56 (x:=.agg y) h
 | _ => simp [Z5q,PV.pure] at h
structure Ends (X:Ctx) (rs:List ResultVar) (r:PV) (x:Ex) (e:Env) (σ:Heap):Prop where
 out:(x = .normal∨x = .ret)∧∃ xs σ',Z0H X.P e σ rs = some xs∧Z1C σ (Z1r xs) = some (r,σ')
theorem Ends.ret {rs:List ResultVar} {xs:List PV} {r:PV} (h:Z0H X.P e σ rs = some xs) (hp:Z5q (Z1r xs) = true) (hr:Z1r xs = r):Ends X rs r .ret e σ :=
 ⟨.inr rfl,xs,σ,h,by rw [← hr];exact Z8O hp⟩
theorem Ends.normal {rs:List ResultVar} {xs:List PV} {r:PV} (h:Z0H X.P e σ rs = some xs) (hp:Z5q (Z1r xs) = true) (hr:Z1r xs = r):Ends X rs r .normal e σ :=
 ⟨.inl rfl,xs,σ,h,by rw [← hr];exact Z8O hp⟩
theorem Fn.ends {f:FuncId} {args:List PV} {r:PV} {fu:Func} {c:Code} {m:Nat} (hf:X.P.funcs[f]? = some fu) (hb:fu.body = some c) (hi:X.intr f args = none) (hk:X.keep f = false) (ho:X.opn f = false) (hp:args.all PV.pure = true) (hm:max fu.ntmps args.length = m)
  (h:Runs X m f c (Z72 args) ⟨0,fun _ => .none⟩ (Ends X fu.results.toList r)):Fn X f args r :=
 .of hf hb hi hk ho hp (by subst hm;exact h.mono fun _ _ _ hx => hx.out)
end Go.Dn

namespace Go.Dn
open Go Go.RowKit
variable {X:Ctx} {n:Nat} {fn:FuncId} {c:Code} {e:Env} {Q:Ex→Env→Heap→Prop}
theorem callL_ok (hX:CtxOK X):Z59 X (Z0M X):=fun c args r σ' s h hi hG vs hv => by
 obtain ⟨k,hk⟩:=Z2O.1 h
 exact callD_ok hX k c args r σ' s hk hi hG vs hv
theorem callL_tame:Z1l (Z0M X):=fun c args σ r σ' h => by
 obtain ⟨k,hk⟩:=Z2O.1 h
 exact Z9j k c args σ r σ' hk
theorem callL_pure:CallPure X (Z0M X) where
 calm:=fun f args σ r σ' h hp ho hk => by
  obtain ⟨k,h1⟩:=Z2O.1 h
  obtain ⟨h2,h3⟩:=(Z9c k).calm f args σ r σ' h1 hp ho hk
  exact ⟨h2,fun σ2 => Z2O.2 ⟨k,h3 σ2⟩⟩
 shut:=fun f args σ r σ' h hs hk ho hp => by
  obtain ⟨k,h1⟩:=Z2O.1 h
  obtain ⟨h2,h3⟩:=(Z9c k).shut f args σ r σ' h1 hs hk ho hp
  exact ⟨h2,fun σ2 h4 h5 => Z2O.2 ⟨k,h3 σ2 h4 h5⟩⟩
theorem Z8W (hX:CtxOK X) {s:St} {a:Act} (hG:Z0W X s) (hi:Inv s) (he:EnvR s n e a) (h:Runs X n fn c e s.σ Q) :
  c.wp X.P (fun ex a' w' => ∃ x e' σ' ι',Q x e' σ'∧ex = x.out∧Aft s n a e' σ' a' w' ι') a s.w:=by
 obtain ⟨lf,x,e',σ',h1,h2⟩:=h.run
 exact (wpIn_wide (n:=0)).1 (code_ok (rd:=none) hX.prog.mixed (callL_ok hX) callL_tame callL_pure c hG hi he (fun l hl => by cases hl) h1 fun a' w' ι' ht => ⟨x,e',σ',ι',h2,rfl,ht⟩)
def St.start (w:World):St:=⟨w,fun _ => False,Heap.empty,fun _ => 0⟩
theorem start_inv (w:World):Inv (St.start w) :=
 ⟨fun _ => trivial,fun _ _ h => absurd h Z2Z,fun _ h => absurd h Z2Z,fun _ _ _ h => (by cases h),fun _ _ => rfl,fun _ h => h.elim⟩
theorem Z5U {w:World} {b:Nat} (h:b < w.heap.size):(St.start w).imm b:=⟨h,fun h => h,fun _ h => absurd h Z2Z⟩
theorem start_below {w w':World} {σ':Heap} {ι':Nat→Nat} (h:Ev (St.start w) ⟨w',fun _ => False,σ',ι'⟩):Below w.heap.size w w' where
 os:=h.os
 tape:=h.tape
 output:=h.output
 size:=h.size
 block:=fun k hk => h.keep k hk fun id hl => absurd hl Z2Z
theorem law_calls (hX:CtxOK X) {f:FuncId} {args:List PV} {vs:Array Value} {w:World} (h:Fn X f args (.v (.bool true))) (hG:Z0W X (St.start w)) (hv:PVRs (St.start w) args vs) :
  Calls X.P f vs w fun e w' => e = .returned (.bool true)∧Below w.heap.size w w':=by
 have h1:=callL_ok hX (.fn f) args (.v (.bool true)) Heap.empty (St.start w) (h.call _) (start_inv w) hG vs hv
 refine h1.2.mono fun e w' ⟨v,he,ι',_,h3,h4⟩ => ?_
 have:=Z3F h4
 subst this
 exact ⟨he,start_below h3⟩
theorem leaves_ok {fu:Func} {s0:St} {a0 a':Act} {e1:Env} {σ1:Heap} {w':World} {ι':Nat→Nat} {xs:List PV} (hd0:a0.defers = []) (ht:Aft s0 n a0 e1 σ1 a' w' ι') (h2:Z0H X.P e1 σ1 fu.results.toList = some xs) {R:Ending→World→Prop}
  (hR:∀ v w',Post s0 (Z1r xs) σ1 v w'→R (.returned v) w'):LeavesInM (Fw none) 0 X.P fu a'.tmps R a'.defers .returning w':=by
 obtain ⟨ms,hd,hmk⟩:=ht.marks
 have hd:a'.defers = ms.map mark:=by simpa [hd0] using hd
 have hml:∀ r ∈ ms,w'.heap[r]? = some (.deferred (some [])):=fun r hr => (hmk.2 r hr).2.2
 obtain ⟨g1,g2,g3,g4,g5⟩:=Z9Y ms w'
 have hi2:=shut_inv (s:=⟨w',s0.Y,σ1,ι'⟩) g1 g2 hml ht.inv
 have he2:EnvR ⟨shut w' ms,s0.Y,σ1,ι'⟩ n e1 a':=⟨ht.env.1,fun t => ZAa (s:=⟨w',s0.Y,σ1,ι'⟩) g1 g2 hml (ht.env.2 t)⟩
 have hev2:=shut_ev ht.ev g1 g2 (fun r hr => (hmk.2 r hr).1) g3 g4 g5
 obtain ⟨v,h3,h4⟩:=ZCR (X:=X) hi2 he2 h2
 rw [hd]
 exact Z7L ms w' hmk.1 hml ⟨v,h3,hR _ _ ⟨ι',hi2,hev2,h4⟩⟩
theorem intr_under {P:Program} {f:FuncId} {vs:Array Value} {r:PV} {s:St} (hi:Inv s) (hr:Z5q r = true)
  (h:Calls P f vs s.w fun en w' => ∃ v,en = .returned v∧∃ σ',Post s.under r σ' v w'):Calls P f vs s.w fun en w' => ∃ v,en = .returned v∧Post s r s.σ v w' :=
 h.mono fun en w' ⟨v,e,σ',hp⟩ => ⟨v,e,Z9F hi hp (Z8O hr)⟩
theorem Z6o {e:Env} {k:Nat} {v:PV} (h:e k = v):e = set e k v:=by
 rw [ZBE]
 funext j
 simp only [upd]
 split
 ·rename_i hj;rw [hj,h]
 ·rfl
theorem int_val {s:St} {k:IntKind} {m:Int} {v:Value} (h:PVR s (.v (.int k m)) v):v = .int k m:=Z2d h
end Go.Dn

namespace Go.Dn
open Go
inductive Res where
 | blk (id:Nat) (t:TypeId) (cells:List PV)
 | sl (v:PV) (e:TypeId) (sz:Nat) (xs:List (List FV)) (live:Bool)
 | floor (m:Nat)
 | hole (id:Nat)
 | loop (id:Nat) (fn:FuncId) (e:Env) (n:Nat) (ps:List Nat) (as_ bo:Code) (st:LoopState) (pd:Option Code)
 | mp (id:Nat) (kv:List (Int × Int))
 | fix (id:Nat) (en:Ent)
def PV.owner:PV→Option Nat
 | .buf id _ _ => some id
 | .view id _ _ _ _ => some id
 | _ => none
def Res.owner:Res→Option Nat
 | .blk id _ _ => some id
 | .sl v _ _ _ _ => v.owner
 | .floor _ => none
 | .hole id => some id
 | .loop id _ _ _ _ _ _ _ _ => some id
 | .mp id _ => some id
 | .fix id _ => some id
def Res.holds (σ:Heap):Res→Prop
 | .blk id t cells => σ.ent id = .blk t cells true
 | .sl v e sz xs live => (∀ y ∈ xs,y.length = sz)∧((v = .nils∧xs = [])∨∃ id,v = .buf id xs.length sz∧σ.ent id = .blk e (vs xs.flatten) live)
 | .floor m => m≤σ.nx
 | .hole _ => True
 | .loop id fn e n ps as_ bo st pd => σ.ent id = .loop fn e n ps as_ bo st pd
 | .mp id kv => σ.ent id = .map kv
 | .fix id en => σ.ent id = en
structure Has (σ:Heap) (lo hi:Nat) (L:List Res):Prop where
 holds:∀ (k:Nat) (r:Res),L[k]? = some r→r.holds σ
 lt:∀ (k:Nat) (r:Res),L[k]? = some r→∀ id,r.owner = some id→(id < lo∨hi≤id)∧id < σ.nx
 sep:∀ (j k:Nat) (r s:Res),j ≠ k→L[j]? = some r→L[k]? = some s→∀ id,r.owner = some id→s.owner ≠ some id
 le:hi≤σ.nx
section
variable {σ:Heap} {lo hi:Nat} {L:List Res} {k:Nat} {r:Res}
theorem Has.nil (h:hi≤σ.nx):Has σ lo hi []:=⟨by simp,by simp,by simp,h⟩
theorem Has.weak (H:Has σ lo hi L) {lo' hi':Nat} (h1:lo≤lo') (h2:hi'≤hi):Has σ lo' hi' L :=
 ⟨H.holds,fun k r hk id ho => ⟨(H.lt k r hk id ho).1.imp (fun h => by omega) (fun h => by omega),(H.lt k r hk id ho).2⟩,H.sep,by have:=H.le;omega⟩
theorem Has.all (H:Has σ lo hi L):Has σ σ.nx σ.nx L :=
 ⟨H.holds,fun k r hk id ho => ⟨.inl (H.lt k r hk id ho).2,(H.lt k r hk id ho).2⟩,H.sep,YB _⟩
theorem Has.erase (H:Has σ lo hi L) (k:Nat):Has σ lo hi (L.eraseIdx k):=by
 have key:∀ (j:Nat) (r:Res),(L.eraseIdx k)[j]? = some r→L[if j < k then j else j + 1]? = some r:=by
  intro j r h;rw [List.getElem?_eraseIdx] at h
  by_cases hj:j < k
  ·rw [if_pos hj] at h ⊢;exact h
  ·rw [if_neg hj] at h ⊢;exact h
 refine ⟨fun j r h => H.holds _ r (key j r h),fun j r h => H.lt _ r (key j r h),fun i j r s hij h1 h2 => H.sep _ _ r s ?_ (key i r h1) (key j s h2),H.le⟩
 split <;> split <;> omega
theorem Z7V {id:Nat} {en:Ent} (h:r.holds σ) (ho:r.owner ≠ some id):r.holds (σ.put id en):=by
 cases r with
 | blk id' t cells =>
  have:id' ≠ id:=fun e => ho (by rw [e];rfl)
  show upd σ.ent id en id' = _
  rw [ZQ _ _ this];exact h
 | sl v e sz xs live =>
  refine ⟨h.1,h.2.imp (fun h => h) fun ⟨id',hv,hb⟩ => ⟨id',hv,?_⟩⟩
  have:id' ≠ id:=fun e => ho (by rw [hv,e];rfl)
  show upd σ.ent id en id' = _
  rw [ZQ _ _ this];exact hb
 | floor m => exact h
 | hole id' => trivial
 | loop id' fn e n ps as_ bo st pd =>
  have:id' ≠ id:=fun e => ho (by rw [e];rfl)
  show upd σ.ent id en id' = _
  rw [ZQ _ _ this];exact h
 | mp id' kv =>
  have:id' ≠ id:=fun e => ho (by rw [e];rfl)
  show upd σ.ent id en id' = _
  rw [ZQ _ _ this];exact h
 | fix id' en' =>
  have:id' ≠ id:=fun e => ho (by rw [e];rfl)
  show upd σ.ent id en id' = _
  rw [ZQ _ _ this];exact h
theorem Z2D {id:Nat} {en:Ent}:(σ.put id en).ent id = en:=ZH _ _ _
theorem Has.put (H:Has σ lo hi L) {id:Nat} {en:Ent} {r':Res} (hk:L[k]? = some r) (ho:r.owner = some id) (hr:r'.holds (σ.put id en)) (ho':r'.owner = some id):Has (σ.put id en) lo hi (L.set k r'):=by
 have key:∀ (j:Nat) (s:Res),(L.set k r')[j]? = some s→(j = k∧s = r')∨(j ≠ k∧L[j]? = some s):=by
  intro j s h;rw [Y0w] at h
  by_cases hj:k = j
  ·subst hj;rw [if_pos rfl] at h
   split at h
   ·cases h;exact .inl ⟨rfl,rfl⟩
   ·cases h
  ·rw [if_neg hj] at h;exact .inr ⟨fun e => hj e.symm,h⟩
 refine ⟨fun j s h => ?_,fun j s h id' ho2 => ?_,fun i j s t hij h1 h2 id' hs => ?_,H.le⟩
 ·rcases key j s h with ⟨_,rfl⟩ | ⟨hj,h⟩
  ·exact hr
  ·exact Z7V (H.holds j s h) (H.sep k j r s (fun e => hj e.symm) hk h id ho)
 ·rcases key j s h with ⟨_,rfl⟩ | ⟨hj,h⟩
  ·rw [ho'] at ho2;cases ho2;exact H.lt k r hk id ho
  ·exact H.lt j s h id' ho2
 ·rcases key i s h1 with ⟨hi',rfl⟩ | ⟨hi',h1'⟩
  ·rw [ho'] at hs;cases hs
   rcases key j t h2 with ⟨hj,rfl⟩ | ⟨hj,h2'⟩
   ·omega
   ·exact H.sep k j r t (fun e => hj e.symm) hk h2' id ho
  ·rcases key j t h2 with ⟨hj,rfl⟩ | ⟨hj,h2'⟩
   ·intro e;rw [ho'] at e;cases e;exact H.sep i k s r hi' h1' hk id hs ho
   ·exact H.sep i j s t hij h1' h2' id' hs
theorem Has.push (H:Has σ lo hi L) {b:Nat} {en:Ent} {r':Res} (hlo:lo≤b) (hhi:b < hi) (hr:r'.holds (σ.put b en)) (ho:r'.owner = some b):Has (σ.put b en) (b + 1) hi (r' :: L):=by
 have hle:=H.le
 have hne:∀ (j:Nat) (s:Res),L[j]? = some s→s.owner ≠ some b:=fun j s h e => by
  have:=(H.lt j s h b e).1;omega
 refine ⟨fun j s h => ?_,fun j s h id' ho2 => ?_,fun i j s t hij h1 h2 id' hs => ?_,hle⟩
 ·cases j with
  | zero => cases h;exact hr
  | succ j => exact Z7V (H.holds j s h) (hne j s h)
 ·cases j with
  | zero => cases h;rw [ho] at ho2;cases ho2;exact ⟨.inl (by omega),show _ < σ.nx by omega⟩
  | succ j =>
   have:=H.lt j s h id' ho2
   exact ⟨by omega,this.2⟩
 ·cases i with
  | zero =>
   cases h1;rw [ho] at hs;cases hs;cases j with
   | zero => exact absurd rfl hij
   | succ j => exact hne j t h2
  | succ i =>
   cases j with
   | zero =>
    cases h2;intro e;rw [ho] at e;cases e;exact hne i s h1 hs
   | succ j => exact H.sep i j s t (fun e => hij (by rw [e])) h1 h2 id' hs
theorem Has.pushNil (H:Has σ lo hi L) (e:TypeId) (sz:Nat) (live:Bool):Has σ lo hi (.sl .nils e sz [] live :: L):=by
 refine ⟨fun j s h => ?_,fun j s h id' ho2 => ?_,fun i j s t hij h1 h2 id' hs => ?_,H.le⟩
 ·cases j with
  | zero => cases h;exact ⟨by simp,.inl ⟨rfl,rfl⟩⟩
  | succ j => exact H.holds j s h
 ·cases j with
  | zero => cases h;cases ho2
  | succ j => exact H.lt j s h id' ho2
 ·cases i with
  | zero => cases h1;cases hs
  | succ i =>
   cases j with
   | zero => cases h2;intro e;cases e
   | succ j => exact H.sep i j s t (fun e => hij (by rw [e])) h1 h2 id' hs
theorem Has.blk (H:Has σ lo hi L) {id:Nat} {t:TypeId} {cells:List PV} (hk:L[k]? = some (.blk id t cells)):σ.ent id = .blk t cells true:=H.holds k _ hk
theorem Has.cur (H:Has σ lo hi L) {id:Nat} {t:TypeId} {cells:List PV} {ver:Nat} (hk:L[k]? = some (.blk id t cells)) (hv:cells.length = ver):σ.cur id ver = true:=by
 simp only [Heap.cur,H.blk hk,hv,beq_self_eq_true]
end
def Seen (ops:Array Oper) (base i id:Nat) (w:Bool):Prop :=
 (id < base∧(w = true→ZAi (Region.before ops) ops i = false)∧(w = false→Z6e (Region.before ops) ops i = true))∨∃ j,id = base + j∧(w = false→Z5N (Region.before ops) ops i = false)∧((Region.before ops).getD i 0).testBit j = true∧j < ops.size
section
variable {X:Ctx} {n:Nat} {dr:Bool} {fn:FuncId} {ops:Array Oper} {base i:Nat} {l:List Oper} {e:Env} {σ:Heap} {K:Env→Heap→Prop} {Q:Ex→Env→Heap→Prop} {c a b:Code}
variable {d:Nat} {t t1 t2:TypeId} {p:String} {af:Array Edge} {x y:Operand} {v:PV} {lo hi:Nat} {L:List Res}
theorem Z38 {o:Oper} {ids:List Nat} (h:Zs o.op = .read) (ht:touched X e o.op = ids) (hs:∀ id ∈ ids,Seen ops base i id false):Zp X ops base i o e = true:=by
 refine ask0 ?_
 simp only [Zj,h]
 rw [Y9]
 refine ⟨?_,?_⟩
 ·rw [ht,YJ];intro id hid
  rcases hs id hid with ⟨h1,_⟩ | ⟨j,rfl,h1,h2,h3⟩
  ·simp [h1]
  ·simp only [Yi,h1 rfl,h2,Y0l,Y0P,Bool.true_and,Yk,decide_eq_true_eq];exact .inr (by omega)
 ·cases ids with
  | nil => rw [ht];simp
  | cons a l =>
   have:Z6e (Region.before ops) ops i = true:=by
    rcases hs a (by simp) with ⟨_,_,h1⟩ | ⟨j,_,h1,_⟩
    ·exact h1 rfl
    ·unfold Z6e;simp [h1 rfl]
   simp [this]
def SeenR (X:Ctx) (e:Env) (ops:Array Oper) (base id:Nat) (op:Op):Prop:=id < base∧∃ ids,Z2x X ops e op = ids∧id ∈ ids
def SeenW (X:Ctx) (e:Env) (ops:Array Oper) (base i id:Nat):Prop :=
 (id < base∧Z2w X e (Region.before ops) ops i id = false)∨∃ j,id = base + j∧((Region.before ops).getD i 0).testBit j = true∧j < ops.size
theorem Z2c {k:Nat} (h:ZAi (Region.before ops) ops i = false):Z2w X e (Region.before ops) ops i k = false:=by
 unfold ZAi at h
 unfold Z2w
 rw [List.any_eq_false] at h ⊢
 intro j hj
 have:=h j hj
 cases ho:ops[j]? with
 | none => simp
 | some o =>
  rw [ho] at this;simp only [Y9,not_and,Y09] at this ⊢;intro hu hr;rw [this hu] at hr;cases hr
inductive Elsewhere (X:Ctx) (e:Env) (ops:Array Oper) (id:Nat):List Nat→Prop
 | nil:Elsewhere X e ops id []
 | cons {j:Nat} {o:Oper} {ids js:List Nat} (h1:ops[j]? = some o) (h2:Z2x X ops e o.op = ids) (h3:∀ x ∈ ids,id ≠ x) (t:Elsewhere X e ops id js):Elsewhere X e ops id (j :: js)
theorem elsewhere_mem {id:Nat} {js:List Nat} (h:Elsewhere X e ops id js):∀ j ∈ js,∀ o,ops[j]? = some o→id ∉ Z2x X ops e o.op:=by
 induction h with
 | nil => intro j hj;cases hj
 | cons h1 h2 h3 t ih =>
  intro j hj o ho
  rcases List.mem_cons.1 hj with rfl | hj
  ·rw [h1] at ho;cases ho;rw [h2];exact fun hm => h3 _ hm rfl
  ·exact ih j hj o ho
theorem Z63 {id:Nat} (js:List Nat) (hs:((List.range ops.size).all fun j => !(unord (Region.before ops) i j && (match ops[j]? with | some o => isRW o.op | none => false)) || (js.contains j && (match ops[j]? with | some o => ZB7 ops o.op | none => true))) = true)
  (h:Elsewhere X e ops id js):Z2w X e (Region.before ops) ops i id = false:=by
 unfold Z2w
 rw [List.any_eq_false]
 intro j hj
 rw [YJ] at hs
 have:=hs j hj
 cases ho:ops[j]? with
 | none => simp
 | some o =>
  rw [ho] at this;simp only [Yk,YV,Y9,Y0t,List.contains_iff_mem] at this;simp only [Y9,not_and,Y09,YV];intro hu hr
  rcases this with (h1 | h1) | ⟨h1,h2⟩
  ·rw [hu] at h1;cases h1
  ·rw [hr] at h1;cases h1
  ·have:=elsewhere_mem h j h1 o ho
   simp [h2,this]
theorem Has.ne {j k:Nat} {r s:Res} {a b:Nat} (H:Has σ lo hi L) (hj:L[j]? = some r) (hk:L[k]? = some s) (hjk:Nat.beq j k = false) (ha:r.owner = some a) (hb:s.owner = some b):a ≠ b:=fun h =>
 H.sep j k r s (fun e => by subst e;simp at hjk) hj hk a ha (h ▸ hb)
theorem ne_one {a b:Nat} (h:a ≠ b):∀ x ∈ [b],a ≠ x:=fun x hx => by rw [List.mem_singleton.1 hx];exact h
theorem ne_none {a:Nat}:∀ x ∈ ([] : List Nat),a ≠ x:=fun x hx => nomatch hx
theorem ask_seenW {o:Oper} {id:Nat} (h:Zs o.op = .write) (ht:touched X e o.op = [id]) (hs:SeenW X e ops base i id):Zp X ops base i o e = true:=by
 refine ask0 ?_
 simp only [Zj,h,ht,Yw,List.all_nil,Bool.and_true]
 rcases hs with ⟨h1,h0⟩ | ⟨j,rfl,h2,h3⟩
 ·simp [h1,h0]
 ·simp only [Yi,h2,Yk,Y9,decide_eq_true_eq];exact .inr ⟨⟨by omega,trivial⟩,by omega⟩
theorem ZCD {o:Oper} {ids:List Nat} (h:Zs o.op = .write) (ht:touched X e o.op = ids) (hs:∀ id ∈ ids,Seen ops base i id true):Zp X ops base i o e = true:=by
 refine ask0 ?_
 simp only [Zj,h,ht,YJ]
 intro id hid
 rcases hs id hid with ⟨h1,h0⟩ | ⟨j,rfl,h1,h2,h3⟩
 ·simp [h1,Z2c (h0.1 rfl)]
 ·simp only [Yi,h2,Yk,Y9,decide_eq_true_eq];exact .inr ⟨⟨by omega,trivial⟩,by omega⟩
theorem Ops.boxH {cs:List PV} (H:Has σ lo hi L) (hlo:lo≤base + i) (hhi:base + i < hi) (hx:Z0 X e x = some v) (hc:v.cells = some cs) (hd:Nat.blt d n = true)
  (hk:∀ σ',Has σ' (base + i + 1) hi (.blk (base + i) t1 cs :: L)→Ops X n dr ops base (i + 1) l (set e d (.ptr (base + i) cs.length 0)) σ' K) :
  Ops X n dr ops base i (⟨some d,.box t1 x,t,p,af,none⟩ :: l) e σ K :=
 .plain (x:=.ptr (base + i) cs.length 0) (σ1:=σ.put (base + i) (.blk t1 cs true)) (by simp only [Z5,hx,Y0,hc,Y8,newD]) (fun _ => Z16 rfl) hd
  (hk _ (H.push hlo hhi (r':=.blk (base + i) t1 cs) Z2D rfl))
theorem Ops.allocH {cs:List PV} (H:Has σ lo hi L) (hlo:lo≤base + i) (hhi:base + i < hi) (hz:tzero X.P t1 = some cs) (hd:Nat.blt d n = true)
  (hk:∀ σ',Has σ' (base + i + 1) hi (.blk (base + i) t1 cs :: L)→Ops X n dr ops base (i + 1) l (set e d (.ptr (base + i) cs.length 0)) σ' K) :
  Ops X n dr ops base i (⟨some d,.alloc t1,t,p,af,none⟩ :: l) e σ K :=
 .plain (x:=.ptr (base + i) cs.length 0) (σ1:=σ.put (base + i) (.blk t1 cs true)) (by simp only [Z5,hz,Y8,newD]) (fun _ => Z16 rfl) hd
  (hk _ (H.push hlo hhi (r':=.blk (base + i) t1 cs) Z2D rfl))
theorem Ops.ZN {id ver off f fo:Nat} {ft:TypeId} {m:Nat} {te:TypeId} {cells:List PV} (H:Has σ lo hi L) (k:Nat) (hk:L[k]? = some (.blk id te cells)) (hv:cells.length = ver) (hx:Z0 X e x = some (.ptr id ver off))
  (hf:tfield X.P t1 f = some (fo,ft)) (hs:tsize X.P ft = some (m + 1)) (ha:dr = true→Seen ops base i id false) (hd:Nat.blt d n = true)
  (hk':Ops X n dr ops base (i + 1) l (set e d (.ptr id ver (off + fo))) σ K):Ops X n dr ops base i (⟨some d,.fieldAddr t1 x f,t,p,af,none⟩ :: l) e σ K:=by
 refine .plain (x:=.ptr id ver (off + fo)) (σ1:=σ) ?_ (fun h => Z38 (ids:=[id]) rfl ?_ (fun j hj => by simp at hj;subst hj;exact ha h)) hd hk'
 ·simp only [Z5,hx,Y0,Z1P,hf,hs,H.cur hk hv,if_true,Y8]
 ·simp only [touched,Zf,YO,YT,hx,vids,YQ]
theorem Ops.loadH {id ver off:Nat} {te:TypeId} {cells:List PV} (H:Has σ lo hi L) (k:Nat) (hk:L[k]? = some (.blk id te cells)) (hv:cells.length = ver) (hx:Z0 X e x = some (.ptr id ver off))
  (hg:tagg X.P t1 = some false) (hc:cells[off]? = some v) (ha:dr = true→Seen ops base i id false) (hd:Nat.blt d n = true)
  (hk':Ops X n dr ops base (i + 1) l (set e d v) σ K):Ops X n dr ops base i (⟨some d,.load t1 x,t,p,af,none⟩ :: l) e σ K:=by
 refine .plain (x:=v) (σ1:=σ) ?_ (fun h => Z38 (ids:=[id]) rfl ?_ (fun j hj => by simp at hj;subst hj;exact ha h)) hd hk'
 ·simp only [Z5,hx,Y0,Z4A,H.blk hk,hv,if_true,hg,hc,Y8]
 ·simp only [touched,Zf,YO,YT,hx,vids,YQ]
theorem Ops.Z2N {id ver off m:Nat} {te:TypeId} {cells cs:List PV} (H:Has σ lo hi L) (k:Nat) (hk:L[k]? = some (.blk id te cells)) (hv:cells.length = ver) (hx:Z0 X e x = some (.ptr id ver off))
  (hg:tagg X.P t1 = some true) (hm:tsize X.P t1 = some m) (hl:Nat.ble (off + m) cells.length = true) (hc:(cells.drop off).take m = cs) (ha:dr = true→Seen ops base i id false) (hd:Nat.blt d n = true)
  (hk':Ops X n dr ops base (i + 1) l (set e d (.agg cs)) σ K):Ops X n dr ops base i (⟨some d,.load t1 x,t,p,af,none⟩ :: l) e σ K:=by
 refine .plain (x:=.agg cs) (σ1:=σ) ?_ (fun h => Z38 (ids:=[id]) rfl ?_ (fun j hj => by simp at hj;subst hj;exact ha h)) hd hk'
 ·have hl:off + m≤cells.length:=Y04 hl
  have h2:off + m≤ver:=hv ▸ hl
  simp only [Z5,hx,Y0,Z4A,H.blk hk,hv,if_true,hg,hm,h2,hc,Y8]
 ·simp only [touched,Zf,YO,YT,hx,vids,YQ]
theorem Ops.Z39 {id ver off m:Nat} {te:TypeId} {cells ys cells':List PV} (H:Has σ lo hi L) (k:Nat) (hk:L[k]? = some (.blk id te cells)) (hv:cells.length = ver) (hx:Z0 X e x = some (.ptr id ver off))
  (hy:Z0 X e y = some v) (hc:v.cells = some ys) (hm:tsize X.P t1 = some m) (hl:ys.length = m) (hle:Nat.ble (off + m) cells.length = true) (hc':splice cells off ys = cells')
  (ha:dr = true→SeenW X e ops base i id)
  (hk':∀ σ',Has σ' lo hi (L.set k (.blk id te cells'))→Ops X n dr ops base (i + 1) l e σ' K):Ops X n dr ops base i (⟨none,.store t1 x y,t,p,af,none⟩ :: l) e σ K:=by
 refine .plain0 (x:=.undef) (σ1:=σ.put id (.blk te cells' true)) ?_ (fun h => ask_seenW (id:=id) rfl ?_ (ha h)) (hk' _ (H.put hk rfl (r':=.blk id te cells') Z2D rfl))
 ·have hle:off + m≤cells.length:=Y04 hle
  simp only [Z5,hx,hy,Z5i,H.blk hk,hv,if_true,hm,hc,hl,hc'];rw [if_pos ⟨trivial,hv ▸ hle⟩]
  rfl
 ·simp only [touched,Zf,YO,YT,hx,vids,YQ]
theorem Ops.Z0B {f fo:Nat} {ft:TypeId} {m:Nat} {cells:List FV} (hx:Z0 X e x = some (.fptr cells)) (hf:tfield X.P t1 f = some (fo,ft)) (hs:tsize X.P ft = some (m + 1)) (hd:Nat.blt d n = true)
  (hk':Ops X n dr ops base (i + 1) l (set e d (.fptr (cells.drop fo))) σ K):Ops X n dr ops base i (⟨some d,.fieldAddr t1 x f,t,p,af,none⟩ :: l) e σ K:=by
 refine .plain (x:=.fptr (cells.drop fo)) (σ1:=σ) ?_ (fun h => Z4W rfl ?_) hd hk'
 ·simp only [Z5,hx,Y0,Z1P,hf,hs,Y8]
 ·simp only [touched,Zf,YO,YT,hx,vids,YQ]
theorem Ops.loadP {u:FV} {cells:List FV} (hx:Z0 X e x = some (.fptr cells)) (hg:tagg X.P t1 = some false) (hc:cells[0]? = some u) (hd:Nat.blt d n = true)
  (hk':Ops X n dr ops base (i + 1) l (set e d (.v u)) σ K):Ops X n dr ops base i (⟨some d,.load t1 x,t,p,af,none⟩ :: l) e σ K:=by
 refine .plain (x:=.v u) (σ1:=σ) ?_ (fun h => Z4W rfl ?_) hd hk'
 ·simp only [Z5,hx,Y0,Z4A,hg,hc,Y8]
 ·simp only [touched,Zf,YO,YT,hx,vids,YQ]
theorem Ops.loadPA {m:Nat} {cells cs:List FV} (hx:Z0 X e x = some (.fptr cells)) (hg:tagg X.P t1 = some true) (hm:tsize X.P t1 = some m) (hl:Nat.ble m cells.length = true) (hc:cells.take m = cs) (hd:Nat.blt d n = true)
  (hk':Ops X n dr ops base (i + 1) l (set e d (.agg (vs cs))) σ K):Ops X n dr ops base i (⟨some d,.load t1 x,t,p,af,none⟩ :: l) e σ K:=by
 refine .plain (x:=.agg (vs cs)) (σ1:=σ) ?_ (fun h => Z4W rfl ?_) hd hk'
 ·have hl:m≤cells.length:=Y04 hl
  simp only [Z5,hx,Y0,Z4A,hg,hm,hl,if_true,hc,Y8]
 ·simp only [touched,Zf,YO,YT,hx,vids,YQ]
def at? {α:Type} (l:List α) (i:Int):Option α:=if 0≤i then l[i.toNat]? else none
theorem at?_some {α:Type} {l:List α} {i:Int} {a:α} (h:at? l i = some a):0≤i∧l[i.toNat]? = some a:=by
 unfold at? at h
 split at h
 ·exact ⟨by assumption,h⟩
 ·cases h
theorem Ops.indexP {α:Type} {c:α→List FV} {xs:List α} {iv:Int} {ik:IntKind} {u:α} {el:TypeId} {m:Nat} (hx:Z0 X e x = some (.v (.sl (xs.map c)))) (hy:Z0 X e y = some (.v (.int ik iv))) (hu:at? xs iv = some u)
  (ht:tslice X.P t1 = some el) (hs:tsize X.P el = some m) (hm:(c u).length = m) (hd:Nat.blt d n = true)
  (hk':Ops X n dr ops base (i + 1) l (set e d (.fptr (c u))) σ K):Ops X n dr ops base i (⟨some d,.indexAddr t1 x y,t,p,af,none⟩ :: l) e σ K:=by
 obtain ⟨h0,hu⟩:=at?_some hu
 have hu':(xs.map c)[iv.toNat]? = some (c u):=by rw [YP,hu];rfl
 refine .plain (x:=.fptr (c u)) (σ1:=σ) ?_ (fun h => Z4W rfl ?_) hd hk'
 ·simp only [Z5,hx,hy,Z1A,Z49,if_pos h0,ht,Y0,hs,hu',hm,if_true,Y8]
 ·simp only [touched,Zf,YO,YT,hx,vids,YQ]
theorem Ops.lenP {xs:List (List FV)} {af2:Array TypeId} {el:TypeId} (hx:Z0 X e x = some (.v (.sl xs))) (ht:tslice X.P t1 = some el) (hd:Nat.blt d n = true)
  (hk':Ops X n dr ops base (i + 1) l (set e d (.v (.int .i64 xs.length))) σ K):Ops X n dr ops base i (⟨some d,.call { callee:=.builtin .len,args:=#[x],argTypes:=#[t1] },t,p,af,none⟩ :: l) e σ K:=by
 refine .plain (x:=.v (.int .i64 xs.length)) (σ1:=σ) ?_ (fun h => Z4W rfl ?_) hd hk'
 ·simp only [Z5,Zx,ZY,hx,Y0,Z0X,lenD,ht,Y8]
 ·simp only [touched,Zf,YO,YT,hx,vids,YQ]
end
end Go.Dn
