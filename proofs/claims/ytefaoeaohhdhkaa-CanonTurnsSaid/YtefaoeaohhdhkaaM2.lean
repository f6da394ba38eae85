/- Part 2 of what the row stands on. -/
import Derived.Below
import Derived.ChangeArms
import Derived.ChangeOld
import Derived.SizedLaws
import Derived.KernelRfl
import Derived.Test.YtefaoeaohhdhkaaProg
import Derived.Test.YtefaoeaohhdhkaaM1
set_option linter.unusedVariables false
set_option linter.unusedSimpArgs false
namespace Go.Dn
open Go

def rangeY {S T : Type} (yb : S → T → Option (S × Nat)) : S × Nat → T → Option ((S × Nat) × Bool) := fun s t => if s.2 = 0 then (yb s.1 t).map fun r => (r, r.2 == 0) else none

def cI (k : IntKind) (x : Int) : List FV := [.int k x]
def cB (x : Bool) : List FV := [.bool x]
def cS (x : ByteArray) : List FV := [.str x]
def cL {α : Type} (c : α → List FV) (x : List α) : List FV := [.sl (x.map c)]

abbrev w64 (x : Int) : Int := IntKind.i64.wrap x
def nz? (b : Int) : Option Unit := if b = 0 then none else some ()
theorem nz_ne {b : Int} {u : Unit} (h : nz? b = some u) : b ≠ 0 := by
 unfold nz? at h
 split at h
 ·cases h
 ·assumption
abbrev iAnd (k : IntKind) (x y : Int) : Int := k.wrap (BitVec.ofInt k.bits x &&& BitVec.ofInt k.bits y).toNat
abbrev iOr (k : IntKind) (x y : Int) : Int := k.wrap (BitVec.ofInt k.bits x ||| BitVec.ofInt k.bits y).toNat
abbrev iXor (k : IntKind) (x y : Int) : Int := k.wrap (BitVec.ofInt k.bits x ^^^ BitVec.ofInt k.bits y).toNat
abbrev iAndNot (k : IntKind) (x y : Int) : Int := k.wrap (BitVec.ofInt k.bits x &&& ~~~ BitVec.ofInt k.bits y).toNat
abbrev iMin (x y : Int) : Int := if y < x then y else x
abbrev iMax (x y : Int) : Int := if y > x then y else x

def clone? {α : Type} (by_ : Nat) (l : List α) : Option (List α) := if l.length * by_ ≤ room then some l else none
theorem clone_some {α : Type} {by_ : Nat} {l r : List α} (h : clone? by_ l = some r) : l.length * by_ ≤ room ∧ r = l := by
 unfold clone? at h
 split at h
 ·cases h; exact ⟨by assumption, rfl⟩
 ·cases h
def gcd? (a b : Int) : Option Int := if (0 ≤ a ∧ a ≤ 18446744073709551615) ∧ 0 ≤ b ∧ b ≤ 18446744073709551615 then some (Int.gcd a b) else none
def Jx.elim {A R B : Type} (j : Jx A R) (g : R → Option B) (f : A → Option B) : Option B := match j with | .go a => f a | .ret r => g r
theorem jgo {A R B : Type} {a : A} {g : R → Option B} {f : A → Option B} {b : B} (h : (Jx.go a : Jx A R).elim g f = some b) : f a = some b := h
theorem jret {A R B : Type} {r : R} {g : R → Option B} {f : A → Option B} {b : B} (h : (Jx.ret r : Jx A R).elim g f = some b) : g r = some b := h

theorem or_T {c t : Bool} (h : c = true) : PV.v (.bool true) = .v (.bool (c || t)) := by rw [h]; rfl
theorem or_F {c t : Bool} (h : c = false) : PV.v (.bool t) = .v (.bool (c || t)) := by rw [h]; rfl
theorem and_T {c t : Bool} (h : c = true) : PV.v (.bool t) = .v (.bool (c && t)) := by rw [h]; rfl
theorem and_F {c t : Bool} (h : c = false) : PV.v (.bool false) = .v (.bool (c && t)) := by rw [h]; rfl

section
variable {X : Ctx} {n : Nat} {dr : Bool} {fn : FuncId} {ops : Array Oper} {base i : Nat} {l : List Oper} {e : Env} {σ : Heap} {K : Env → Heap → Prop} {Q : Ex → Env → Heap → Prop} {c a b : Code}
variable {d : Nat} {t t1 t2 : TypeId} {p : String} {af : Array Edge} {x y z : Operand} {v : PV} {lo hi : Nat} {L : List Res}

theorem Ops.lenPt {α : Type} {c : α → List FV} {xs : List α} {el : TypeId} (hx : operandD X e x = some (.v (.sl (xs.map c)))) (ht : tslice X.P t1 = some el) (hd : Nat.blt d n = true)
  (hk' : Ops X n dr ops base (i + 1) l (set e d (.v (.int .i64 xs.length))) σ K) : Ops X n dr ops base i (⟨some d, .call { callee := .builtin .len, args := #[x], argTypes := #[t1] }, t, p, af, none⟩ :: l) e σ K := by
 refine Ops.lenP (af2 := #[]) hx ht hd ?_
 rw [List.length_map]; exact hk'

theorem Ops.lenSt {α : Type} {c : α → List FV} {xs : List α} {el et : TypeId} {sz : Nat} {lv : Bool} (H : Has σ lo hi L) (k : Nat) (hk : L[k]? = some (.sl v et sz (xs.map c) lv)) (hx : operandD X e x = some v) (ht : tslice X.P t1 = some el)
  (ha : dr = true → ∀ id, v.owner = some id → Seen ops base i id false) (hd : Nat.blt d n = true)
  (hk' : Ops X n dr ops base (i + 1) l (set e d (.v (.int .i64 xs.length))) σ K) : Ops X n dr ops base i (⟨some d, .call { callee := .builtin .len, args := #[x], argTypes := #[t1] }, t, p, af, none⟩ :: l) e σ K := by
 refine Ops.lenS H k hk hx ht ha hd ?_
 rw [List.length_map]; exact hk'

theorem vids_owner {v : PV} {id : Nat} (h : id ∈ vids v) (hv : ∀ i v' o, v ≠ .ptr i v' o) : v.owner = some id := by
 cases v <;> simp [vids] at h
 ·exact h ▸ rfl
 ·exact absurd rfl (hv _ _ _)

theorem bring_noptr {sz : Nat} {w : PV} {ys : List (List FV)} (H : Has σ lo hi L) (h : Bring L sz w ys) : ∀ i v' o, w ≠ .ptr i v' o := by
 intro i v' o e
 subst e
 cases h with
 | s k h => obtain ⟨_, ⟨h, _⟩ | ⟨_, h, _⟩⟩ := H.sl h <;> cases h

theorem Ops.appendSt {α : Type} {c : α → List FV} {xs ys r : List α} {el : TypeId} {sz by_ : Nat} {w : PV} {zs : List PV} (H : Has σ lo hi L) (hlo : lo ≤ base + i) (hhi : base + i < hi) (k : Nat) (hk : L[k]? = some (.sl v el sz (xs.map c) true))
  (hx : operandD X e x = some v) (hy : operandD X e y = some w) (hb : Bring L sz w (ys.map c)) (hr : app? by_ xs ys = some r) (ht : tslice X.P t1 = some el) (hs : tsize X.P el = some sz) (hby : tbytes X.P el = some by_) (hz : tzero X.P el = some zs)
  (hc : (sz != 0 && by_ != 0 && zs.length == sz) = true)
  (ha : dr = true → (∀ id, v.owner = some id → Seen ops base i id true) ∧ (∀ id, w.owner = some id → Seen ops base i id true)) (hd : Nat.blt d n = true)
  (hk' : ∀ v' σ', Has σ' (base + i + 1) hi (L.set k (.sl v' el sz (r.map c) true)) → Ops X n dr ops base (i + 1) l (set e d v') σ' K) :
  Ops X n dr ops base i (⟨some d, .call { callee := .builtin .append, args := #[x, y], argTypes := #[t1, t1] }, t, p, af, none⟩ :: l) e σ K := by
 unfold app? at hr
 split at hr
 ·rename_i hroom
  cases hr
  refine Ops.appendS H hlo hhi k hk hx hy hb ht hs hby hz hc (by simpa using hroom) (fun h id hid => ?_) hd ?_
  ·rcases List.mem_append.1 hid with hid | hid
   ·refine (ha h).1 id (vids_owner hid ?_)
    intro i v' o e
    subst e
    obtain ⟨_, ⟨h, _⟩ | ⟨_, h, _⟩⟩ := H.sl hk <;> cases h
   ·exact (ha h).2 id (vids_owner hid (bring_noptr H hb))
  ·rw [List.map_append] at hk'
   exact hk'
 ·cases hr

def cpy {α : Type} (xs ys : List α) : List α := ys.take (min ys.length xs.length) ++ xs.drop (min ys.length xs.length)

theorem flat_take {sz : Nat} : ∀ {ys : List (List FV)}, (∀ y ∈ ys, y.length = sz) → ∀ k, ys.flatten.take (k * sz) = (ys.take k).flatten
 | [], _, k => by simp
 | y :: ys, h, 0 => by simp
 | y :: ys, h, k + 1 => by
  have hy := h y List.mem_cons_self
  have ih := flat_take (ys := ys) (fun z hz => h z (List.mem_cons_of_mem _ hz)) k
  rw [List.flatten_cons, List.take_succ_cons, List.flatten_cons, Nat.succ_mul, Nat.add_comm (k * sz) sz, ← hy, List.take_length_add_append, hy, ih]

theorem flat_dropk {sz : Nat} : ∀ {ys : List (List FV)}, (∀ y ∈ ys, y.length = sz) → ∀ k, ys.flatten.drop (k * sz) = (ys.drop k).flatten
 | [], _, k => by simp
 | y :: ys, h, 0 => by simp
 | y :: ys, h, k + 1 => by
  have hy := h y List.mem_cons_self
  have ih := flat_dropk (ys := ys) (fun z hz => h z (List.mem_cons_of_mem _ hz)) k
  rw [List.flatten_cons, List.drop_succ_cons, Nat.succ_mul, Nat.add_comm (k * sz) sz, ← hy, List.drop_length_add_append, hy, ih]

theorem Ops.copyS {α : Type} {c : α → List FV} {xs ys : List α} {el : TypeId} {sz m : Nat} {w : PV} {t9 : TypeId} {id : Nat} (H : Has σ lo hi L) (k : Nat) (hk : L[k]? = some (.sl v el sz (xs.map c) true)) (hv : v = .buf id m sz)
  (hx : operandD X e x = some v) (hy : operandD X e y = some w) (hb : Bring L sz w (ys.map c)) (ht : tslice X.P t1 = some el) (hs : tsize X.P el = some sz)
  (ha : dr = true → (∀ id, v.owner = some id → Seen ops base i id true) ∧ (∀ id, w.owner = some id → Seen ops base i id true)) (hd : Nat.blt d n = true)
  (hk' : ∀ σ', Has σ' lo hi (L.set k (.sl v el sz ((cpy xs ys).map c) true)) → Ops X n dr ops base (i + 1) l (set e d (.v (.int .i64 (min ys.length xs.length : Nat)))) σ' K) :
  Ops X n dr ops base i (⟨some d, .call { callee := .builtin .copy, args := #[x, y], argTypes := #[t1, t9] }, t, p, af, none⟩ :: l) e σ K := by
 obtain ⟨hb1, hb2⟩ := brought H hb
 obtain ⟨hsz, hv'⟩ := H.sl hk
 subst hv
 rcases hv' with ⟨h, _⟩ | ⟨id', hid, hbl⟩
 ·cases h
 cases hid
 have hl2 : (vs (xs.map c).flatten).length = (xs.map c).length * sz := by rw [vs_length, flat_length hsz]
 have hcp : splice (vs (xs.map c).flatten) 0 ((vs (ys.map c).flatten).take (min (ys.map c).length (xs.map c).length * sz)) = vs ((cpy xs ys).map c).flatten := by
  rw [vs_take, flat_take hb2]
  unfold splice
  rw [List.take_zero, List.nil_append, vs_length, Nat.zero_add, vs_drop, flat_length (sz := sz) (fun y hy => hb2 y (List.mem_of_mem_take hy)), flat_dropk hsz, ← vs_append, ← List.flatten_append]
  congr 1
  unfold cpy
  rw [List.map_append, List.map_take, List.map_drop]
  simp only [List.length_take, List.length_map]
  congr 3
  omega
 refine .plain (x := .v (.int .i64 (min ys.length xs.length : Nat))) (σ1 := σ.put id (.blk el (vs ((cpy xs ys).map c).flatten) true)) ?_ (fun h => ask_seen_w rfl rfl ?_) hd
  (hk' _ (H.put hk rfl (r' := .sl (.buf id (xs.map c).length sz) el sz ((cpy xs ys).map c) true) ⟨fun y hy => ?_, .inr ⟨id, ?_, put_ent⟩⟩ rfl))
 ·simp only [stepOp, callOpD, operandsD, hx, hy, Option.bind_some, builtinD, copyD, ht, hs, hb1, hbl]
  rw [if_pos ⟨trivial, trivial, hl2⟩, hcp]
  simp only [List.length_map]
 ·intro id' hid
  simp only [touched, opLooks, List.flatMap_cons, List.flatMap_nil, hx, hy, List.append_nil] at hid
  rcases List.mem_append.1 hid with hid | hid
  ·exact (ha h).1 _ (vids_owner hid (by intros; simp))
  ·exact (ha h).2 _ (vids_owner hid (bring_noptr H hb))
 ·obtain ⟨a, ha', rfl⟩ := List.mem_map.1 hy
  unfold cpy at ha'
  rcases List.mem_append.1 ha' with h | h
  ·exact hb2 _ (List.mem_map.2 ⟨a, List.mem_of_mem_take h, rfl⟩)
  ·exact hsz _ (List.mem_map.2 ⟨a, List.mem_of_mem_drop h, rfl⟩)
 ·have : ((cpy xs ys).map c).length = (xs.map c).length := by
   unfold cpy
   simp only [List.length_map, List.length_append, List.length_take, List.length_drop]
   omega
  rw [this]

theorem Ops.binA {op : BinOp} {u w : PV} {r : FV} (hx : operandD X e x = some u) (hy : operandD X e y = some w) (hr : binD X.P σ op t1 u w = some r) (ha : dr = true → drawAsk X ops base i ⟨some d, .binOp op t1 x y t2, t, p, af, none⟩ e = true) (hd : Nat.blt d n = true)
  (hk : Ops X n dr ops base (i + 1) l (set e d (.v r)) σ K) : Ops X n dr ops base i (⟨some d, .binOp op t1 x y t2, t, p, af, none⟩ :: l) e σ K :=
 .plain (x := .v r) (σ1 := σ) (by simp only [stepOp, hx, hy, hr, Option.map_some]) ha hd hk

theorem ask_eqA {op : BinOp} {us ws : List PV} {o : Oper} (hx : operandD X e x = some (.agg us)) (hy : operandD X e y = some (.agg ws)) (hop : opKind (.binOp op t1 x y t2) = .read) (ho : o.op = .binOp op t1 x y t2) : drawAsk X ops base i o e = true :=
 ask_read0 (by rw [ho]; exact hop) (by rw [ho]; simp only [touched, opLooks, List.flatMap_cons, List.flatMap_nil, hx, hy, vids, List.append_nil])

theorem Ops.buildA {parts : Array (Nat × Operand)} {cs : List PV} (hb : buildD X e t1 parts.toList = some (.agg cs)) (hd : Nat.blt d n = true) (hk : Ops X n dr ops base (i + 1) l (set e d (.agg cs)) σ K) : Ops X n dr ops base i (⟨some d, .build t1 parts, t, p, af, none⟩ :: l) e σ K :=
 .plain (x := .agg cs) (σ1 := σ) (by simp only [stepOp, hb, Option.map_some]) (fun _ => ask_inert rfl) hd hk

theorem Ops.makeClo {f : FuncId} {first caps : Array Operand} {fs cs : List PV} (hf : operandsD X e first.toList = some fs) (hc : operandsD X e caps.toList = some cs) (hn : (fs.isEmpty && cs.isEmpty) = false) (hd : Nat.blt d n = true)
  (hk : Ops X n dr ops base (i + 1) l (set e d (.clo f fs cs)) σ K) : Ops X n dr ops base i (⟨some d, .makeFunc (.func f) first caps, t, p, af, none⟩ :: l) e σ K := by
 refine .plain (x := .clo f fs cs) (σ1 := σ) ?_ (fun _ => ask_inert rfl) hd hk
 simp only [stepOp, hf, hc]
 cases fs <;> cases cs <;> first | rfl | cases hn

theorem Ops.min2 {k : IntKind} {u w : Int} {ts : Array TypeId} (hx : operandD X e x = some (.v (.int k u))) (hy : operandD X e y = some (.v (.int k w))) (hd : Nat.blt d n = true) (hk : Ops X n dr ops base (i + 1) l (set e d (.v (.int k (iMin u w)))) σ K) :
  Ops X n dr ops base i (⟨some d, .call { callee := .builtin .min, args := #[x, y], argTypes := ts }, t, p, af, none⟩ :: l) e σ K :=
 .plain (x := .v (.int k (iMin u w))) (σ1 := σ) (by simp only [stepOp, callOpD, operandsD, hx, hy, Option.bind_some, builtinD, foldInt, if_true, Option.map_some]) (fun _ => ask_inert rfl) hd hk
theorem Ops.max2 {k : IntKind} {u w : Int} {ts : Array TypeId} (hx : operandD X e x = some (.v (.int k u))) (hy : operandD X e y = some (.v (.int k w))) (hd : Nat.blt d n = true) (hk : Ops X n dr ops base (i + 1) l (set e d (.v (.int k (iMax u w)))) σ K) :
  Ops X n dr ops base i (⟨some d, .call { callee := .builtin .max, args := #[x, y], argTypes := ts }, t, p, af, none⟩ :: l) e σ K :=
 .plain (x := .v (.int k (iMax u w))) (σ1 := σ) (by simp only [stepOp, callOpD, operandsD, hx, hy, Option.bind_some, builtinD, foldInt, if_true, Option.map_some]) (fun _ => ask_inert rfl) hd hk

theorem cut?_some {α : Type} {xs r : List α} {i j : Int} (h : cut? xs i j = some r) : 0 ≤ i ∧ i ≤ j ∧ j ≤ xs.length ∧ r = (xs.take j.toNat).drop i.toNat := by
 unfold cut? at h
 split at h
 ·rename_i h1; cases h; exact ⟨h1.1, h1.2.1, h1.2.2, rfl⟩
 ·cases h

theorem sliceP_ok {α : Type} {c : α → List FV} {xs r : List α} {i0 j0 : Int} {P : Program} {el : TypeId} {m : Nat} {lo hi : Option PV} (h : cut? xs i0 j0 = some r) (ht : tslice P t1 = some el) (hs : tsize P el = some m) (hm : ∀ u, (c u).length = m)
  (hlo : (match lo with | none => some 0 | some v => asNat v) = some i0.toNat) (hhi : (match hi with | none => some xs.length | some v => asNat v) = some j0.toNat) : sliceD P t1 (.v (.sl (xs.map c))) lo hi none = some (.v (.sl (r.map c))) := by
 obtain ⟨h1, h2, h3, rfl⟩ := cut?_some h
 have hc : i0.toNat ≤ j0.toNat ∧ j0.toNat ≤ xs.length ∧ elemLen (xs.map c) i0.toNat m = true := by
  refine ⟨by omega, by omega, ?_⟩
  simp only [elemLen, List.getElem?_map]
  cases xs[i0.toNat]? with
  | none => rfl
  | some u => simp [hm]
 have hc' : xs.length = j0.toNat → i0.toNat ≤ j0.toNat ∧ j0.toNat ≤ j0.toNat ∧ elemLen (xs.map c) i0.toNat m = true := fun _ => ⟨hc.1, Nat.le_refl _, hc.2.2⟩
 cases lo <;> cases hi <;> simp only [Option.some.injEq] at hlo hhi <;> simp only [sliceD, ht, Option.bind_some, hs, List.length_map, hlo, hhi, List.map_drop, List.map_take] <;> first | rw [if_pos hc] | rw [if_pos (hc' hhi)]

theorem asNat_int {k : IntKind} {m : Int} (h : 0 ≤ m) : asNat (.v (.int k m)) = some m.toNat := by simp [asNat, h]

theorem Ops.sliceP01 {α : Type} {c : α → List FV} {xs r : List α} {el : TypeId} {m : Nat} {k : IntKind} {j0 : Int} (h : cut? xs 0 j0 = some r) (hx : operandD X e x = some (.v (.sl (xs.map c)))) (hl : operandD X e y = some (.v (.int k j0))) (ht : tslice X.P t1 = some el) (hs : tsize X.P el = some m) (hm : ∀ u, (c u).length = m) (hd : Nat.blt d n = true)
  (hk : Ops X n dr ops base (i + 1) l (set e d (.v (.sl (r.map c)))) σ K) : Ops X n dr ops base i (⟨some d, .slice t1 x none (some y) none, t, p, af, none⟩ :: l) e σ K := by
 refine .plain (x := .v (.sl (r.map c))) (σ1 := σ) ?_ (fun _ => ?_) hd hk
 ·have h' := cut?_some h
  simp only [stepOp, hx, hl, optD, Option.map_some, sliceP_ok h ht hs hm (lo := none) (hi := some (.v (.int k j0))) rfl (asNat_int (by omega))]
 ·exact ask0 (by simp only [drawAsk0, opKind, hx])
end

inductive Sub : List Res → List Res → Prop
 | nil {L : List Res} : Sub [] L
 | cons {c : Res} {C L : List Res} (k : Nat) (h : L[k]? = some c) (t : Sub C L) : Sub (c :: C) L
theorem Sub.push {C L : List Res} {r : Res} (h : Sub C L) : Sub C (r :: L) := by
 induction h with
 | nil => exact .nil
 | cons k h t ih => exact .cons (k + 1) h ih
theorem Sub.inv {c : Res} {C L : List Res} (h : Sub (c :: C) L) : ∃ k : Nat, L[k]? = some c ∧ Sub C L := by
 cases h with
 | cons k h t => exact ⟨k, h, t⟩

noncomputable def callV (X : Ctx) (cv : PV) (args : List PV) (σ : Heap) : Option (PV × Heap) :=
 match cv with
 | .v (.fn f) => callL X (.fn f) args σ
 | .clo f first caps => callL X (.fn f) (first ++ args ++ caps) σ
 | _ => none

def FnH (X : Ctx) (f : FuncId) (args : List PV) (r : PV) (C : List Res) : Prop :=
 ∀ σ lo hi L, Sub C L → Has σ lo hi L → ∃ σ', callL X (.fn f) args σ = some (r, σ') ∧ Has σ' lo hi L
def CloH (X : Ctx) (cv : PV) (args : List PV) (r : PV) (C : List Res) : Prop :=
 ∀ σ lo hi L, Sub C L → Has σ lo hi L → ∃ σ', callV X cv args σ = some (r, σ') ∧ Has σ' lo hi L

section
variable {X : Ctx} {f : FuncId} {args : List PV} {r : PV} {C : List Res}
theorem Fn.toH (h : Fn X f args r) (C : List Res) : FnH X f args r C := fun σ lo hi L _ H => ⟨σ, h.call σ, H⟩
theorem CloH.fn (h : FnH X f args r C) : CloH X (.v (.fn f)) args r C := h
theorem CloH.clo {first caps : List PV} (h : FnH X f (first ++ args ++ caps) r C) : CloH X (.clo f first caps) args r C := h
theorem CloH.weak {cv : PV} (h : CloH X cv args r []) : CloH X cv args r C := fun σ lo hi L _ H => h σ lo hi L .nil H

theorem all_nil {α : Type} {p : α → Bool} : ([] : List α).all p = true := rfl
theorem all_t {α : Type} {p : α → Bool} {x : α} {l : List α} (h : p x = true) (t : l.all p = true) : (x :: l).all p = true := by rw [List.all_cons, h, t]; rfl
theorem all_get {α : Type} {p : α → Bool} {x : α} {l : List α} (h : l.all p = true) (i : Nat) (hx : l[i]? = some x) : p x = true := List.all_eq_true.1 h x (List.mem_of_getElem? hx)

def PV.still : PV → Bool
 | .ptr _ _ _ => true
 | .clo _ _ _ => true
 | .yld _ => true
 | x => x.pure
theorem expArg_still {σ : Heap} {x : PV} (h : x.still = true) : expArg σ x = some (x, σ) := by
 cases x <;> first | rfl | exact expArg_pure h
theorem expArgs_still {σ : Heap} : ∀ {xs : List PV}, xs.all PV.still = true → expArgs σ xs = some (xs, σ)
 | [], _ => rfl
 | x :: xs, h => by
  simp only [List.all_cons, Bool.and_eq_true] at h
  simp only [expArgs, expArg_still h.1, Option.bind_some, expArgs_still h.2]

theorem FnH.of {fu : Func} {c : Code} {m : Nat} (hf : X.P.funcs[f]? = some fu) (hb : fu.body = some c) (hi : X.intr f args = none) (hk : X.keep f = false) (ho : X.opn f = false) (hs : args.all PV.still = true) (hm : max fu.ntmps args.length = m)
  (hp : args.all PV.pure = true → C = [])
  (h : ∀ σ L, Sub C L → Hs σ L → Runs X m f c (envOf args) σ (EndsH X fu.results.toList r L)) : FnH X f args r C := by
 subst hm
 intro σ lo hi' L hC H
 by_cases hpu : args.all PV.pure = true
 ·have hC0 := hp hpu
  subst hC0
  obtain ⟨lf, x, e', σ1, h1, hE⟩ := (h Heap.empty [] .nil (Has.nil (Nat.le_refl _))).run
  obtain ⟨hx, xs, σ2, _, _, h2, h3, _⟩ := hE.out
  refine ⟨σ, callL_of_S (lf := lf) ?_, H⟩
  have hbody : bodyD X (callL X) lf f args Heap.empty = some (packD xs, σ1) := by
   simp only [bodyD, hf, hb, h1]
   rcases hx with rfl | rfl <;> simp only [h2, Option.map_some]
  simp only [callS, hi, hk, Bool.false_eq_true, if_false, expArgs_pure hpu, ho, hpu, if_true, hbody, Option.bind_some, h3, Option.map_some]
 ·obtain ⟨lf, x, e', σ1, h1, hE⟩ := (h σ (.floor hi' :: L) hC.push (H.all.floor hi' H.le)).run
  obtain ⟨hx, xs, σ2, lo2, hi2, h2, h3, H2⟩ := hE.out
  refine ⟨σ2, callL_of_S (lf := lf) ?_, ?_⟩
  ·have hbody : bodyD X (callL X) lf f args σ = some (packD xs, σ1) := by
    simp only [bodyD, hf, hb, h1]
    rcases hx with rfl | rfl <;> simp only [h2, Option.map_some]
   simp only [callS, hi, hk, Bool.false_eq_true, if_false, expArgs_still hs, ho, if_neg hpu, hbody, Option.bind_some, h3]
  ·have hfl : hi' ≤ σ2.nx := H2.holds 0 _ rfl
   have H3 := H2.erase 0
   exact ⟨H3.holds, fun k r hk id ho => ⟨(H.lt k r hk id ho).1, (H3.lt k r hk id ho).2⟩, H.sep, hfl⟩
end

section
variable {X : Ctx} {n : Nat} {dr : Bool} {fn : FuncId} {ops : Array Oper} {base i : Nat} {l : List Oper} {e : Env} {σ : Heap} {K : Env → Heap → Prop}
variable {d : Nat} {t : TypeId} {p : String} {af : Array Edge} {x : Operand} {lo hi : Nat} {L C : List Res}

theorem Ops.callH {f : FuncId} {args : Array Operand} {ts : Array TypeId} {ys : List PV} {r : PV} (H : Has σ lo hi L) (ha : operandsD X e args.toList = some ys) (hf : FnH X f ys r C) (hs : Sub C L)
  (hdr : dr = true → (ys.all PV.pure && !X.opn f && !X.keep f) = true ∨ allOrd (Region.before ops) ops i = true) (hd : Nat.blt d n = true)
  (hk : ∀ σ', Has σ' lo hi L → Ops X n dr ops base (i + 1) l (set e d r) σ' K) :
  Ops X n dr ops base i (⟨some d, .call { callee := .value (.func f), args := args, argTypes := ts }, t, p, af, none⟩ :: l) e σ K := by
 obtain ⟨σ', q1, q2⟩ := hf σ lo hi L hs H
 refine .plain (x := r) (σ1 := σ') (by simp only [stepOp, callOpD, ha, operandD, q1]) (fun h => ?_) hd (hk σ' q2)
 rcases hdr h with this | this
 case inr => exact ask_all this
 simp only [Bool.and_eq_true, Bool.not_eq_true'] at this
 exact ask0 (by simp only [drawAsk0, opKind, ha, callAsk, operandD, pure_calm this.1.1, this.1.2, this.2, Bool.not_false, Bool.and_self])

theorem Ops.callV {cv : PV} {args : Array Operand} {ts : Array TypeId} {ys : List PV} {r : PV} (H : Has σ lo hi L) (hx : operandD X e x = some cv) (ha : operandsD X e args.toList = some ys) (hf : CloH X cv ys r C) (hs : Sub C L)
  (hdr : dr = true → allOrd (Region.before ops) ops i = true) (hd : Nat.blt d n = true)
  (hk : ∀ σ', Has σ' lo hi L → Ops X n dr ops base (i + 1) l (set e d r) σ' K) :
  Ops X n dr ops base i (⟨some d, .call { callee := .value x, args := args, argTypes := ts }, t, p, af, none⟩ :: l) e σ K := by
 obtain ⟨σ', q1, q2⟩ := hf σ lo hi L hs H
 refine .plain (x := r) (σ1 := σ') ?_ (fun h => ask_all (hdr h)) hd (hk σ' q2)
 simp only [stepOp, callOpD, ha, hx]
 unfold Dn.callV at q1
 split at q1
 ·exact q1
 ·exact q1
 ·cases q1
end

end Go.Dn

namespace Go.Dn
open Go Go.ChangeShapes

def consec (P : Program) : Nat → List Field → Option Nat
 | o, [] => some o
 | o, f :: fs => if f.offset = o then consec P (o + P.cellsOf f.type) fs else none

def supp (P : Program) : Nat → TypeId → Bool
 | 0, _ => false
 | d + 1, t =>
  match P.underlying t with
  | some .bool => P.cellsOf t == 1
  | some (.int _) => P.cellsOf t == 1
  | some .string => P.cellsOf t == 1
  | some (.slice e) => P.cellsOf t == 1 && P.cellsOf e != 0 && supp P d e
  | some (.struct fs) => fs.toList.all (fun f => supp P d f.type) && (consec P 0 fs.toList == some (P.cellsOf t))
  | _ => false

def OKC (P : Program) : Nat → TypeId → List FV → Prop
 | 0, _, _ => False
 | d + 1, t, ys =>
  match P.underlying t with
  | some .bool => ∃ b, ys = [.bool b]
  | some (.int k) => ∃ m, ys = [.int k m] ∧ (Lit.int k m).wf = true
  | some .string => ∃ s, ys = [.str s] ∧ s.size ≤ maxLen
  | some (.slice e) => ∃ xs, ys = [.sl xs] ∧ xs.length * P.bytesOf e ≤ reachBytes ∧ ∀ x ∈ xs, OKC P d e x
  | some (.struct fs) => ys.length = P.cellsOf t ∧ ∀ f ∈ fs.toList, OKC P d f.type ((ys.drop f.offset).take (P.cellsOf f.type))
  | _ => False

section
variable {H : Type} {enc : TypeId × Value → H} {P : Program} {w : World} {base : Nat} {spare : Nat → Bool} {held : Bool} {Im : Nat → Prop}

def Cov (w : World) (Im : Nat → Prop) (ys : List FV) (cs : List Value) : Prop := ys.length = cs.length ∧ ∀ (i : Nat) (y : FV) (v : Value), ys[i]? = some y → cs[i]? = some v → FVR w Im y v

theorem Cov.one {y : FV} {v : Value} (h : FVR w Im y v) : Cov w Im [y] [v] := ⟨rfl, fun i y' v' hy hv => by
 cases i with
 | zero => cases hy; cases hv; exact h
 | succ i => simp at hy⟩

theorem consec_le : ∀ {fs : List Field} {o m : Nat}, consec P o fs = some m → o ≤ m
 | [], o, m, h => by simp [consec] at h; omega
 | f :: fs, o, m, h => by
  simp only [consec] at h
  split at h
  ·have := consec_le h; omega
  ·cases h

theorem fields_ok {d n : Nat} {cs : List Value} (ih : ∀ (t : TypeId) (cs : List Value) (x : DataW H × List MemPlace), supp P d t = true → DataW.trod enc P w base spare held n t cs = some x → (∀ p ∈ x.2, Im p.block) → (∀ n ∈ x.1.weights P t, n ≤ reachBytes) → ∃ ys, Cov w Im ys cs ∧ OKC P d t ys) :
  ∀ (fs : List Field) (o m : Nat), consec P o fs = some m → m ≤ cs.length → (∀ f ∈ fs, supp P d f.type = true) →
   (∀ f ∈ fs, ∃ x, DataW.trod enc P w base spare held n f.type ((cs.drop f.offset).take (P.cellsOf f.type)) = some x ∧ (∀ p ∈ x.2, Im p.block) ∧ ∀ n ∈ x.1.weights P f.type, n ≤ reachBytes) →
   ∃ ys, Cov w Im ys ((cs.drop o).take (m - o)) ∧ ∀ f ∈ fs, o ≤ f.offset ∧ OKC P d f.type ((ys.drop (f.offset - o)).take (P.cellsOf f.type))
 | [], o, m, hc, hm, _, _ => by
  simp [consec] at hc
  subst hc
  exact ⟨[], ⟨by simp, by simp⟩, by simp⟩
 | f :: fs, o, m, hc, hm, hs, hx => by
  simp only [consec] at hc
  split at hc
  ·rename_i ho
   subst ho
   obtain ⟨x, hx1, hx2, hx3⟩ := hx f List.mem_cons_self
   obtain ⟨ys, ⟨hl, hv⟩, hok⟩ := ih f.type _ x (hs f List.mem_cons_self) hx1 hx2 hx3
   have hle := consec_le hc
   obtain ⟨zs, ⟨hl2, hv2⟩, hok2⟩ := fields_ok ih fs _ m hc hm (fun g hg => hs g (List.mem_cons_of_mem _ hg)) (fun g hg => hx g (List.mem_cons_of_mem _ hg))
   simp only [List.length_take, List.length_drop] at hl hl2
   have hy : ys.length = P.cellsOf f.type := by omega
   refine ⟨ys ++ zs, ⟨by simp only [List.length_append, List.length_take, List.length_drop]; omega, fun i y v h1 h2 => ?_⟩, fun g hg => ?_⟩
   ·by_cases hi : i < ys.length
    ·rw [List.getElem?_append_left hi] at h1
     refine hv i y v h1 ?_
     rw [List.getElem?_take] at h2 ⊢
     rw [if_pos (by omega)] at h2 ⊢
     exact h2
    ·rw [List.getElem?_append_right (by omega)] at h1
     have hi2 : i - ys.length < zs.length := by
      rcases Nat.lt_or_ge (i - ys.length) zs.length with h | h
      ·exact h
      ·rw [List.getElem?_eq_none h] at h1; cases h1
     refine hv2 (i - ys.length) y v h1 ?_
     rw [List.getElem?_take, List.getElem?_drop] at h2 ⊢
     rw [if_pos (by omega)] at h2 ⊢
     rw [← h2]
     congr 1; omega
   ·rcases List.mem_cons.1 hg with rfl | hg
    ·refine ⟨Nat.le_refl _, ?_⟩
     rw [Nat.sub_self, List.drop_zero, List.take_append_of_le_length (by omega), List.take_of_length_le (by omega)]
     exact hok
    ·obtain ⟨h1, h2⟩ := hok2 g hg
     refine ⟨by omega, ?_⟩
     have : (ys ++ zs).drop (g.offset - f.offset) = zs.drop (g.offset - (f.offset + P.cellsOf f.type)) := by
      rw [List.drop_append, List.drop_eq_nil_of_le (by omega), List.nil_append]
      congr 1; omega
     rw [this]
     exact h2
  ·cases hc

theorem weights_all {e : TypeId} : ∀ {ds : List (DataW H)} {d : DataW H}, d ∈ ds → ∀ n ∈ d.weights P e, n ∈ DataW.weightsAll P e ds
 | d0 :: ds, d, h, n, hn => by
  simp only [DataW.weightsAll, List.mem_append]
  rcases List.mem_cons.1 h with rfl | h
  ·exact .inl hn
  ·exact .inr (weights_all h n hn)

def Sized (P : Program) (t : TypeId) (d : DataW H) : Prop := ∀ n ∈ d.weights P t, n ≤ reachBytes

theorem OKC.length : ∀ {d : Nat} {t : TypeId} {ys : List FV}, supp P d t = true → OKC P d t ys → ys.length = P.cellsOf t
 | 0, t, ys, h, _ => by simp [supp] at h
 | d + 1, t, ys, h, ho => by
  unfold supp at h
  unfold OKC at ho
  split at h
  all_goals (rename_i hu; simp only [hu] at ho)
  ·obtain ⟨b, rfl⟩ := ho; simp at h; simp [h]
  ·obtain ⟨b, rfl, _⟩ := ho; simp at h; simp [h]
  ·obtain ⟨b, rfl, _⟩ := ho; simp at h; simp [h]
  ·obtain ⟨b, rfl, _⟩ := ho; simp at h; simp [h]
  ·exact ho.1

theorem trod_ok : ∀ (d n : Nat) (t : TypeId) (cs : List Value) (x : DataW H × List MemPlace), supp P d t = true → DataW.trod enc P w base spare held n t cs = some x → (∀ p ∈ x.2, Im p.block) → (∀ n ∈ x.1.weights P t, n ≤ reachBytes) → ∃ ys, Cov w Im ys cs ∧ OKC P d t ys
 | 0, n, t, cs, x, hs, h, hp, hw => by simp [supp] at hs
 | d + 1, n, t, cs, x, hs, h, hp, hw => by
  unfold supp at hs
  split at hs
  ·rename_i hu
   cases n with
   | zero => simp [DataW.trod] at h
   | succ n =>
    simp only [DataW.trod, hu] at h
    split at h <;> simp_all
    rename_i b
    exact ⟨[.bool b], Cov.one (.bool b), by simp [OKC, hu]⟩
  ·rename_i k hu
   cases n with
   | zero => simp [DataW.trod] at h
   | succ n =>
    simp only [DataW.trod, hu] at h
    split at h <;> try (simp_all; done)
    rename_i k2 m he1 
    simp only [Option.some.injEq, TypeDesc.int.injEq] at he1
    subst he1
    split at h
    ·rename_i k' n' hk
     obtain ⟨rfl, hwf⟩ := hk
     exact ⟨[.int _ _], Cov.one (.int _ _), by simp [OKC, hu, hwf]⟩
    ·cases h
  ·rename_i hu
   cases n with
   | zero => simp [DataW.trod] at h
   | succ n =>
    simp only [DataW.trod, hu] at h
    split at h <;> try (simp_all; done)
    split at h
    ·rename_i s hk
     exact ⟨[.str _], Cov.one (.str _), by simp [OKC, hu, hk]⟩
    ·cases h
  ·rename_i e hu
   simp only [Bool.and_eq_true, beq_iff_eq, bne_iff_ne, ne_eq] at hs
   rcases DataW.trod_slice hu h with ⟨rfl, rfl⟩ | ⟨a, len, cap, elems, rest, m, rfl, rfl, rfl, hb, hl, hm, hlen, hel, hsp, hns⟩
   ·exact ⟨[.sl []], Cov.one .nil, by simp [OKC, hu]⟩
   ·by_cases h0 : len = 0
    ·subst h0
     exact ⟨[.sl []], Cov.one (.empty a cap), by simp [OKC, hu]⟩
    ·have each : ∀ i, i < len → ∃ cs' ys, w.cells? base (a.add (i * P.cellsOf e)) (P.cellsOf e) = some cs' ∧ Cov w Im ys cs' ∧ OKC P d e ys := by
      intro i hi
      have h1 := hel i hi
      obtain ⟨y, hy⟩ : ∃ y, elems[i]? = some y := ⟨_, List.getElem?_eq_getElem (by omega)⟩
      rw [hy, Option.bind_eq_some_iff] at h1
      obtain ⟨cs', hcs, ht⟩ := h1
      obtain ⟨ys, h2, h3⟩ := trod_ok d m e cs' y hs.2 ht (fun p hpm => hp p (by
       refine List.mem_append_right _ (List.mem_flatMap.2 ⟨y, List.mem_append_left _ (List.mem_of_getElem? hy), hpm⟩))) (fun n hn => hw n (by
       simp only [DataW.weights, hu, List.mem_cons, List.mem_append]
       exact .inr (.inl (weights_all (List.mem_map.2 ⟨y, List.mem_of_getElem? hy, rfl⟩) n hn))))
      exact ⟨cs', ys, hcs, h2, h3⟩
     let F : Nat → List FV := fun i => if hi : i < len then (each i hi).choose_spec.choose else []
     let C : Nat → List Value := fun i => if hi : i < len then (each i hi).choose else []
     have hF : ∀ i, i < len → w.cells? base (a.add (i * P.cellsOf e)) (P.cellsOf e) = some (C i) ∧ Cov w Im (F i) (C i) ∧ OKC P d e (F i) := by
      intro i hi
      simp only [F, C, dif_pos hi]
      exact (each i hi).choose_spec.choose_spec
     have hFl : ∀ i, i < len → (F i).length = P.cellsOf e := fun i hi => OKC.length hs.2 (hF i hi).2.2
     have hxs : ∀ y ∈ (List.range len).map F, ∃ i, i < len ∧ y = F i := fun y hy => by
      obtain ⟨i, hi, rfl⟩ := List.mem_map.1 hy
      exact ⟨i, List.mem_range.1 hi, rfl⟩
     refine ⟨[.sl ((List.range len).map F)], Cov.one ?_, ?_⟩
     ·by_cases hz : P.cellsOf e = 0
      ·exact absurd hz hs.1.2
      ·have hsp0 : a.spot = none := by
        have h1 := (World.cells?_some (hF 0 (by omega)).1).2.2 0 (by omega)
        have hl0 := (World.cells?_some (hF 0 (by omega)).1).2.1
        simp only [Nat.zero_mul, Addr.add, if_true] at h1
        unfold World.cell? at h1
        split at h1
        ·split at h1
         ·have : (C 0)[0]? = none := h1.symm
          rw [List.getElem?_eq_none_iff] at this
          omega
         ·rename_i hq; simpa using hq
        ·have : (C 0)[0]? = none := h1.symm
         rw [List.getElem?_eq_none_iff] at this
         omega
       obtain ⟨bl, off, spot⟩ := a
       simp only at hsp0
       subst hsp0
       have hcov := FVR.sl (w := w) (Imm := Im) ((List.range len).map F) bl off cap (P.cellsOf e) (fun i j => (C i).getD j Go.undef) ?_ (by simpa using hl) (fun y hy => by
        obtain ⟨i, hi, rfl⟩ := hxs y hy; exact hFl i hi) (fun i j hi hj => ?_) (fun i j y x h1 h2 => ?_)
       ·simpa using hcov
       ·refine hp (.cell bl (off + 0)) (List.mem_append_left _ ?_)
        simp only [MemPlace.row, List.mem_map, List.mem_range]
        refine ⟨0, ?_, rfl⟩
        exact Nat.mul_pos (by omega) (by omega)
       ·simp only [List.length_map, List.length_range] at hi
        have h1 := (World.cells?_some (hF i hi).1).2.2 j hj
        have hl0 := (World.cells?_some (hF i hi).1).2.1
        have e1 : (Addr.add (Addr.add ⟨bl, off, none⟩ (i * P.cellsOf e)) j) = ⟨bl, off + i * P.cellsOf e + j, none⟩ := by
         simp only [addr_add]
        rw [e1] at h1
        rw [h1, List.getElem?_eq_getElem (by omega)]
        simp [List.getD, List.getElem?_eq_getElem (show j < (C i).length by omega)]
       ·rw [List.getElem?_map, Option.map_eq_some_iff] at h1
        obtain ⟨i', hi', rfl⟩ := h1
        have hi2 := List.mem_range.1 (List.mem_of_getElem? hi')
        have : i' = i := by
         rw [List.getElem?_eq_some_iff] at hi'
         obtain ⟨q1, q2⟩ := hi'
         simpa using q2.symm
        subst this
        have hj : j < (C i').length := by
         rw [← (hF i' hi2).2.1.1]; exact (List.getElem?_eq_some_iff.1 h2).1
        refine (hF i' hi2).2.1.2 j x _ h2 ?_
        rw [List.getElem?_eq_getElem hj]
        simp [List.getD, List.getElem?_eq_getElem hj]
     ·simp only [OKC, hu]
      refine ⟨_, rfl, ?_, fun y hy => ?_⟩
      ·have h1 := hw ((elems.length + rest.length) * P.bytesOf e) (by simp [DataW.weights, hu])
       refine Nat.le_trans (Nat.mul_le_mul_right _ ?_) h1
       simp; omega
      obtain ⟨i, hi, rfl⟩ := hxs y hy
      exact (hF i hi).2.2
  ·rename_i fs hu
   simp only [Bool.and_eq_true, beq_iff_eq, List.all_eq_true] at hs
   obtain ⟨xs, m, rfl, rfl, hl, hx, hf⟩ := DataW.trod_struct hu h
   obtain ⟨ys, hc, ho⟩ := fields_ok (cs := cs) (fun t cs x h1 h2 h3 h4 => trod_ok d m t cs x h1 h2 h3 h4) fs.toList 0 (P.cellsOf t) hs.2 (by omega) hs.1 (fun f hfm => by
    obtain ⟨i, hi⟩ := List.getElem?_of_mem hfm
    have hi' : fs[i]? = some f := by simpa using hi
    have h1 := hf i f hi'
    have hlt : i < xs.length := by
     have := (Array.getElem?_eq_some_iff.1 hi').1
     omega
    rw [List.getElem?_eq_getElem hlt] at h1
    exact ⟨_, h1, fun p hpm => hp p (List.mem_flatMap.2 ⟨_, List.getElem_mem hlt, hpm⟩), fun n hn => hw n (by
     simp only [DataW.weights, hu]
     exact DataW.weights_mem_each (j := i) (t := f.type) (d := (xs[i]).1) (by simp [hi]) (by simp [hlt]) n hn)⟩)
   rw [List.drop_zero, Nat.sub_zero, List.take_of_length_le (by omega)] at hc
   refine ⟨ys, hc, ?_⟩
   simp only [OKC, hu]
   exact ⟨hc.1.trans hl, fun f hfm => by simpa using (ho f hfm).2⟩
  ·cases hs
end

def okI (k : IntKind) (x : Int) : Prop := k.min ≤ x ∧ x ≤ k.max
def okB (_ : Bool) : Prop := True
def okS (x : ByteArray) : Prop := x.size ≤ maxLen
def okL {α : Type} (b : Nat) (p : α → Prop) (xs : List α) : Prop := xs.length * b ≤ reachBytes ∧ ∀ x ∈ xs, p x
def Dec (P : Program) {α : Type} (t : TypeId) (c : α → List FV) (ok : α → Prop) : Prop := ∀ d ys, OKC P d t ys → ∃ x, ys = c x ∧ ok x

section
variable {P : Program} {t e : TypeId}
theorem Dec.int {k : IntKind} (h : P.underlying t = some (.int k)) : Dec P t (cI k) (okI k) := fun d ys ho => by
 cases d with
 | zero => exact ho.elim
 | succ d =>
  simp only [OKC, h] at ho
  obtain ⟨m, rfl, hw⟩ := ho
  exact ⟨m, rfl, by simpa [Lit.wf, okI] using hw⟩
theorem Dec.bool (h : P.underlying t = some .bool) : Dec P t cB okB := fun d ys ho => by
 cases d with
 | zero => exact ho.elim
 | succ d =>
  simp only [OKC, h] at ho
  obtain ⟨m, rfl⟩ := ho
  exact ⟨m, rfl, trivial⟩
theorem Dec.str (h : P.underlying t = some .string) : Dec P t cS okS := fun d ys ho => by
 cases d with
 | zero => exact ho.elim
 | succ d =>
  simp only [OKC, h] at ho
  obtain ⟨m, rfl, hw⟩ := ho
  exact ⟨m, rfl, hw⟩
theorem Dec.sl {α : Type} {c : α → List FV} {ok : α → Prop} {b : Nat} (h : P.underlying t = some (.slice e)) (hb : P.bytesOf e = b) (he : Dec P e c ok) : Dec P t (cL c) (okL b ok) := fun d ys ho => by
 cases d with
 | zero => exact ho.elim
 | succ d =>
  simp only [OKC, h] at ho
  obtain ⟨xs, rfl, hl, hx⟩ := ho
  have : ∀ xs : List (List FV), (∀ x ∈ xs, OKC P d e x) → ∃ as_ : List α, xs = as_.map c ∧ ∀ a ∈ as_, ok a := by
   intro xs
   induction xs with
   | nil => intro _; exact ⟨[], rfl, by simp⟩
   | cons x xs ih =>
    intro hx
    obtain ⟨a, rfl, ha⟩ := he d x (hx x List.mem_cons_self)
    obtain ⟨as_, rfl, has⟩ := ih fun y hy => hx y (List.mem_cons_of_mem _ hy)
    exact ⟨a :: as_, rfl, fun b hb => by
     rcases List.mem_cons.1 hb with rfl | hb
     ·exact ha
     ·exact has b hb⟩
  obtain ⟨as_, rfl, has⟩ := this xs hx
  exact ⟨as_, rfl, by subst hb; simpa using hl, has⟩

theorem fld (ys : List FV) (o s : Nat) : (ys.drop o).take s ++ ys.drop (o + s) = ys.drop o := by
 rw [← List.drop_drop]; exact List.take_append_drop s (ys.drop o)
theorem fld_nil {ys : List FV} {n : Nat} (h : ys.length = n) : ys.drop n = [] := List.drop_eq_nil_of_le (by omega)
end

theorem pvr_agg {P : Program} {t : TypeId} {W : World} {base : Nat} {v : Value} {s : St} {ys : List FV} {fs : Array Field} (hu : P.underlying t = some (.struct fs)) (hval : Value.okWide P W .any base t v) (hs : s.w = W) (hc : Cov W s.imm ys v.cells.toList) : PVR s (.agg (vs ys)) v := by
 unfold Value.okWide at hval
 rw [hu] at hval
 obtain ⟨cs, rfl, _, _⟩ := hval
 obtain ⟨hl, hc⟩ := hc
 subst hs
 simp only [Value.cells, Array.length_toList] at hl hc
 have each : ∀ (i : Nat) (u : Value), cs[i]? = some u → ∃ y, ys[i]? = some y ∧ FVR s.w s.imm y u := fun i u hu => by
  have hi := (Array.getElem?_eq_some_iff.1 hu).1
  exact ⟨ys[i], List.getElem?_eq_getElem (by omega), hc i _ u (List.getElem?_eq_getElem (by omega)) (by simpa using hu)⟩
 refine .agg (by rw [vs_length]; exact hl) (fun i x hx => ?_) (fun i u hu => (each i u hu).choose_spec.2.oneCell)
 rw [vs_get, Option.map_eq_some_iff] at hx
 obtain ⟨y, hy, rfl⟩ := hx
 have hi := (List.getElem?_eq_some_iff.1 hy).1
 refine .v (hc i y _ hy ?_)
 rw [Array.getElem?_toList, Array.getElem?_eq_getElem (by omega), Array.getD_eq_getD_getElem?, Array.getElem?_eq_getElem (by omega)]
 rfl

theorem pvr_one {P : Program} {t : TypeId} {W : World} {base : Nat} {v : Value} {s : St} {y : FV} (hu : (match P.underlying t with | some .bool | some (.int _) | some .string | some (.slice _) => true | _ => false) = true) (hval : Value.okWide P W .any base t v) (hs : s.w = W) (hc : Cov W s.imm [y] v.cells.toList) : PVR s (.v y) v := by
 subst hs
 have hv : v.cells.toList = [v] := by
  unfold Value.okWide Cell.okWide Cell.ok at hval
  split at hu
  all_goals (first | (rename_i h1; rw [h1] at hval) | skip)
  ·cases v <;> first | rfl | exact hval.elim
  ·cases v <;> first | rfl | exact hval.elim
  ·cases v <;> first | rfl | exact hval.elim
  ·cases v <;> first | rfl | exact hval.elim
  ·cases hu
 rw [hv] at hc
 exact .v (hc.2 0 y v rfl rfl)

end Go.Dn

namespace Go.Dn
open Go

def cloneA (t b : TypeId) : Code := .region 0 #[{ dst := some 2, op := .assign (.const (.slice none 0 0)), type := t, pos := "slices.go:355", after := #[], guard := none }] false
def cloneOps (t b : TypeId) : Array Oper := #[{ dst := some 3, op := .move (.tmp 0), type := t, pos := "slices.go:357", after := #[], guard := none },
 { dst := some 4, op := .binOp .eql t (.tmp 3) (.const (.slice none 0 0)) t, type := b, pos := "slices.go:357", after := #[{ on := 0, ground := .data }], guard := none }]
def cloneC (t : TypeId) : Code := .cond (.tmp 4) ((Code.region 2 #[{ dst := some 2, op := .assign (.const (.slice none 0 0)), type := t, pos := "slices.go:358", after := #[], guard := none }] false).seq .ret) .skip
def cloneD (t : TypeId) : Code := (Code.region 3
 #[{ dst := some 5, op := .buildSlice t 0 #[], type := t, pos := "slices.go:362", after := #[], guard := none },
  { dst := some 6, op := .move (.tmp 0), type := t, pos := "slices.go:362", after := #[], guard := none },
  { dst := some 7, op := .call { callee := .builtin .append, args := #[.tmp 5, .tmp 6], argTypes := #[t, t] }, type := t, pos := "slices.go:362", after := #[{ on := 0, ground := .data }, { on := 1, ground := .data }], guard := none },
  { dst := some 2, op := .assign (.tmp 7), type := t, pos := "slices.go:362", after := #[{ on := 2, ground := .data }, { on := 2, ground := .chain }, { on := 0, ground := .phase }, { on := 1, ground := .phase }, { on := 2, ground := .phase }], guard := none }] false).seq .ret
def cloneBody (t b : TypeId) : Code := (cloneA t b).seq (((Code.region 1 (cloneOps t b) false).seq (cloneC t)).seq (cloneD t))

structure CloneT (P : Program) (t el : TypeId) (sz by_ : Nat) (zs : List PV) : Prop where
 ht : tslice P t = some el
 hs : tsize P el = some sz
 hb : tbytes P el = some by_
 hz : tzero P el = some zs
 hc : (sz != 0 && by_ != 0 && zs.length == sz) = true

variable {X : Ctx} {fn : FuncId} {t b el : TypeId} {sz by_ : Nat} {zs : List PV}

theorem cloneD_runs (hT : CloneT X.P t el sz by_ zs) {xs : List (List FV)} (hl : xs.all (fun y => y.length == sz) = true) (hroom : xs.length * by_ ≤ room) {e : Env} {σ : Heap} (h0 : e 0 = .v (.sl xs)) :
  Runs X 8 fn (cloneD t) e σ fun x e' σ' => x = .ret ∧ ∃ (lo hi : Nat) (L : List Res) (k : Nat), Has σ' lo hi L ∧ L[k]? = some (.sl (e' 2) el sz xs true) := by
 have hc := hT.hc
 simp only [Bool.and_eq_true, beq_iff_eq, bne_iff_ne, ne_eq] at hc
 have H : Hs σ [] := Has.nil (Nat.le_refl _)
 obtain ⟨e0, rfl⟩ := (show EnvHas e [(0, .v (.sl xs))] from ⟨h0, trivial⟩).ex
 show Runs X 8 fn (Code.seq _ _) _ _ _
 apply Runs.then
 refine Runs.regionH 4 rfl H ?_; intro b1 σ H
 refine Ops.buildS (zs := zs) (sz := sz) (pp := []) [] H (by omega) (by omega) hT.ht rfl hT.hs hT.hz (by simp only [Bool.and_eq_true, beq_iff_eq, bne_iff_ne, ne_eq]; exact ⟨⟨hc.2, hc.1.1⟩, by simp⟩) rfl rfl rfl rfl ?_; intro σ H
 refine Ops.move (v := .v (.sl xs)) rfl rfl ?_
 refine Ops.appendS (v := .buf (b1 + 0) 0 sz) (w := .v (.sl xs)) (xs := []) (ys := xs) H (by omega) (by omega) 0 rfl rfl rfl (.p hl) hT.ht hT.hs hT.hb hT.hz hT.hc (by simpa using hroom) nofun rfl ?_; intro w σ H
 refine Ops.assign (v := w) rfl rfl ?_
 apply Ops.nil
 apply Runs.ret
 exact ⟨rfl, _, _, _, 0, H, rfl⟩

theorem cloneOps_wp {s : St} {e : Env} {a : Act} (hX : CtxOK X) (hG : GlobOK X s) (hi : Inv s) (he : EnvR s 8 e a) (hT : CloneT X.P t el sz by_ zs) {xs : List (List FV)} (h0 : e 0 = .v (.sl xs)) {Q : Exit → Act → World → Prop}
  (hQ : ∀ (o : Option Addr) (a' : Act) (w' : World) (ι' : Nat → Nat), (o = none → xs = []) → Then s 8 a (putD 8 (putD 8 e (some 3) (.v (.sl xs))) (some 4) (.v (.bool o.isNone))) ⟨s.σ.nx + 2, s.σ.ent⟩ a' w' ι' → Q .normal a' w') :
  (Code.region 1 (cloneOps t b) false).wp X.P Q a s.w := by
 refine (wpIn_wide (n := 0)).1 (wpIn_region ?_)
 have hi' := more_inv hi 2
 have he' := he.mono (more_ev (s := s) 2)
 have hG' := hG.mono (more_ev (s := s) 2)
 have st : stepO X (callL X) 8 (cloneOps t b) s.σ.nx 0 { dst := some 3, op := .move (.tmp 0), type := t, pos := "slices.go:357", after := #[], guard := none } e (s.more 2).σ = some (putD 8 e (some 3) (.v (.sl xs)), (s.more 2).σ) := by
  simp only [stepO, wantedD, stepOp, operandD, h0, Option.map_some, Option.bind_some]
 have first := stepO_ok (m := 0) (Q := Q) (rd := none) (s := s.more 2) (a := a) (callL_ok hX) hG' hi' he' (hi.nx _ (by omega)) (by simp only [St.more]; omega) st (K := wpOpsIn (Fw none) 0 X.P (cloneOps t b) Q [1]) ?_
 ·have h0' : (cloneOps t b)[0]? = some { dst := some 3, op := .move (.tmp 0), type := t, pos := "slices.go:357", after := #[], guard := none } := rfl
  have hr : List.range (cloneOps t b).size = [0, 1] := rfl
  rw [hr]
  simp only [wpOpsIn, h0']
  exact first
 ·intro a1 w1 ι1 ht
  have hn := ht.env
  have hw : Region.wanted ⟨some 4, .binOp .eql t (.tmp 3) (.const (.slice none 0 0)) t, b, "slices.go:357", #[{ on := 0, ground := .data }], none⟩ (yielded (cloneOps t b) a1.tmps) = true := rfl
  have h1' : (cloneOps t b)[1]? = some ⟨some 4, .binOp .eql t (.tmp 3) (.const (.slice none 0 0)) t, b, "slices.go:357", #[{ on := 0, ground := .data }], none⟩ := rfl
  simp only [wpOpsIn, h1']
  rw [if_pos hw]
  have hp : PVR ⟨w1, (s.more 2).Y, (s.more 2).σ, ι1⟩ (.v (.sl xs)) (a1.eval (.tmp 3)) := by
   refine operand_pvr (X := X) (hG.mono ((more_ev (s := s) 2).trans ht.ev)) hn ?_
   simp [operandD, putD, upd]
  obtain ⟨o, cap, hv, hcap, hf⟩ := sl_inv hp
  have hs : ∀ o4 : Oper, o4 = ⟨some 4, .binOp .eql t (.tmp 3) (.const (.slice none 0 0)) t, b, "slices.go:357", #[{ on := 0, ground := .data }], none⟩ → o4.uponIn (Fw none) 0 X.P a1 (NextOK ⟨w1, (s.more 2).Y, (s.more 2).σ, ι1⟩ a1 (some 4) (.v (.bool o.isNone)) (s.more 2).σ) Q ((o4.semAt (Fw none).round a1.eval).run X.P w1) := by
   intro o4 ho4
   have hop : o4.op = .binOp .eql t (.tmp 3) (.const (.slice none 0 0)) t := by rw [ho4]
   have hd4 : o4.dst = some 4 := by rw [ho4]
   rw [Oper.semAt_eq _ _ _ (by intro c hc; rw [hop] at hc; cases hc)]
   simp only [execOp, hop]
   rw [← hd4]
   refine upon_val (s := ⟨w1, (s.more 2).Y, (s.more 2).σ, ι1⟩) ht.inv ?_
   rw [hv]
   have hg : (eqGuard .eql t (.tmp 3) (.const (.slice none 0 0)) (.slice o xs.length cap) (.slice none 0 0)).run X.P w1 = .ok () w1 := by simp [eqGuard]
   refine ⟨.bool o.isNone, ?_, .v (.bool _)⟩
   show (do eqGuard .eql t (.tmp 3) (.const (.slice none 0 0)) (.slice o xs.length cap) (.slice none 0 0); binOp .eql t (.slice o xs.length cap) (.slice none 0 0) : Sem Value).run X.P w1 = _
   simp only [Sem.run_bind, hg, Result.andThen_ok]
   exact (run_eql_of (eqNil 9999 (tslice_run hT.ht) o xs.length cap w1) (.inr (.inr ⟨_, _, _, _, _, _, rfl, rfl⟩))).1
  refine Oper.wpIn_mono (K := NextOK ⟨w1, (s.more 2).Y, (s.more 2).σ, ι1⟩ a1 (some 4) (.v (.bool o.isNone)) (s.more 2).σ) (fun a' w' hh => ?_) ⟨fun _ _ => trivial, hs _ rfl⟩
  obtain ⟨v, rfl, ι', h2, h3, h4⟩ := hh
  refine hQ o _ w' ι' (fun ho => ?_) ⟨h2, ((more_ev (s := s) 2).trans ht.ev).trans h3, (hn.mono h3).put h4, (put_defers _ _ _).trans ht.defers⟩
  subst ho
  generalize hz : Value.slice none xs.length cap = z at hf
  cases hf with
  | nil => rfl
  | empty => rfl
  | sl => cases hz

theorem clone_calls (hX : CtxOK X) {f : FuncId} {fu : Func} (hf : X.P.funcs[f]? = some fu) (hb : fu.body = some (cloneBody t b)) (hn : fu.ntmps = 8) (hr : fu.results = #[.tmp 2]) (hg : ∀ g, X.glob g = none)
  (hT : CloneT X.P t el sz by_ zs) {s : St} (hi : Inv s) {xs : List (List FV)} {v : Value} (hl : xs.all (fun y => y.length == sz) = true) (hroom : xs.length * by_ ≤ room) (hv : PVR s (.v (.sl xs)) v) :
  Calls X.P f #[v] s.w fun en w' => ∃ v', en = .returned v' ∧ Post s (.v (.sl xs)) s.σ v' w' := by
 have hv1 : PVRs s.under [.v (.sl xs)] #[v] := ⟨rfl, fun i x hx => by
  cases i with
  | zero => cases hx; exact under_pvr rfl hv
  | succ i => simp at hx⟩
 have hiu := under_inv hi
 have he := env_of (s := s.under) (k := 8) hv1
 have hG : ∀ s, GlobOK X s := fun s g cells h => by rw [hg] at h; cases h
 refine (callsIn_wide (n := 0)).1 (callsIn_of_wp_marks hf hb trivial ?_ rfl)
 rw [hn]
 refine wpIn_wide.2 ?_
 have fin : ∀ e σ a' w ι (σ3 : Heap), Aft s.under 8 { tmps := #[v] ++ Array.replicate (8 - (#[v] : Array Value).size) undef, defers := [] } e σ a' w ι → expRes σ (e 2) = some (.v (.sl xs), σ3) →
   bodyPostM Fence.wide 0 X.P fu (fun en w' => ∃ v', en = .returned v' ∧ Post s (.v (.sl xs)) s.σ v' w') .ret a' w := by
  intro e σ a' w ι σ3 ht h4
  refine leaves_ok (X := X) (fu := fu) (xs := [e 2]) rfl ht (by rw [hr]; rfl) fun v w' hp => ⟨v, rfl, ?_⟩
  exact under_post hi hp h4
 refine wp_seq ?_
 refine wp_mono (code_wp (X := X) (s := s.under) hX (fn := f) (hG _) hiu he (Q := fun ex e' σ' => ex = .normal ∧ e' 0 = .v (.sl xs)) ?_) ?_
 ·show Runs X 8 f (Code.region 0 (List.toArray [_]) false) _ ⟨0, fun _ => .none⟩ _
  refine Runs.region rfl ?_
  refine Ops.assign (v := .nils) rfl rfl ?_
  exact Ops.nil ⟨rfl, rfl⟩
 rintro ex a1 w1 ⟨x1, e1, σ1, ι1, ⟨rfl, k0⟩, rfl, ht1⟩
 simp only [Ex.out, Exit.then]
 refine wp_seq (wp_seq ?_)
 refine cloneOps_wp (s := ⟨w1, s.under.Y, σ1, ι1⟩) hX (hG _) ht1.inv ht1.env hT k0 ?_
 intro o a2 w2 ι2 ho ht2
 have ht12 := ht1.trans ht2.aft
 simp only [Exit.then]
 generalize he2 : putD 8 (putD 8 e1 (some 3) (.v (.sl xs))) (some 4) (.v (.bool o.isNone)) = e2 at ht2 ht12
 have q0 : e2 0 = .v (.sl xs) := by rw [← he2]; simpa [putD, upd] using k0
 have q4 : e2 4 = .v (.bool o.isNone) := by rw [← he2]; simp [putD, upd]
 refine wp_mono (code_wp (X := X) (s := ⟨w2, s.under.Y, ⟨σ1.nx + 2, σ1.ent⟩, ι2⟩) hX (fn := f) (hG _) ht2.inv ht2.env (Q := fun ex e' σ' => (xs = [] ∧ ex = .ret ∧ e' 2 = .nils) ∨ (ex = .normal ∧ e' 0 = .v (.sl xs))) ?_) ?_
 ·cases o with
  | none =>
   refine Runs.yes (by simp only [operandD, q4]; rfl) ?_
   refine Runs.then ?_
   refine Runs.region (l := [_]) rfl ?_
   refine Ops.assign (v := .nils) rfl rfl ?_
   refine Ops.nil ?_
   refine Runs.ret ?_
   exact .inl ⟨ho rfl, rfl, rfl⟩
  | some o =>
   refine Runs.no (by simp only [operandD, q4]; rfl) ?_
   exact Runs.skip (.inr ⟨rfl, q0⟩)
 rintro ex a3 w3 ⟨x3, e3, σ3, ι3, hq, rfl, ht3⟩
 have ht13 := ht12.trans ht3
 rcases hq with ⟨rfl, rfl, k2⟩ | ⟨rfl, k3⟩
 ·simp only [Ex.out, Exit.then]
  exact fin e3 σ3 a3 w3 ι3 σ3 ht13 (by rw [k2]; rfl)
 ·simp only [Ex.out, Exit.then]
  refine wp_mono (code_wp (X := X) (s := ⟨w3, s.under.Y, σ3, ι3⟩) hX (fn := f) (hG _) ht3.inv ht3.env (cloneD_runs hT hl hroom k3)) ?_
  rintro ex a4 w4 ⟨x4, e4, σ4, ι4, ⟨rfl, lo, hi4, L, k, H4, hk⟩, rfl, ht4⟩
  obtain ⟨σ5, q, _⟩ := expR_ok H4 (ExpR.one (.c (.s k hk)))
  exact fin e4 σ4 a4 w4 ι4 σ5 (ht13.trans ht4) q

end Go.Dn

namespace Go.Dn
open Go

theorem Has.perm {σ : Heap} {lo hi : Nat} {L L' : List Res} (H : Has σ lo hi L) (hp : L.Perm L') : Has σ lo hi L' := by
 have mem : ∀ {A : List Res}, (∀ (k : Nat) (r : Res), A[k]? = some r → r.holds σ) ↔ ∀ r ∈ A, r.holds σ := fun {A} =>
  ⟨fun h r hr => by obtain ⟨k, hk⟩ := List.getElem?_of_mem hr; exact h k r hk, fun h k r hk => h r (List.mem_of_getElem? hk)⟩
 have pw : L.Pairwise (fun r s => ∀ id, r.owner = some id → s.owner ≠ some id) := by
  rw [List.pairwise_iff_getElem]
  intro i j hi' hj hij
  exact H.sep i j _ _ (by omega) (List.getElem?_eq_getElem hi') (List.getElem?_eq_getElem hj)
 have pw' : L'.Pairwise (fun r s => ∀ id, r.owner = some id → s.owner ≠ some id) := (hp.pairwise_iff (fun {a b} h id h1 h2 => h id h2 h1)).1 pw
 refine ⟨mem.2 fun r hr => mem.1 H.holds r (hp.mem_iff.2 hr), fun k r hk => ?_, fun i j r s hij h1 h2 => ?_, H.le⟩
 ·obtain ⟨k', hk'⟩ := List.getElem?_of_mem (hp.mem_iff.2 (List.mem_of_getElem? hk))
  exact H.lt k' r hk'
 ·obtain ⟨hi', rfl⟩ := List.getElem?_eq_some_iff.1 h1
  obtain ⟨hj', rfl⟩ := List.getElem?_eq_some_iff.1 h2
  rw [List.pairwise_iff_getElem] at pw'
  rcases Nat.lt_or_ge i j with h | h
  ·exact pw' i j hi' hj' h
  ·intro id h3 h4
   exact pw' j i hj' hi' (by omega) id h4 h3

def pdOf : Ex → Option Code
 | .normal => none
 | .exit t => some (.exit t)
 | .ret => some .ret
theorem Has.slCells {σ : Heap} {lo hi : Nat} {L : List Res} {k : Nat} {v : PV} {et : TypeId} {sz : Nat} {xs : List (List FV)} {lv : Bool} (H : Has σ lo hi L) (h : L[k]? = some (.sl v et sz xs lv)) : v.cells = some [v] := by
 rcases (H.holds k _ h).2 with ⟨rfl, _⟩ | ⟨id, rfl, _⟩ <;> rfl

theorem Runs.env {X : Ctx} {n : Nat} {fn : FuncId} {c : Code} {e : Env} {σ : Heap} {Q : Ex → Env → Heap → Prop} (l : List (Nat × PV)) (he : EnvHas e l) (h : ∀ e0, Runs X n fn c (sets e0 l) σ Q) : Runs X n fn c e σ Q := by
 obtain ⟨e0, rfl⟩ := he.ex
 exact h e0

section
variable {X : Ctx}

def YldH (X : Ctx) (id : Nat) {S T : Type} (C : S → List Res → Prop) (pvT : T → List PV) (y : S → T → Option (S × Bool)) : Prop :=
 ∀ s t s' b, y s t = some (s', b) → ∀ σ lo hi O L, C s L → Has σ lo hi (O ++ L) → ∃ σ' L', callL X (.yld id) (pvT t) σ = some (.v (.bool b), σ') ∧ C s' L' ∧ Hs σ' (O ++ L')

def ItF (X : Ctx) (f : FuncId) (args : List PV) {S : Type} (C : S → List Res → Prop) (s s' : S) : Prop :=
 ∀ σ L, C s L → Hs σ L → ∃ σ' L', callL X (.fn f) args σ = some (.tup [], σ') ∧ C s' L' ∧ Hs σ' L'

structure EndsI {S : Type} (C : S → List Res → Prop) (s : S) (x : Ex) (e : Env) (σ : Heap) : Prop where
 out : (x = .normal ∨ x = .ret) ∧ ∃ L, C s L ∧ Hs σ L

theorem EndsI.H {S : Type} {C : S → List Res → Prop} {s : S} {x : Ex} {e : Env} {σ : Heap} {lo hi : Nat} {L L0 : List Res} (hx : x = .normal ∨ x = .ret) (H : Has σ lo hi L) (k : Nat) (hk : L.drop k = L0) (hC : C s L0) : EndsI C s x e σ :=
 ⟨hx, L0, hC, (hk ▸ H.drop k : Has σ lo hi L0).all⟩

theorem ItF.of {f : FuncId} {args : List PV} {S : Type} {C : S → List Res → Prop} {s s' : S} {fu : Func} {c : Code} {m : Nat} (hf : X.P.funcs[f]? = some fu) (hb : fu.body = some c) (hr : fu.results = #[]) (hi : X.intr f args = none) (hk : X.keep f = false) (ho : X.opn f = false) (hs : args.all PV.still = true)
  (hp : args.all PV.pure = false) (hm : max fu.ntmps args.length = m) (h : ∀ σ L, C s L → Hs σ L → Runs X m f c (envOf args) σ (EndsI C s')) : ItF X f args C s s' := by
 subst hm
 intro σ L hC H
 obtain ⟨lf, x, e', σ1, h1, hE⟩ := (h σ L hC H).run
 obtain ⟨hx, L', hC', H'⟩ := hE.out
 refine ⟨σ1, L', callL_of_S (lf := lf) ?_, hC', H'⟩
 have hbody : bodyD X (callL X) lf f args σ = some (.tup [], σ1) := by
  simp only [bodyD, hf, hb, h1]
  rcases hx with rfl | rfl <;> simp [hr, resultsD, packD]
 simp only [callS, hi, hk, Bool.false_eq_true, if_false, expArgs_still hs, ho, hp, hbody, Option.bind_some]
 rfl

section
variable {n : Nat} {dr : Bool} {fn : FuncId} {ops : Array Oper} {base i : Nat} {l : List Oper} {e : Env} {σ : Heap} {K : Env → Heap → Prop} {Q : Ex → Env → Heap → Prop}
variable {d : Nat} {t : TypeId} {p : String} {af : Array Edge} {x : Operand} {lo hi : Nat} {L : List Res}

theorem Ops.callY {S T : Type} {C : S → List Res → Prop} {pvT : T → List PV} {y : S → T → Option (S × Bool)} {id : Nat} {args : Array Operand} {ts : Array TypeId} {s s' : S} {z : T} {b : Bool} (O : List Res) (H : Has σ lo hi (O ++ L)) (hC : C s L) (hx : operandD X e x = some (.yld id)) (ha : operandsD X e args.toList = some (pvT z))
  (hy : YldH X id C pvT y) (hq : y s z = some (s', b)) (hdr : dr = false) (hd : Nat.blt d n = true)
  (hk : ∀ σ' L', C s' L' → Hs σ' (O ++ L') → Ops X n dr ops base (i + 1) l (set e d (.v (.bool b))) σ' K) :
  Ops X n dr ops base i (⟨some d, .call { callee := .value x, args := args, argTypes := ts }, t, p, af, none⟩ :: l) e σ K := by
 obtain ⟨σ', L', q1, q2, q3⟩ := hy _ _ _ _ hq σ lo hi O L hC H
 exact .plain (x := .v (.bool b)) (σ1 := σ') (by simp only [stepOp, callOpD, ha, hx, q1]) (fun h => by rw [hdr] at h; cases h) hd (hk σ' L' q2 q3)
end

def RangeC (id : Nat) (fn : FuncId) (e : Env) (n : Nat) (ps : List Nat) (as_ bo : Code) {S : Type} (Co : S → List Res → Prop) (pd : Nat → Option Code) : S × Nat → List Res → Prop :=
 fun s L => ∃ M, Co s.1 M ∧ L = .loop id fn e n ps as_ bo (if s.2 = 0 then .ready else .done) (pd s.2) :: M

variable {n : Nat} {fn : FuncId} {e : Env} {σ : Heap} {Q : Ex → Env → Heap → Prop}

def BodyOK (X : Ctx) (n : Nat) (fn : FuncId) (e : Env) (ps : List Nat) (as_ bo : Code) {S T : Type} (Co : S → List Res → Prop) (pvT : T → List PV) (yb : S → T → Option (S × Nat)) (pd : Nat → Option Code) : Prop :=
 ∀ (R0 R1 : Res) s t s' p, yb s t = some (s', p) → ∀ σ M O, Co s M → Hs σ (R0 :: (M ++ O)) →
  Runs X n fn as_ (setArgs e n ps (pvT t)) σ fun x e1 σ1 => x = .normal ∧ ∃ M1, Hs σ1 (R0 :: (M1 ++ O)) ∧
   ∀ σ2, Hs σ2 (R1 :: (M1 ++ O)) → Runs X n fn bo e1 σ2 fun x e2 σ3 => (pdOf x = pd p ∧ (x = .normal ↔ p = 0)) ∧ ∃ M2, Co s' M2 ∧ Hs σ3 (R1 :: (M2 ++ O))

theorem rangeY_ok {S T : Type} {ps : List Nat} {as_ bo : Code} {Co : S → List Res → Prop} {pvT : T → List PV} {yb : S → T → Option (S × Nat)} {pd : Nat → Option Code} (hpd : pd 0 = none) (hlen : ∀ t, ps.length = (pvT t).length) (hpure : ∀ t, (pvT t).all PV.pure = true)
  (hbody : BodyOK X n fn e ps as_ bo Co pvT yb pd) (id : Nat) : YldH X id (RangeC id fn e n ps as_ bo Co pd) pvT (rangeY yb) := by
 rintro ⟨s, p⟩ t ⟨s', p'⟩ b hy σ lo hi O L ⟨M, hM, rfl⟩ H
 unfold rangeY at hy
 simp only at hy hM
 split at hy
 ·rename_i hp0
  subst hp0
  rw [Option.map_eq_some_iff] at hy
  obtain ⟨r, hr, he⟩ := hy
  simp only [Prod.mk.injEq] at he
  obtain ⟨rfl, rfl⟩ := he
  simp only [if_true, hpd] at H
  have H1 : Hs σ (.loop id fn e n ps as_ bo .ready none :: (M ++ O)) := (H.perm (by rw [← List.cons_append]; exact List.perm_append_comm)).all
  obtain ⟨l1, x1, e1, σ1, r1, rfl, M1, H2, hb⟩ := (hbody (.loop id fn e n ps as_ bo .ready none) (.loop id fn e n ps as_ bo .busy none) s t s' p' hr σ M O hM H1).run
  have hent : σ1.ent id = .loop fn e n ps as_ bo .ready none := H2.holds 0 _ rfl
  have H3 : Hs (σ1.put id (.loop fn e n ps as_ bo .busy none)) (.loop id fn e n ps as_ bo .busy none :: (M1 ++ O)) := (H2.put (k := 0) rfl rfl (r' := .loop id fn e n ps as_ bo .busy none) put_ent rfl).all
  obtain ⟨l2, x2, e2, σ3, r2, ⟨hx, hx0⟩, M2, hM2, H4⟩ := (hb _ H3).run
  have hent0 : σ.ent id = .loop fn e n ps as_ bo .ready none := H1.holds 0 _ rfl
  have fin : ∀ (st : LoopState) (pc : Option Code), Hs (σ3.put id (.loop fn e n ps as_ bo st pc)) (O ++ (.loop id fn e n ps as_ bo st pc :: M2)) := fun st pc =>
   ((H4.put (k := 0) rfl rfl (r' := .loop id fn e n ps as_ bo st pc) put_ent rfl).perm (by rw [List.set_cons_zero, ← List.cons_append]; exact List.perm_append_comm)).all
  have call : ∀ (st : LoopState) (pc : Option Code) (b : Bool), (match x2 with
    | .normal => some (PV.v (.bool true), σ3.put id (.loop fn e n ps as_ bo .ready none))
    | .exit t => some (PV.v (.bool false), σ3.put id (.loop fn e n ps as_ bo .done (some (.exit t))))
    | .ret => some (PV.v (.bool false), σ3.put id (.loop fn e n ps as_ bo .done (some .ret)))) = some (.v (.bool b), σ3.put id (.loop fn e n ps as_ bo st pc)) →
    callL X (.yld id) (pvT t) σ = some (.v (.bool b), σ3.put id (.loop fn e n ps as_ bo st pc)) := by
   intro st pc b hm
   refine callL_of_S (lf := max l1 l2) ?_
   simp only [callS, hent0, hlen t, if_true, expArgs_pure (hpure t), runCode_lf (Nat.le_max_left l1 l2) r1, hent, runCode_lf (Nat.le_max_right l1 l2) r2]
   exact hm
  cases x2 with
  | normal =>
   have hp0 := hx0.1 rfl
   subst hp0
   exact ⟨_, _, call .ready none true rfl, ⟨M2, hM2, by simp [hpd]⟩, fin .ready none⟩
  | exit t' =>
   have hp0 : p' ≠ 0 := fun h => by have := hx0.2 h; cases this
   have hbeq : (p' == 0) = false := by simpa using hp0
   rw [hbeq]
   exact ⟨_, _, call .done (some (.exit t')) false rfl, ⟨M2, hM2, by simp only [if_neg hp0, ← hx, pdOf]⟩, fin .done _⟩
  | ret =>
   have hp0 : p' ≠ 0 := fun h => by have := hx0.2 h; cases this
   have hbeq : (p' == 0) = false := by simpa using hp0
   rw [hbeq]
   exact ⟨_, _, call .done (some .ret) false rfl, ⟨M2, hM2, by simp only [if_neg hp0, ← hx, pdOf]⟩, fin .done _⟩
 ·cases hy

theorem Runs.rangeH {S T : Type} {g : Operand} {ps : Array Tmp} {as_ bo : Code} {f : FuncId} {first caps : List PV} {M0 : List Res} (H : Hs σ M0) (hg : operandD X e g = some (.clo f first caps))
  (Co : S → List Res → Prop) (pvT : T → List PV) (yb : S → T → Option (S × Nat)) (pd : Nat → Option Code) (hpd : pd 0 = none) (hjd : ∀ p, ∃ x, jumpD (pd p) = some x) {s0 : S} {r : S × Nat} (h0 : Co s0 M0) (hlen : ∀ t, ps.toList.length = (pvT t).length) (hpure : ∀ t, (pvT t).all PV.pure = true)
  (hbody : BodyOK X n fn e ps.toList as_ bo Co pvT yb pd)
  (hit : ∀ id, YldH X id (RangeC id fn e n ps.toList as_ bo Co pd) pvT (rangeY yb) → ItF X f (first ++ [.yld id] ++ caps) (RangeC id fn e n ps.toList as_ bo Co pd) (s0, 0) r)
  (hq : ∀ x σ' M', jumpD (pd r.2) = some x → Co r.1 M' → Hs σ' M' → Q x e σ') : Runs X n fn (.rangeFunc g ps as_ bo) e σ Q := by
 obtain ⟨m, ent⟩ := σ
 let σ1 : Heap := ⟨m + 1, upd ent m (.loop fn e n ps.toList as_ bo .ready none)⟩
 have H1 : Hs σ1 (.loop m fn e n ps.toList as_ bo .ready none :: M0) := by
  have h1 : Has (⟨m + 1, ent⟩ : Heap) m (m + 1) M0 := H.enter 1
  exact (h1.push (b := m) (en := .loop fn e n ps.toList as_ bo .ready none) (Nat.le_refl _) (Nat.lt_succ_self _) (r' := .loop m fn e n ps.toList as_ bo .ready none) put_ent rfl).all
 obtain ⟨σ2, L', hc, ⟨M', hM', rfl⟩, H2⟩ := hit m (rangeY_ok hpd hlen hpure hbody m) σ1 _ ⟨M0, h0, by simp [hpd]⟩ H1
 have hent : σ2.ent m = .loop fn e n ps.toList as_ bo (if r.2 = 0 then .ready else .done) (pd r.2) := H2.holds 0 _ rfl
 have hnb : (if r.2 = 0 then LoopState.ready else LoopState.done) ≠ LoopState.busy := by split <;> simp
 have Hf : Hs (σ2.put m (.loop fn e n ps.toList as_ bo .exhausted (pd r.2))) M' := ((H2.put (k := 0) rfl rfl (r' := .loop m fn e n ps.toList as_ bo .exhausted (pd r.2)) put_ent rfl).erase 0).all
 obtain ⟨x, hx⟩ := hjd r.2
 refine ⟨0, x, e, _, ?_, hq x _ M' hx hM' Hf⟩
 simp only [runCode, hg]
 rw [show callL X (.fn f) (first ++ [PV.yld m] ++ caps) ⟨m + 1, upd ent m (.loop fn e n ps.toList as_ bo .ready none)⟩ = some (.tup [], σ2) from hc]
 simp only [hent, if_neg hnb, hx]

theorem callO_of {f : FuncId} {args : List PV} {fu : Func} {c : Code} {m : Nat} {σ : Heap} {Post : PV → Heap → Prop} (hf : X.P.funcs[f]? = some fu) (hb : fu.body = some c) (hi : X.intr f args = none) (hk : X.keep f = false) (ho : X.opn f = true) (hp : args.all PV.pure = true) (hm : max fu.ntmps args.length = m)
  (h : Runs X m f c (envOf args) σ fun x e σ' => (x = .normal ∨ x = .ret) ∧ ∃ xs, resultsD X.P e σ' fu.results.toList = some xs ∧ Post (packD xs) σ') : ∃ r σ', callL X (.fn f) args σ = some (r, σ') ∧ Post r σ' := by
 subst hm
 obtain ⟨lf, x, e', σ1, h1, hx, xs, h2, h3⟩ := h.run
 refine ⟨packD xs, σ1, callL_of_S (lf := lf) ?_, h3⟩
 have hbody : bodyD X (callL X) lf f args σ = some (packD xs, σ1) := by
  simp only [bodyD, hf, hb, h1]
  rcases hx with rfl | rfl <;> simp only [h2, Option.map_some]
 simp only [callS, hi, hk, Bool.false_eq_true, if_false, expArgs_pure hp, ho, if_true, hbody]

theorem Ops.callO {n : Nat} {dr : Bool} {ops : Array Oper} {base i : Nat} {l : List Oper} {e : Env} {σ : Heap} {K : Env → Heap → Prop} {d : Nat} {t : TypeId} {p : String} {af : Array Edge}
  {f : FuncId} {args : Array Operand} {ts : Array TypeId} {ys : List PV} {Post : PV → Heap → Prop} (ha : operandsD X e args.toList = some ys) (hf : ∃ r σ', callL X (.fn f) ys σ = some (r, σ') ∧ Post r σ') (hdr : dr = true → allOrd (Region.before ops) ops i = true) (hd : Nat.blt d n = true)
  (hk : ∀ r σ', Post r σ' → Ops X n dr ops base (i + 1) l (set e d r) σ' K) :
  Ops X n dr ops base i (⟨some d, .call { callee := .value (.func f), args := args, argTypes := ts }, t, p, af, none⟩ :: l) e σ K := by
 obtain ⟨r, σ', q1, q2⟩ := hf
 exact .plain (x := r) (σ1 := σ') (by simp only [stepOp, callOpD, ha, operandD, q1]) (fun h => ask_all (hdr h)) hd (hk r σ' q2)
end

end Go.Dn

namespace Go.Dn
open Go

theorem Has.pickT {σ : Heap} {lo hi : Nat} {T : List Res} (A : List Res) (ks : List Nat) (hn : ks.Nodup) (hk : ks.all (Nat.blt · A.length) = true) (H : Has σ lo hi (A ++ T)) : Has σ lo hi (Dn.pick A ks ++ T) := by
 have hk' : ∀ k ∈ ks, k < A.length := fun k h => by
  have := List.all_eq_true.1 hk k h
  exact Nat.le_of_ble_eq_true this
 have h := H.pick (ks ++ (List.range T.length).map (A.length + ·)) (by
  refine List.nodup_append.2 ⟨hn, ?_, ?_⟩
  ·exact List.Pairwise.map _ (fun a b hab => by omega) List.nodup_range
  ·intro a ha b hb
   obtain ⟨j, _, rfl⟩ := List.mem_map.1 hb
   have := hk' a ha
   omega)
 have fc : ∀ (f g : Nat → Option Res) (l : List Nat), (∀ k ∈ l, f k = g k) → l.filterMap f = l.filterMap g := by
  intro f g l
  induction l with
  | nil => intro _; rfl
  | cons k l ih =>
   intro h
   rw [List.filterMap_cons, List.filterMap_cons, h k List.mem_cons_self, ih fun k hk => h k (List.mem_cons_of_mem _ hk)]
 have fr : ∀ (T : List Res), List.filterMap (fun j => T[j]?) (List.range T.length) = T := by
  intro T
  induction T with
  | nil => rfl
  | cons r T ih =>
   rw [List.length_cons, List.range_succ_eq_map, List.filterMap_cons, List.filterMap_map]
   simp only [List.getElem?_cons_zero]
   congr 1
 have e : Dn.pick (A ++ T) (ks ++ (List.range T.length).map (A.length + ·)) = Dn.pick A ks ++ T := by
  unfold Dn.pick
  rw [List.filterMap_append]
  congr 1
  ·exact fc _ _ _ fun k hm => List.getElem?_append_left (hk' k hm)
  ·rw [List.filterMap_map]
   refine Eq.trans (fc _ _ _ fun j _ => ?_) (fr T)
   simp [Function.comp, List.getElem?_append_right]
 rw [← e]; exact h

theorem Has.mem {σ : Heap} {lo hi : Nat} {L : List Res} (H : Has σ lo hi L) : ∀ r ∈ L, r.holds σ ∧ ∀ id, r.owner = some id → (id < lo ∨ hi ≤ id) ∧ id < σ.nx := fun r hr => by
 obtain ⟨k, hk⟩ := List.getElem?_of_mem hr
 exact ⟨H.holds k r hk, H.lt k r hk⟩

abbrev Apart (r s : Res) : Prop := ∀ id, r.owner = some id → s.owner ≠ some id

theorem Has.pw {σ : Heap} {lo hi : Nat} {L : List Res} (H : Has σ lo hi L) : L.Pairwise Apart := by
 rw [List.pairwise_iff_getElem]
 intro i j hi' hj hij
 exact H.sep i j _ _ (by omega) (List.getElem?_eq_getElem hi') (List.getElem?_eq_getElem hj)

theorem Has.mk' {σ : Heap} {lo hi : Nat} {L : List Res} (hm : ∀ r ∈ L, r.holds σ ∧ ∀ id, r.owner = some id → (id < lo ∨ hi ≤ id) ∧ id < σ.nx) (hp : L.Pairwise Apart) (hle : hi ≤ σ.nx) : Has σ lo hi L := by
 refine ⟨fun k r hk => (hm r (List.mem_of_getElem? hk)).1, fun k r hk => (hm r (List.mem_of_getElem? hk)).2, fun i j r s hij h1 h2 => ?_, hle⟩
 obtain ⟨hi', rfl⟩ := List.getElem?_eq_some_iff.1 h1
 obtain ⟨hj', rfl⟩ := List.getElem?_eq_some_iff.1 h2
 rw [List.pairwise_iff_getElem] at hp
 rcases Nat.lt_or_ge i j with h | h
 ·exact hp i j hi' hj' h
 ·intro id h3 h4
  exact hp j i hj' hi' (by omega) id h4 h3

def holes (lo hi : Nat) : List Res := .floor hi :: (List.range (hi - lo)).map fun j => .hole (lo + j)

theorem mem_holes {lo hi : Nat} {r : Res} (h : r ∈ holes lo hi) : r = .floor hi ∨ ∃ id, r = .hole id ∧ lo ≤ id ∧ id < hi := by
 rcases List.mem_cons.1 h with h | h
 ·exact .inl h
 ·obtain ⟨j, hj, rfl⟩ := List.mem_map.1 h
  have := List.mem_range.1 hj
  exact .inr ⟨_, rfl, by omega, by omega⟩

theorem Has.holesIn {σ : Heap} {lo hi : Nat} {L : List Res} (H : Has σ lo hi L) : Hs σ (L ++ holes lo hi) := by
 refine Has.mk' (fun r hr => ?_) ?_ (Nat.le_refl _)
 ·rcases List.mem_append.1 hr with h | h
  ·exact ⟨(H.mem r h).1, fun id ho => ⟨.inl ((H.mem r h).2 id ho).2, ((H.mem r h).2 id ho).2⟩⟩
  ·rcases mem_holes h with rfl | ⟨id, rfl, h1, h2⟩
   ·exact ⟨H.le, fun id ho => by cases ho⟩
   ·refine ⟨trivial, fun id' ho => ?_⟩
    cases ho
    have := H.le
    exact ⟨.inl (by omega), by omega⟩
 ·refine List.pairwise_append.2 ⟨H.pw, ?_, ?_⟩
  ·refine List.pairwise_cons.2 ⟨fun r _ id ho => (by cases ho), ?_⟩
   refine List.Pairwise.map _ ?_ List.nodup_range
   intro a b hab id h1 h2
   have h1 : lo + a = id := Option.some.inj h1
   have h2 : lo + b = id := Option.some.inj h2
   omega
  ·intro r hr s hs id h1 h2
   have := ((H.mem r hr).2 id h1).1
   rcases mem_holes hs with rfl | ⟨id', rfl, h3, h4⟩
   ·cases h2
   ·cases h2; omega

theorem Has.holesOut {σ : Heap} {lo hi : Nat} {A L : List Res} (H : Hs σ (A ++ (L ++ holes lo hi))) : Has σ lo hi (A ++ L) := by
 rw [← List.append_assoc] at H
 have hp := List.pairwise_append.1 H.pw
 refine Has.mk' (fun r hr => ?_) hp.1 ?_
 ·have h1 := H.mem r (List.mem_append_left _ hr)
  refine ⟨h1.1, fun id ho => ⟨?_, (h1.2 id ho).2⟩⟩
  rcases Nat.lt_or_ge id lo with h | h
  ·exact .inl h
  ·rcases Nat.lt_or_ge id hi with h' | h'
   ·exact absurd rfl (hp.2.2 r hr (.hole id) (List.mem_cons_of_mem _ (List.mem_map.2 ⟨id - lo, List.mem_range.2 (by omega), by congr 1; omega⟩)) id ho)
   ·exact .inr h'
 ·exact (H.mem (.floor hi) (List.mem_append_right _ List.mem_cons_self)).1

section
variable {X : Ctx} {f : FuncId} {fu : Func} {c : Code} {m : Nat} {σ : Heap} {cv : PV} {ys args : List PV} {L : List Res} {PostA : PV → List Res → Prop}

def CallI (X : Ctx) (cv : PV) (ys : List PV) (σ : Heap) (T : List Res) (PostA : PV → List Res → Prop) : Prop := ∃ r σ' A, callV X cv ys σ = some (r, σ') ∧ PostA r A ∧ Hs σ' (A ++ T)

theorem callIO_of (hf : X.P.funcs[f]? = some fu) (hb : fu.body = some c) (hcv : ∀ σ, callV X cv ys σ = callL X (.fn f) args σ) (hi : X.intr f args = none) (hk : X.keep f = false) (ho : X.opn f = true) (hp : args.all PV.pure = true) (hm : max fu.ntmps args.length = m) {T : List Res}
  (h : Runs X m f c (envOf args) σ fun x e σ' => (x = .normal ∨ x = .ret) ∧ ∃ xs, resultsD X.P e σ' fu.results.toList = some xs ∧ ∃ A, PostA (packD xs) A ∧ Hs σ' (A ++ T)) : CallI X cv ys σ T PostA := by
 obtain ⟨r, σ', h1, A, h2, h3⟩ := callO_of (Post := fun r σ' => ∃ A, PostA r A ∧ Hs σ' (A ++ T)) hf hb hi hk ho hp hm h
 exact ⟨r, σ', A, by rw [hcv]; exact h1, h2, h3⟩
end

section
variable {X : Ctx} {n : Nat} {dr : Bool} {fn : FuncId} {ops : Array Oper} {base i : Nat} {l : List Oper} {e : Env} {σ : Heap} {K : Env → Heap → Prop}
variable {d : Nat} {t t1 : TypeId} {p : String} {af : Array Edge} {x : Operand} {lo hi : Nat} {L : List Res}

theorem callV_step {cv : PV} {args : List PV} {r : PV} {σ' : Heap} {c : Call} {id0 : Nat} (hc : c.callee = .value x) (hx : operandD X e x = some cv) (ha : operandsD X e c.args.toList = some args) (h : Dn.callV X cv args σ = some (r, σ')) : callOpD X (callL X) e σ id0 c = some (r, σ') := by
 simp only [callOpD, ha, hc, hx]
 unfold Dn.callV at h
 split at h
 ·exact h
 ·exact h
 ·cases h

theorem Sub.more {C L M : List Res} (h : Sub C L) : Sub C (L ++ M) := by
 induction h with
 | nil => exact .nil
 | cons k h t ih =>
  refine .cons k ?_ ih
  rw [List.getElem?_append_left (List.getElem?_eq_some_iff.1 h).1, h]

theorem callI_back {cv : PV} {ys : List PV} {PostA : PV → List Res → Prop} (A : List Res) (H : Has σ lo hi (A ++ L)) (hf : ∀ T, (∀ C, Sub C L → Sub C T) → Hs σ (A ++ T) → CallI X cv ys σ T PostA) :
  ∃ r σ' A', Dn.callV X cv ys σ = some (r, σ') ∧ PostA r A' ∧ Has σ' lo hi (A' ++ L) := by
 have hsub : ∀ C, Sub C L → Sub C (L ++ holes lo hi) := fun C h => h.more
 have H1 := H.holesIn
 rw [List.append_assoc] at H1
 obtain ⟨r, σ', A', h1, h2, h3⟩ := hf (L ++ holes lo hi) hsub H1
 exact ⟨r, σ', A', h1, h2, h3.holesOut⟩

theorem Ops.callI {cv : PV} {args : Array Operand} {ts : Array TypeId} {ys : List PV} {PostA : PV → List Res → Prop} (A : List Res) (H : Has σ lo hi (A ++ L)) (hx : operandD X e x = some cv) (ha : operandsD X e args.toList = some ys) (hf : ∀ T, (∀ C, Sub C L → Sub C T) → Hs σ (A ++ T) → CallI X cv ys σ T PostA) (hdr : dr = true → allOrd (Region.before ops) ops i = true) (hd : Nat.blt d n = true)
  (hk : ∀ r A' σ', PostA r A' → Has σ' lo hi (A' ++ L) → Ops X n dr ops base (i + 1) l (set e d r) σ' K) :
  Ops X n dr ops base i (⟨some d, .call { callee := .value x, args := args, argTypes := ts }, t, p, af, none⟩ :: l) e σ K := by
 obtain ⟨r, σ', A', q1, q2, q3⟩ := callI_back A H hf
 exact .plain (x := r) (σ1 := σ') (by simp only [stepOp]; exact callV_step rfl hx ha q1) (fun h => ask_all (hdr h)) hd (hk r A' σ' q2 q3)

def FnO (X : Ctx) (f : FuncId) (args : List PV) (PostA : PV → List Res → Prop) : Prop := ∀ σ T, Hs σ T → CallI X (.v (.fn f)) args σ T PostA

theorem FnO.of {f : FuncId} {fu : Func} {c : Code} {m : Nat} {args : List PV} {PostA : PV → List Res → Prop} (hf : X.P.funcs[f]? = some fu) (hb : fu.body = some c) (hi : X.intr f args = none) (hk : X.keep f = false) (ho : X.opn f = true) (hp : args.all PV.pure = true) (hm : max fu.ntmps args.length = m)
  (h : ∀ σ T, Hs σ T → Runs X m f c (envOf args) σ fun x e σ' => (x = .normal ∨ x = .ret) ∧ ∃ xs, resultsD X.P e σ' fu.results.toList = some xs ∧ ∃ A, PostA (packD xs) A ∧ Hs σ' (A ++ T)) : FnO X f args PostA :=
 fun σ T H => callIO_of hf hb (fun _ => rfl) hi hk ho hp hm (h σ T H)

theorem Ops.callFO {f : FuncId} {args : Array Operand} {ts : Array TypeId} {ys : List PV} {PostA : PV → List Res → Prop} (H : Has σ lo hi L) (ha : operandsD X e args.toList = some ys) (hf : FnO X f ys PostA) (hdr : dr = true → allOrd (Region.before ops) ops i = true) (hd : Nat.blt d n = true)
  (hk : ∀ r A' σ', PostA r A' → Has σ' lo hi (A' ++ L) → Ops X n dr ops base (i + 1) l (set e d r) σ' K) :
  Ops X n dr ops base i (⟨some d, .call { callee := .value (.func f), args := args, argTypes := ts }, t, p, af, none⟩ :: l) e σ K :=
 Ops.callI [] H rfl ha (fun T _ H => hf σ T H) hdr hd hk

inductive ExpP : List Res → List (Nat × PV) → List (Nat × PV) → List Res → Prop
 | nil {L : List Res} : ExpP L [] [] L
 | keep {L L' : List Res} {j : Nat} {x : PV} {ps qs : List (Nat × PV)} (h : needF x = false) (t : ExpP L ps qs L') : ExpP L ((j, x) :: ps) ((j, x) :: qs) L'
 | exp {L L1 L2 : List Res} {j : Nat} {x y : PV} {ps qs : List (Nat × PV)} (h : ExpV L x y L1) (t : ExpP L1 ps qs L2) : ExpP L ((j, x) :: ps) ((j, y) :: qs) L2

def FrzOK (ops : Array Oper) (base i : Nat) (pp : List (Nat × PV)) : Prop :=
 allOrd (Region.before ops) ops i = true ∨ ∃ ms : List Nat, (pp.flatMap fun p => bufIds p.2) = ms.map (base + ·) ∧
  (ms.all fun m => Nat.blt m ops.size && ((Region.before ops).getD i 0).testBit m && (List.range ops.size).all fun j => !(unord (Region.before ops) i j && ((Region.before ops).getD j 0).testBit m)) = true

end

end Go.Dn

namespace Go.Dn
open Go Go.Proofs
def cloneV (sz by_ : Nat) : List PV → Option PV
 | [.v (.sl xs)] => if (xs.all fun y => y.length == sz) = true ∧ xs.length * by_ ≤ room then some (.v (.sl xs)) else none
 | _ => none
noncomputable def CA : Ctx := { P := Try.prog, glob := fun _ => none, intr := fun f args => if f = 45 then cloneV 1 24 args else if f = 46 then cloneV 2 32 args else if f = 47 then cloneV 2 16 args else none, opn := fun f => f == 65, keep := fun f => false, lit := true }
noncomputable def C0 : Ctx := { P := Try.prog, glob := fun _ => none, intr := fun _ _ => none, opn := fun _ => false, keep := fun _ => false }
theorem prog_ok : ProgOK Try.prog := by
 refine ⟨fun f fn h => ?_, by kernel_rfl⟩
 have hall : Try.prog.funcs.all (fun fn => !(fn.name == "runtime.NumGoroutine")) = true := by kernel_rfl
 have := Array.all_eq_true_iff_forall_mem.1 hall fn (Array.mem_of_getElem? h)
 simpa using this
theorem c0_ok : CtxOK C0 := ⟨prog_ok, fun f args r h => by cases h⟩
theorem prog_call (f : FuncId) (fu : Func) (vs : Array Value) (w : World) (hf : Try.prog.funcs[f]? = some fu) (hb : fu.body.isSome = true) : (callFunc f vs).run Try.prog w = .ok (.enter f vs) w := by
 have hp : (program).run Try.prog w = .ok Try.prog w := rfl
 simp only [callFunc, Sem.run_bind, hp, Result.andThen_ok, hf, prog_ok.names f fu hf]
 cases hc : fu.body with
 | none => rw [hc] at hb; cases hb
 | some c => simp
set_option maxRecDepth 100000 in
theorem cloneT45 : CloneT Try.prog 22 31 1 24 [.nils] := ⟨rfl, rfl, rfl, rfl, rfl⟩
set_option maxRecDepth 100000 in
theorem cloneT46 : CloneT Try.prog 23 45 2 32 [.v (.int .i64 0), .nils] := ⟨rfl, rfl, rfl, rfl, rfl⟩
set_option maxRecDepth 100000 in
theorem cloneT47 : CloneT Try.prog 31 43 2 16 [.v (.int .i64 0), .v (.int .i64 0)] := ⟨rfl, rfl, rfl, rfl, rfl⟩
theorem pvrs_one' {s : St} {x : PV} {vs : Array Value} (h : PVRs s [x] vs) : ∃ v, vs = #[v] ∧ PVR s x v := by
 obtain ⟨hl, hx⟩ := h
 have : vs.size = 1 := hl.symm
 refine ⟨vs.getD 0 Go.undef, ?_, hx 0 x rfl⟩
 apply Array.ext
 ·simpa using this
 ·intro i h1 h2
  have : i = 0 := by simp at h2; omega
  subst this
  simp [Array.getD, h1]
theorem ca_ok : CtxOK CA := by
 refine ⟨prog_ok, fun f args r h s hi hG vs hv hp => ?_⟩
 simp only [CA] at h
 split at h
 ·rename_i hf
  subst hf
  refine ⟨prog_call 45 _ _ _ Try.func45 rfl, ?_⟩
  unfold cloneV at h
  split at h
  ·split at h
   ·rename_i xs hx
    cases h
    obtain ⟨v, rfl, hv1⟩ := pvrs_one' hv
    exact clone_calls (X := C0) (b := 4) c0_ok Try.func45 rfl rfl rfl (fun _ => rfl) cloneT45 hi hx.1 hx.2 hv1
   ·cases h
  ·cases h
 split at h
 ·rename_i hf
  subst hf
  refine ⟨prog_call 46 _ _ _ Try.func46 rfl, ?_⟩
  unfold cloneV at h
  split at h
  ·split at h
   ·rename_i xs hx
    cases h
    obtain ⟨v, rfl, hv1⟩ := pvrs_one' hv
    exact clone_calls (X := C0) (b := 4) c0_ok Try.func46 rfl rfl rfl (fun _ => rfl) cloneT46 hi hx.1 hx.2 hv1
   ·cases h
  ·cases h
 split at h
 ·rename_i hf
  subst hf
  refine ⟨prog_call 47 _ _ _ Try.func47 rfl, ?_⟩
  unfold cloneV at h
  split at h
  ·split at h
   ·rename_i xs hx
    cases h
    obtain ⟨v, rfl, hv1⟩ := pvrs_one' hv
    exact clone_calls (X := C0) (b := 4) c0_ok Try.func47 rfl rfl rfl (fun _ => rfl) cloneT47 hi hx.1 hx.2 hv1
   ·cases h
  ·cases h
 cases h
def awakeV : List PV → Option PV
 | [] => some (.v (.bool true))
 | _ => none
theorem awake26 (σ : Heap) : callD CA 60 (.fn 26) [] σ = some (.v (.bool true), σ) := by kernel_rfl
noncomputable def CX : Ctx := { P := Try.prog, glob := fun _ => none, intr := fun f args => if f = 26 then awakeV args else CA.intr f args, opn := fun f => f == 22 || f == 65, keep := fun f => false }
theorem cx_ok : CtxOK CX := by
 refine ⟨prog_ok, fun f args r h s hi hG vs hv hp => ?_⟩
 simp only [CX] at h
 split at h
 ·rename_i hf
  subst hf
  unfold awakeV at h
  split at h
  ·cases h
   exact callD_ok ca_ok 60 (.fn 26) [] _ _ s (awake26 s.σ) hi hG vs hv
  ·cases h
 exact ca_ok.intr f args r h s hi hG vs hv hp
theorem cx_intr47 (args : List PV) : CX.intr 47 args = cloneV 2 16 args := rfl

end Go.Dn

namespace Go.Dn
open Go

structure Span where
 From : Int
 To : Int
 deriving DecidableEq

def Span.cs (x : Span) : List FV := [(.int .i64 x.From), (.int .i64 x.To)]

def Span.ok (x : Span) : Prop := okI .i64 x.From ∧ okI .i64 x.To

structure Granule where
 Index : Int
 Ticks : (List Span)
 deriving DecidableEq

def Granule.cs (x : Granule) : List FV := [(.int .i64 x.Index), (.sl (x.Ticks.map Span.cs))]

def Granule.ok (x : Granule) : Prop := okI .i64 x.Index ∧ okL 16 Span.ok x.Ticks

structure Form where
 Period : Int
 Count : Int
 Core : (List (List Span))
 Odd : (List Granule)
 deriving DecidableEq

def Form.cs (x : Form) : List FV := [(.int .i64 x.Period), (.int .i64 x.Count), (.sl (x.Core.map (cL Span.cs))), (.sl (x.Odd.map Granule.cs))]

def Form.ok (x : Form) : Prop := okI .i64 x.Period ∧ okI .i64 x.Count ∧ okL 24 (okL 16 Span.ok) x.Core ∧ okL 32 Granule.ok x.Odd

noncomputable def gran_Size.s0 (f : Form) (s1 : Int × Int) : Option ((Int × Int) ⊕ (Int)) :=
 (bif (decide (s1.2 < (f.Core.length : Int))) then
  (at? f.Core s1.2).bind fun x1 =>
  some (.inl ((w64 (s1.1 + (x1.length : Int))), (w64 (s1.2 + 1))))
 else
  some (.inr s1.1))

noncomputable def gran_Size.s1 (f : Form) (s2 : Int × Int) : Option ((Int × Int) ⊕ (Int)) :=
 (bif (decide (s2.2 < (f.Odd.length : Int))) then
  (at? f.Odd s2.2).bind fun x2 =>
  some (.inl ((w64 (s2.1 + (x2.Ticks.length : Int))), (w64 (s2.2 + 1))))
 else
  some (.inr s2.1))

noncomputable def gran_Size (f : Form) : Option (Int) :=
 (loopO (gran_Size.s0 f) (0, 0)).bind fun (y1 : Int) =>
 (loopO (gran_Size.s1 f) (y1, 0)).bind fun (y2 : Int) =>
 some y2

noncomputable def epactlaw05_Small (f : Form) : Option (Bool) :=
 (
  (bif ((decide ((f.Core.length : Int) ≤ 12)) && (decide ((f.Odd.length : Int) ≤ 8))) then
   (gran_Size f).bind fun x1 =>
   some (decide (x1 ≤ 60))
  else
   some false)).bind fun (y1 : Bool) =>
 some y1

noncomputable def spans_tick (t : Int) : Bool :=
 ((decide (t ≥ (-1099511627776))) && (decide (t ≤ 1099511627776)))

noncomputable def spans_Right.s0 (l : (List Span)) (s1 : Int) : Option ((Int) ⊕ (Jx (Unit) (Bool))) :=
 (bif (decide (s1 < (l.length : Int))) then
  (at? l s1).bind fun x1 =>
  (
   (bif (((!(spans_tick x1.From)) || (!(spans_tick x1.To))) || (decide (x1.From > x1.To))) then
    some true
   else
    (
     (bif (decide (s1 > 0)) then
      (at? l (w64 (s1 - 1))).bind fun x2 =>
      some (decide (x1.From < (w64 (x2.To + 2))))
     else
      some false)).bind fun (y3 : Bool) =>
    some y3)).bind fun (y2 : Bool) =>
  (bif y2 then
   some (.inr (.ret false))
  else
   some (.inl (w64 (s1 + 1))))
 else
  some (.inr (.go ())))

noncomputable def spans_Right (l : (List Span)) : Option (Bool) :=
 (loopO (spans_Right.s0 l) 0).bind fun (y1 : Jx (Unit) (Bool)) =>
 y1.elim (fun r' =>
   some r') fun a2 =>
 some true

noncomputable def gran_inRange (i : Int) : Bool :=
 ((decide (i ≥ (-1099511627776))) && (decide (i ≤ 1099511627776)))

noncomputable def gran_shape.s0 (f : Form) (s1 : Int) : Option ((Int) ⊕ (Jx (Unit) (Bool))) :=
 (bif (decide (s1 < (f.Core.length : Int))) then
  (at? f.Core s1).bind fun x1 =>
  (spans_Right x1).bind fun x2 =>
  (bif (!x2) then
   some (.inr (.ret false))
  else
   some (.inl (w64 (s1 + 1))))
 else
  some (.inr (.go ())))

noncomputable def gran_shape.s1 (f : Form) (s2 : Int) : Option ((Int) ⊕ (Jx (Unit) (Bool))) :=
 (bif (decide (s2 < (f.Odd.length : Int))) then
  (at? f.Odd s2).bind fun x3 =>
  (spans_Right x3.Ticks).bind fun x4 =>
  (
   (bif ((!x4) || (!(gran_inRange x3.Index))) then
    some true
   else
    (
     (bif (decide (s2 > 0)) then
      (at? f.Odd (w64 (s2 - 1))).bind fun x5 =>
      some (decide (x3.Index ≤ x5.Index))
     else
      some false)).bind fun (y4 : Bool) =>
    some y4)).bind fun (y3 : Bool) =>
  (bif y3 then
   some (.inr (.ret false))
  else
   some (.inl (w64 (s2 + 1))))
 else
  some (.inr (.go ())))

noncomputable def gran_shape (f : Form) : Option (Bool) :=
 (bif ((((f.Count != (f.Core.length : Int)) || ((f.Count == 0) != (f.Period == 0))) || (decide (f.Period < 0))) || (decide (f.Period > 1099511627776))) then
  some false
 else
  (loopO (gran_shape.s0 f) 0).bind fun (y1 : Jx (Unit) (Bool)) =>
  y1.elim (fun r' =>
    some r') fun a2 =>
  (loopO (gran_shape.s1 f) 0).bind fun (y2 : Jx (Unit) (Bool)) =>
  y2.elim (fun r' =>
    some r') fun a4 =>
  some true)

noncomputable def gran_turns.s0 (f : Form) (s2 : Int × (List (List Span))) : Option ((Int × (List (List Span))) ⊕ ((List (List Span)))) :=
 (bif (decide (s2.1 < (f.Core.length : Int))) then
  (
   (
    (at? f.Core s2.1).bind fun x1 =>
    (bif (decide ((x1.length : Int) > 0)) then
     (app? 24 s2.2 [x1]).bind fun x2 =>
     some x2
    else
     some s2.2)).bind fun (y3 : (List (List Span))) =>
   some y3).bind fun (y2 : (List (List Span))) =>
  some (.inl ((w64 (s2.1 + 1)), y2))
 else
  some (.inr s2.2))

noncomputable def gran_turns.s1 (f : Form) (y1 : (List (List Span))) (s3 : Int) : Option ((Int) ⊕ (Jx (Unit) (Bool))) :=
 (bif (decide (s3 < (y1.length : Int))) then
  (
   (
    (at? y1 s3).bind fun x3 =>
    (nz? (y1.length : Int)).bind fun u1 =>
    (at? y1 ((w64 (s3 + 1)).tmod (y1.length : Int))).bind fun x4 =>
    (
     (bif ((w64 (s3 + 1)) == (y1.length : Int)) then
      some f.Period
     else
      some 0)).bind fun (y7 : Int) =>
    (at? x3 (w64 ((x3.length : Int) - 1))).bind fun x5 =>
    (at? x4 0).bind fun x6 =>
    (bif (decide (x5.To ≥ (w64 (x6.From + y7)))) then
     some (.ret false)
    else
     some (.go ()))).bind fun (y6 : Jx (Unit) (Bool)) =>
   y6.elim (fun r' =>
     some (.ret r')) fun a4 =>
   some (.go ())).bind fun (y5 : Jx (Unit) (Bool)) =>
  y5.elim (fun r' =>
    some (.inr (.ret r'))) fun a5 =>
  some (.inl (w64 (s3 + 1)))
 else
  some (.inr (.go ())))

noncomputable def gran_turns (f : Form) : Option (Bool) :=
 (loopO (gran_turns.s0 f) (0, [])).bind fun (y1 : (List (List Span))) =>
 (loopO (gran_turns.s1 f y1) 0).bind fun (y4 : Jx (Unit) (Bool)) =>
 y4.elim (fun r' =>
   some r') fun a6 =>
 some true

noncomputable def slices_BinarySearchFunc_SGranule_Granule_int.s0 (x' : (List Granule)) (target : Int) (cmp : Granule → Int → Option Int) (s1 : Int × Int) : Option ((Int × Int) ⊕ (Int)) :=
 (bif (decide (s1.1 < s1.2)) then
  (
   (at? x' (w64 ((IntKind.u64.wrap (w64 (s1.1 + s1.2))).fdiv (2 ^ 1)))).bind fun x1 =>
   (cmp x1 target).bind fun x2 =>
   (bif (decide (x2 < 0)) then
    some ((w64 ((w64 ((IntKind.u64.wrap (w64 (s1.1 + s1.2))).fdiv (2 ^ 1))) + 1)), s1.2)
   else
    some (s1.1, (w64 ((IntKind.u64.wrap (w64 (s1.1 + s1.2))).fdiv (2 ^ 1)))))).bind fun (y2 : Int × Int) =>
  some (.inl (y2.1, y2.2))
 else
  some (.inr s1.1))

noncomputable def slices_BinarySearchFunc_SGranule_Granule_int (x' : (List Granule)) (target : Int) (cmp : Granule → Int → Option Int) : Option (Int × Bool) :=
 (loopO (slices_BinarySearchFunc_SGranule_Granule_int.s0 x' target cmp) (0, (x'.length : Int))).bind fun (y1 : Int) =>
 (
  (bif (decide (y1 < (x'.length : Int))) then
   (at? x' y1).bind fun x3 =>
   (cmp x3 target).bind fun x4 =>
   some (x4 == 0)
  else
   some false)).bind fun (y3 : Bool) =>
 some (y1, y3)

noncomputable def cmp_isNaN_int (x' : Int) : Bool :=
 (x' != x')

noncomputable def cmp_Compare_int (x' : Int) (y : Int) : Int :=
 (bif (cmp_isNaN_int x') then
  (bif (cmp_isNaN_int y) then
   0
  else
   (-1))
 else
  (bif (cmp_isNaN_int y) then
   1
  else
   (bif (decide (x' < y)) then
    (-1)
   else
    (bif (decide (x' > y)) then
     1
    else
     0))))

noncomputable def gran_odd_1 (g : Granule) (i : Int) : Int :=
 (cmp_Compare_int g.Index i)

noncomputable def gran_odd (f : Form) (i : Int) : Option (Int × Bool) :=
 (slices_BinarySearchFunc_SGranule_Granule_int f.Odd i (fun z0 z1 => some (gran_odd_1 z0 z1))).bind fun x1 =>
 some (x1.1, x1.2)

noncomputable def safe_Floor (a : Int) (b : Int) : Option (Int × Int × Int) :=
 (bif (b == 0) then
  some (0, 0, 11)
 else
  (bif ((b == (-1)) && (a == (-9223372036854775808))) then
   some (0, 0, 10)
  else
   (nz? b).bind fun u1 =>
   (nz? b).bind fun u2 =>
   (
    (bif (((a.tmod b) != 0) && ((decide ((a.tmod b) < 0)) != (decide (b < 0)))) then
     some ((w64 ((w64 (a.tdiv b)) - 1)), (w64 ((a.tmod b) + b)))
    else
     some ((w64 (a.tdiv b)), (a.tmod b)))).bind fun (y1 : Int × Int) =>
   some (y1.1, y1.2, 0)))

noncomputable def safe_size (a : Int) : Int :=
 (bif (decide (a < 0)) then
  (IntKind.u64.wrap (0 - (IntKind.u64.wrap a)))
 else
  (IntKind.u64.wrap a))

noncomputable def math_bits_Mul64 (x' : Int) (y : Int) : Int × Int :=
 ((IntKind.u64.wrap ((IntKind.u64.wrap ((IntKind.u64.wrap ((x'.fdiv (2 ^ 32)) * (y.fdiv (2 ^ 32)))) + ((IntKind.u64.wrap ((IntKind.u64.wrap ((x'.fdiv (2 ^ 32)) * (iAnd .u64 y 4294967295))) + ((IntKind.u64.wrap ((iAnd .u64 x' 4294967295) * (iAnd .u64 y 4294967295))).fdiv (2 ^ 32)))).fdiv (2 ^ 32)))) + ((IntKind.u64.wrap ((iAnd .u64 (IntKind.u64.wrap ((IntKind.u64.wrap ((x'.fdiv (2 ^ 32)) * (iAnd .u64 y 4294967295))) + ((IntKind.u64.wrap ((iAnd .u64 x' 4294967295) * (iAnd .u64 y 4294967295))).fdiv (2 ^ 32)))) 4294967295) + (IntKind.u64.wrap ((iAnd .u64 x' 4294967295) * (y.fdiv (2 ^ 32)))))).fdiv (2 ^ 32)))), (IntKind.u64.wrap (x' * y)))

noncomputable def safe_signed (n : Int) (minus : Bool) : Int × Int :=
 (bif (minus && (decide (n ≤ 9223372036854775808))) then
  ((w64 (IntKind.u64.wrap (0 - n))), 0)
 else
  (bif ((!minus) && (decide (n ≤ 9223372036854775807))) then
   ((w64 n), 0)
  else
   (0, 10)))

noncomputable def safe_Mul (a : Int) (b : Int) : Int × Int :=
 (bif (((math_bits_Mul64 (safe_size a) (safe_size b)).1) != 0) then
  (0, 10)
 else
  ((safe_signed ((math_bits_Mul64 (safe_size a) (safe_size b)).2) ((decide (a < 0)) != (decide (b < 0)))).1, (safe_signed ((math_bits_Mul64 (safe_size a) (safe_size b)).2) ((decide (a < 0)) != (decide (b < 0)))).2))

noncomputable def gran_kept (f : Form) (i : Int) : Option ((List Span) × Int × Int) :=
 (gran_odd f i).bind fun x1 =>
 (bif x1.2 then
  (at? f.Odd x1.1).bind fun x2 =>
  some (x2.Ticks, 0, 0)
 else
  (bif (f.Count == 0) then
   some ([], 0, 0)
  else
   (safe_Floor i f.Count).bind fun x3 =>
   (at? f.Core x3.2.1).bind fun x4 =>
   some (x4, (safe_Mul x3.1 f.Period).1, (safe_Mul x3.1 f.Period).2)))

noncomputable def safe_Add (a : Int) (b : Int) : Int × Int :=
 (bif (((decide ((w64 (a + b)) > a)) != (decide (b > 0))) && (b != 0)) then
  (0, 10)
 else
  ((w64 (a + b)), 0))

noncomputable def spans_Move.s0 (l : (List Span)) (by' : Int) (s2 : Int × (List Span)) : Option ((Int × (List Span)) ⊕ (Jx ((List Span)) ((List Span) × Int))) :=
 (bif (decide (s2.1 < (l.length : Int))) then
  (at? l s2.1).bind fun x1 =>
  (bif ((((((safe_Add x1.From by').2) != 0) || (((safe_Add x1.To by').2) != 0)) || (!(spans_tick ((safe_Add x1.From by').1)))) || (!(spans_tick ((safe_Add x1.To by').1)))) then
   some (.inr (.ret ([], 20)))
  else
   (app? 16 s2.2 [(Span.mk ((safe_Add x1.From by').1) ((safe_Add x1.To by').1))]).bind fun x2 =>
   some (.inl ((w64 (s2.1 + 1)), x2)))
 else
  some (.inr (.go s2.2)))

noncomputable def spans_Move (l : (List Span)) (by' : Int) : Option ((List Span) × Int) :=
 (loopO (spans_Move.s0 l by') (0, [])).bind fun (y1 : Jx ((List Span)) ((List Span) × Int)) =>
 y1.elim (fun r' =>
   some r') fun a2 =>
 some (a2, 0)

noncomputable def gran_Get (f : Form) (i : Int) : Option ((List Span) × Int) :=
 (bif (!(gran_inRange i)) then
  some ([], 20)
 else
  (gran_kept f i).bind fun x1 =>
  (bif ((x1.1.length : Int) == 0) then
   some ([], 0)
  else
   (bif (x1.2.2 != 0) then
    some ([], 20)
   else
    (spans_Move x1.1 x1.2.1).bind fun x2 =>
    some (x2.1, x2.2))))

noncomputable def slices_IndexFunc_SSSpan_SSpan.s0 (s : (List (List Span))) (f : (List Span) → Option Bool) (s1 : Int) : Option ((Int) ⊕ (Jx (Unit) (Int))) :=
 (bif (decide (s1 < (s.length : Int))) then
  (at? s s1).bind fun x1 =>
  (f x1).bind fun x2 =>
  (bif x2 then
   some (.inr (.ret s1))
  else
   some (.inl (w64 (s1 + 1))))
 else
  some (.inr (.go ())))

noncomputable def slices_IndexFunc_SSSpan_SSpan (s : (List (List Span))) (f : (List Span) → Option Bool) : Option (Int) :=
 (loopO (slices_IndexFunc_SSSpan_SSpan.s0 s f) 0).bind fun (y1 : Jx (Unit) (Int)) =>
 y1.elim (fun r' =>
   some r') fun a2 =>
 some (-1)

noncomputable def slices_ContainsFunc_SSSpan_SSpan (s : (List (List Span))) (f : (List Span) → Option Bool) : Option (Bool) :=
 (slices_IndexFunc_SSSpan_SSpan s f).bind fun x1 =>
 some (decide (x1 ≥ 0))

noncomputable def gran_bare_1 (l : (List Span)) : Bool :=
 (decide ((l.length : Int) > 0))

noncomputable def gran_bare (f : Form) : Option (Bool) :=
 (slices_ContainsFunc_SSSpan_SSpan f.Core (fun z0 => some (gran_bare_1 z0))).bind fun x1 =>
 some (!x1)

noncomputable def gran_some (f : Form) (i : Int) : Option (Bool) :=
 (gran_kept f i).bind fun x1 =>
 some (decide ((x1.1.length : Int) > 0))

noncomputable def gran_step.s0 (f : Form) (by' : Int) (s1 : Int) : Option ((Int) ⊕ (Jx (Unit) (Int × Bool))) :=
 (bif ((decide (s1 ≥ 0)) && (decide (s1 < (f.Odd.length : Int)))) then
  (at? f.Odd s1).bind fun x3 =>
  (bif (decide ((x3.Ticks.length : Int) > 0)) then
   (at? f.Odd s1).bind fun x4 =>
   some (.inr (.ret (x4.Index, true)))
  else
   some (.inl (w64 (s1 + by'))))
 else
  some (.inr (.go ())))

noncomputable def gran_step.s1 (f : Form) (by' : Int) (s2 : Int) : Option ((Int) ⊕ (Jx (Unit) (Int × Bool))) :=
 (bif (gran_inRange s2) then
  (gran_some f s2).bind fun x5 =>
  (bif x5 then
   some (.inr (.ret (s2, true)))
  else
   some (.inl (w64 (s2 + by'))))
 else
  some (.inr (.go ())))

noncomputable def gran_step (f : Form) (from' : Int) (by' : Int) : Option (Int × Bool) :=
 (gran_bare f).bind fun x1 =>
 (bif x1 then
  (gran_odd f from').bind fun x2 =>
  (
   (bif ((decide (by' < 0)) && (!x2.2)) then
    some (w64 (x2.1 - 1))
   else
    some x2.1)).bind fun (y1 : Int) =>
  (loopO (gran_step.s0 f by') y1).bind fun (y2 : Jx (Unit) (Int × Bool)) =>
  y2.elim (fun r' =>
    some r') fun a2 =>
  some (0, false)
 else
  (loopO (gran_step.s1 f by') from').bind fun (y3 : Jx (Unit) (Int × Bool)) =>
  y3.elim (fun r' =>
    some r') fun a4 =>
  some (0, false))

noncomputable def gran_Before (f : Form) (i : Int) : Option (Int × Bool) :=
 (bif (decide (i ≤ (-1099511627776))) then
  some (0, false)
 else
  (gran_step f (iMin (w64 (i - 1)) 1099511627776) (-1)).bind fun x1 =>
  some (x1.1, x1.2))

noncomputable def gran_Behind (f : Form) (i : Int) : Option (Int × Bool) :=
 (bif (decide (i ≥ 1099511627776)) then
  some (0, false)
 else
  (gran_step f (iMax (w64 (i + 1)) (-1099511627776)) 1).bind fun x1 =>
  some (x1.1, x1.2))

noncomputable def spans_Ahead (a : (List Span)) (b : (List Span)) : Option (Bool) :=
 (
  (bif (((a.length : Int) == 0) || ((b.length : Int) == 0)) then
   some true
  else
   (at? a (w64 ((a.length : Int) - 1))).bind fun x1 =>
   (at? b 0).bind fun x2 =>
   some (decide (x1.To < x2.From)))).bind fun (y1 : Bool) =>
 some y1

noncomputable def gran_beside (f : Form) (i : Int) : Option (Bool) :=
 (gran_Get f i).bind fun x1 =>
 (bif (x1.2 != 0) then
  some false
 else
  (gran_Before f i).bind fun x2 =>
  (gran_Behind f i).bind fun x3 =>
  (
   (bif x2.2 then
    (gran_Get f x2.1).bind fun x4 =>
    (bif (x4.2 != 0) then
     some (.ret false)
    else
     some (.go x4.1))
   else
    some (.go []))).bind fun (y1 : Jx ((List Span)) (Bool)) =>
  y1.elim (fun r' =>
    some r') fun a2 =>
  (
   (bif x3.2 then
    (gran_Get f x3.1).bind fun x5 =>
    (bif (x5.2 != 0) then
     some (.ret false)
    else
     some (.go x5.1))
   else
    some (.go []))).bind fun (y2 : Jx ((List Span)) (Bool)) =>
  y2.elim (fun r' =>
    some r') fun a4 =>
  (spans_Ahead a2 x1.1).bind fun x6 =>
  (
   (bif x6 then
    (spans_Ahead x1.1 a4).bind fun x7 =>
    some x7
   else
    some false)).bind fun (y3 : Bool) =>
  (
   (bif y3 then
    (spans_Ahead a2 a4).bind fun x8 =>
    some x8
   else
    some false)).bind fun (y4 : Bool) =>
  some y4)

noncomputable def gran_Right.s0 (f : Form) (s1 : Int) : Option ((Int) ⊕ (Jx (Unit) (Int))) :=
 (bif (decide (s1 < (f.Odd.length : Int))) then
  (at? f.Odd s1).bind fun x4 =>
  (gran_beside f x4.Index).bind fun x5 =>
  (bif (!x5) then
   some (.inr (.ret 50))
  else
   some (.inl (w64 (s1 + 1))))
 else
  some (.inr (.go ())))

noncomputable def gran_Right (f : Form) : Option (Int) :=
 (
  (bif ((decide ((f.Core.length : Int) > 6000)) || (decide ((f.Odd.length : Int) > 6000))) then
   some true
  else
   (gran_Size f).bind fun x1 =>
   some (decide (x1 > 60000)))).bind fun (y1 : Bool) =>
 (bif y1 then
  some 3
 else
  (gran_shape f).bind fun x2 =>
  (
   (bif (!x2) then
    some true
   else
    (gran_turns f).bind fun x3 =>
    some (!x3))).bind fun (y2 : Bool) =>
  (bif y2 then
   some 50
  else
   (loopO (gran_Right.s0 f) 0).bind fun (y3 : Jx (Unit) (Int)) =>
   y3.elim (fun r' =>
     some r') fun a2 =>
   some 0))

noncomputable def epactlaw05_right (f : Form) : Option (Bool) :=
 (epactlaw05_Small f).bind fun x1 =>
 (
  (bif x1 then
   (gran_Right f).bind fun x2 =>
   some (x2 == 0)
  else
   some false)).bind fun (y1 : Bool) =>
 some y1

def epactlaw05_awake : Bool := true

noncomputable def slices_Equal_SSpan_Span.s0 (s1' : (List Span)) (s2' : (List Span)) (s1 : Int) : Option ((Int) ⊕ (Jx (Unit) (Bool))) :=
 (bif (decide (s1 < (s1'.length : Int))) then
  (at? s1' s1).bind fun x1 =>
  (at? s2' s1).bind fun x2 =>
  (bif (!((x1.From == x2.From) && ((x1.To == x2.To) && true))) then
   some (.inr (.ret false))
  else
   some (.inl (w64 (s1 + 1))))
 else
  some (.inr (.go ())))

noncomputable def slices_Equal_SSpan_Span (s1' : (List Span)) (s2' : (List Span)) : Option (Bool) :=
 (bif ((s1'.length : Int) != (s2'.length : Int)) then
  some false
 else
  (loopO (slices_Equal_SSpan_Span.s0 s1' s2') 0).bind fun (y1 : Jx (Unit) (Bool)) =>
  y1.elim (fun r' =>
    some r') fun a2 =>
  some true)

noncomputable def spans_Same (a : (List Span)) (b : (List Span)) : Option (Bool) :=
 (slices_Equal_SSpan_Span a b).bind fun x1 =>
 some x1

noncomputable def epactlaw05_FormOrder (f : Form) (i : Int) (k : Int) : Option (Bool) :=
 (epactlaw05_right f).bind fun x1 =>
 (bif (!x1) then
  some epactlaw05_awake
 else
  (gran_Get f (iMin i k)).bind fun x2 =>
  (gran_Get f (iMax i k)).bind fun x3 =>
  (bif ((x2.2 != 0) || (x3.2 != 0)) then
   some ((((x2.2 == 0) || ((x2.2 == 20) && ((x2.1.length : Int) == 0))) && ((x3.2 == 0) || ((x3.2 == 20) && ((x3.1.length : Int) == 0)))) && epactlaw05_awake)
  else
   (spans_Right x2.1).bind fun x4 =>
   (
    (bif x4 then
     (spans_Right x3.1).bind fun x5 =>
     some x5
    else
     some false)).bind fun (y1 : Bool) =>
   (
    (bif y1 then
     (
      (bif ((iMin i k) == (iMax i k)) then
       (spans_Same x2.1 x3.1).bind fun x6 =>
       some x6
      else
       some false)).bind fun (y3 : Bool) =>
     (
      (bif y3 then
       some true
      else
       (
        (bif (decide ((iMin i k) < (iMax i k))) then
         (spans_Ahead x2.1 x3.1).bind fun x7 =>
         some x7
        else
         some false)).bind fun (y5 : Bool) =>
       some y5)).bind fun (y4 : Bool) =>
     some y4
    else
     some false)).bind fun (y2 : Bool) =>
   some (y2 && epactlaw05_awake)))

noncomputable def epactlaw05_odd.s0 (f : Form) (i : Int) (s1 : Int) : Option ((Int) ⊕ (Jx (Unit) (Bool))) :=
 (bif (decide (s1 < (f.Odd.length : Int))) then
  (at? f.Odd s1).bind fun x1 =>
  (bif (x1.Index == i) then
   some (.inr (.ret true))
  else
   some (.inl (w64 (s1 + 1))))
 else
  some (.inr (.go ())))

noncomputable def epactlaw05_odd (f : Form) (i : Int) : Option (Bool) :=
 (loopO (epactlaw05_odd.s0 f i) 0).bind fun (y1 : Jx (Unit) (Bool)) =>
 y1.elim (fun r' =>
   some r') fun a2 =>
 some false

noncomputable def epactlaw05_FormTurns (f : Form) (i : Int) : Option (Bool) :=
 (epactlaw05_right f).bind fun x1 =>
 (
  (bif ((!x1) || (f.Count == 0)) then
   some true
  else
   (epactlaw05_odd f ((w64 i).tmod 1048576)).bind fun x2 =>
   some x2)).bind fun (y1 : Bool) =>
 (
  (bif y1 then
   some true
  else
   (epactlaw05_odd f (w64 (((w64 i).tmod 1048576) + f.Count))).bind fun x3 =>
   some x3)).bind fun (y2 : Bool) =>
 (bif y2 then
  some epactlaw05_awake
 else
  (gran_Get f ((w64 i).tmod 1048576)).bind fun x4 =>
  (gran_Get f (w64 (((w64 i).tmod 1048576) + f.Count))).bind fun x5 =>
  (bif ((x4.2 != 0) || (x5.2 != 0)) then
   some epactlaw05_awake
  else
   (spans_Move x4.1 f.Period).bind fun x6 =>
   (
    (bif (x6.2 == 0) then
     (spans_Same x6.1 x5.1).bind fun x7 =>
     some x7
    else
     some false)).bind fun (y3 : Bool) =>
   some (y3 && epactlaw05_awake)))

noncomputable def epactlaw05_FormNext.s0 (f : Form) (i : Int) (x2 : Int × Bool) (s1 : Int) : Option ((Int) ⊕ (Jx (Int) (Bool))) :=
 (bif ((x2.2 && (decide (s1 < x2.1))) && (decide (s1 < (w64 (((w64 i).fdiv (2 ^ 1)) + 40))))) then
  (gran_Get f s1).bind fun x4 =>
  (bif ((x4.2 == 0) && (decide ((x4.1.length : Int) > 0))) then
   some (.inr (.ret false))
  else
   some (.inl (w64 (s1 + 1))))
 else
  some (.inr (.go ((w64 i).fdiv (2 ^ 1)))))

noncomputable def epactlaw05_FormNext.s1 (f : Form) (x3 : Int × Bool) (a2 : Int) (s2 : Int) : Option ((Int) ⊕ (Jx (Unit) (Bool))) :=
 (bif ((x3.2 && (decide (s2 > x3.1))) && (decide (s2 > (w64 (a2 - 40))))) then
  (gran_Get f s2).bind fun x5 =>
  (bif ((x5.2 == 0) && (decide ((x5.1.length : Int) > 0))) then
   some (.inr (.ret false))
  else
   some (.inl (w64 (s2 - 1))))
 else
  some (.inr (.go ())))

noncomputable def epactlaw05_FormNext (f : Form) (i : Int) : Option (Bool) :=
 (epactlaw05_right f).bind fun x1 =>
 (bif (!x1) then
  some epactlaw05_awake
 else
  (gran_Behind f ((w64 i).fdiv (2 ^ 1))).bind fun x2 =>
  (gran_Before f ((w64 i).fdiv (2 ^ 1))).bind fun x3 =>
  (bif ((x2.2 && (decide (x2.1 ≤ ((w64 i).fdiv (2 ^ 1))))) || (x3.2 && (decide (x3.1 ≥ ((w64 i).fdiv (2 ^ 1)))))) then
   some false
  else
   (loopO (epactlaw05_FormNext.s0 f i x2) (w64 (((w64 i).fdiv (2 ^ 1)) + 1))).bind fun (y1 : Jx (Int) (Bool)) =>
   y1.elim (fun r' =>
     some r') fun a2 =>
   (loopO (epactlaw05_FormNext.s1 f x3 a2) (w64 (a2 - 1))).bind fun (y2 : Jx (Unit) (Bool)) =>
   y2.elim (fun r' =>
     some r') fun a4 =>
   (
    (bif x2.2 then
     (gran_Before f x2.1).bind fun x6 =>
     (bif ((x6.2 && (decide (x6.1 > a2))) || (x3.2 && ((!x6.2) || (decide (x6.1 < x3.1))))) then
      some (.ret false)
     else
      some (.go ()))
    else
     some (.go ()))).bind fun (y3 : Jx (Unit) (Bool)) =>
   y3.elim (fun r' =>
     some r') fun a6 =>
   some epactlaw05_awake))

noncomputable def slices_EqualFunc_SSpan_SSpan_Span_Span.s0 (s1' : (List Span)) (s2' : (List Span)) (eq : Span → Span → Option Bool) (s1 : Int) : Option ((Int) ⊕ (Jx (Unit) (Bool))) :=
 (bif (decide (s1 < (s1'.length : Int))) then
  (at? s1' s1).bind fun x1 =>
  (at? s2' s1).bind fun x2 =>
  (eq x1 x2).bind fun x3 =>
  (bif (!x3) then
   some (.inr (.ret false))
  else
   some (.inl (w64 (s1 + 1))))
 else
  some (.inr (.go ())))

noncomputable def slices_EqualFunc_SSpan_SSpan_Span_Span (s1' : (List Span)) (s2' : (List Span)) (eq : Span → Span → Option Bool) : Option (Bool) :=
 (bif ((s1'.length : Int) != (s2'.length : Int)) then
  some false
 else
  (loopO (slices_EqualFunc_SSpan_SSpan_Span_Span.s0 s1' s2' eq) 0).bind fun (y1 : Jx (Unit) (Bool)) =>
  y1.elim (fun r' =>
    some r') fun a2 =>
  some true)

noncomputable def slices_EqualFunc_SSSpan_SSSpan_SSpan_SSpan.s0 (s1' : (List (List Span))) (s2' : (List (List Span))) (eq : (List Span) → (List Span) → Option Bool) (s1 : Int) : Option ((Int) ⊕ (Jx (Unit) (Bool))) :=
 (bif (decide (s1 < (s1'.length : Int))) then
  (at? s1' s1).bind fun x1 =>
  (at? s2' s1).bind fun x2 =>
  (eq x1 x2).bind fun x3 =>
  (bif (!x3) then
   some (.inr (.ret false))
  else
   some (.inl (w64 (s1 + 1))))
 else
  some (.inr (.go ())))

noncomputable def slices_EqualFunc_SSSpan_SSSpan_SSpan_SSpan (s1' : (List (List Span))) (s2' : (List (List Span))) (eq : (List Span) → (List Span) → Option Bool) : Option (Bool) :=
 (bif ((s1'.length : Int) != (s2'.length : Int)) then
  some false
 else
  (loopO (slices_EqualFunc_SSSpan_SSSpan_SSpan_SSpan.s0 s1' s2' eq) 0).bind fun (y1 : Jx (Unit) (Bool)) =>
  y1.elim (fun r' =>
    some r') fun a2 =>
  some true)

noncomputable def slices_EqualFunc_SGranule_SGranule_Granule_Granule.s0 (s1' : (List Granule)) (s2' : (List Granule)) (eq : Granule → Granule → Option Bool) (s1 : Int) : Option ((Int) ⊕ (Jx (Unit) (Bool))) :=
 (bif (decide (s1 < (s1'.length : Int))) then
  (at? s1' s1).bind fun x1 =>
  (at? s2' s1).bind fun x2 =>
  (eq x1 x2).bind fun x3 =>
  (bif (!x3) then
   some (.inr (.ret false))
  else
   some (.inl (w64 (s1 + 1))))
 else
  some (.inr (.go ())))

noncomputable def slices_EqualFunc_SGranule_SGranule_Granule_Granule (s1' : (List Granule)) (s2' : (List Granule)) (eq : Granule → Granule → Option Bool) : Option (Bool) :=
 (bif ((s1'.length : Int) != (s2'.length : Int)) then
  some false
 else
  (loopO (slices_EqualFunc_SGranule_SGranule_Granule_Granule.s0 s1' s2' eq) 0).bind fun (y1 : Jx (Unit) (Bool)) =>
  y1.elim (fun r' =>
    some r') fun a2 =>
  some true)

noncomputable def epactlow_Alike.s0 (a : (List Span)) (b : (List Span)) (s1 : Int) : Option ((Int) ⊕ (Jx (Unit) (Bool))) :=
 (bif (decide (s1 < (a.length : Int))) then
  (at? a s1).bind fun x1 =>
  (at? b s1).bind fun x2 =>
  (bif (!((x2.From == x1.From) && ((x2.To == x1.To) && true))) then
   some (.inr (.ret false))
  else
   some (.inl (w64 (s1 + 1))))
 else
  some (.inr (.go ())))

noncomputable def epactlow_Alike (a : (List Span)) (b : (List Span)) : Option (Bool) :=
 (bif ((a.length : Int) != (b.length : Int)) then
  some false
 else
  (loopO (epactlow_Alike.s0 a b) 0).bind fun (y1 : Jx (Unit) (Bool)) =>
  y1.elim (fun r' =>
    some r') fun a2 =>
  some true)

noncomputable def epactlow_AlikeForms.s0 (a : Form) (b : Form) (s1 : Int) : Option ((Int) ⊕ (Jx (Unit) (Bool))) :=
 (bif (decide (s1 < (a.Core.length : Int))) then
  (at? a.Core s1).bind fun x1 =>
  (at? b.Core s1).bind fun x2 =>
  (epactlow_Alike x1 x2).bind fun x3 =>
  (bif (!x3) then
   some (.inr (.ret false))
  else
   some (.inl (w64 (s1 + 1))))
 else
  some (.inr (.go ())))

noncomputable def epactlow_AlikeForms.s1 (a : Form) (b : Form) (s2 : Int) : Option ((Int) ⊕ (Jx (Unit) (Bool))) :=
 (bif (decide (s2 < (a.Odd.length : Int))) then
  (at? a.Odd s2).bind fun x4 =>
  (at? b.Odd s2).bind fun x5 =>
  (
   (bif (x4.Index != x5.Index) then
    some true
   else
    (at? b.Odd s2).bind fun x6 =>
    (epactlow_Alike x4.Ticks x6.Ticks).bind fun x7 =>
    some (!x7))).bind fun (y3 : Bool) =>
  (bif y3 then
   some (.inr (.ret false))
  else
   some (.inl (w64 (s2 + 1))))
 else
  some (.inr (.go ())))

noncomputable def epactlow_AlikeForms (a : Form) (b : Form) : Option (Bool) :=
 (bif ((((a.Period != b.Period) || (a.Count != b.Count)) || ((a.Core.length : Int) != (b.Core.length : Int))) || ((a.Odd.length : Int) != (b.Odd.length : Int))) then
  some false
 else
  (loopO (epactlow_AlikeForms.s0 a b) 0).bind fun (y1 : Jx (Unit) (Bool)) =>
  y1.elim (fun r' =>
    some r') fun a2 =>
  (loopO (epactlow_AlikeForms.s1 a b) 0).bind fun (y2 : Jx (Unit) (Bool)) =>
  y2.elim (fun r' =>
    some r') fun a4 =>
  some true)

noncomputable def epactlaw06_right (f : Form) : Option (Bool) :=
 (epactlaw05_Small f).bind fun x1 =>
 (
  (bif x1 then
   (gran_Right f).bind fun x2 =>
   some (x2 == 0)
  else
   some false)).bind fun (y1 : Bool) =>
 some y1

noncomputable def epactlaw06_near.s0 (f : Form) (most : Int) (s1 : Int) : Option ((Int) ⊕ (Jx (Unit) (Bool))) :=
 (bif (decide (s1 < (f.Odd.length : Int))) then
  (at? f.Odd s1).bind fun x1 =>
  (bif ((decide (x1.Index < (w64 (0 - most)))) || (decide (x1.Index > most))) then
   some (.inr (.ret false))
  else
   some (.inl (w64 (s1 + 1))))
 else
  some (.inr (.go ())))

noncomputable def epactlaw06_near (f : Form) (most : Int) : Option (Bool) :=
 (loopO (epactlaw06_near.s0 f most) 0).bind fun (y1 : Jx (Unit) (Bool)) =>
 y1.elim (fun r' =>
   some r') fun a2 =>
 some true

def epactlaw06_awake : Bool := true

noncomputable def canon_bare_1 (l : (List Span)) : Bool :=
 (decide ((l.length : Int) > 0))

noncomputable def canon_bare (f : Form) : Option (Bool) :=
 (slices_ContainsFunc_SSSpan_SSpan f.Core (fun z0 => some (canon_bare_1 z0))).bind fun x1 =>
 some (!x1)

noncomputable def canon_divisors_1.s0 (p1' : Int) {S : Type} (yield : S → Int → Option (S × Bool)) (s1 : Int × S) : Option ((Int × S) ⊕ (Jx (S) (S))) :=
 (bif (decide (s1.1 ≤ p1')) then
  (nz? s1.1).bind fun u1 =>
  (
   (bif ((p1'.tmod s1.1) == 0) then
    (yield s1.2 s1.1).bind fun x1 =>
    some ((!x1.2), x1.1)
   else
    some (false, s1.2))).bind fun (y2 : Bool × S) =>
  (bif y2.1 then
   some (.inr (.ret y2.2))
  else
   some (.inl ((w64 (s1.1 + 1)), y2.2)))
 else
  some (.inr (.go s1.2)))

noncomputable def canon_divisors_1 {S : Type} (p1' : Int) (yield : S → Int → Option (S × Bool)) (st' : S) : Option (S) :=
 (loopO (canon_divisors_1.s0 p1' yield) (1, st')).bind fun (y1 : Jx (S) (S)) =>
 y1.elim (fun r' =>
   some r') fun a2 =>
 some a2

noncomputable def canon_shifted_1 (x' : Span) (y : Span) (p2' : Int) : Bool :=
 (((w64 (y.From - x'.From)) == p2') && ((w64 (y.To - x'.To)) == p2'))

noncomputable def canon_shifted (a : (List Span)) (b : (List Span)) (by' : Int) : Option (Bool) :=
 (slices_EqualFunc_SSpan_SSpan_Span_Span a b (fun z0 z1 => some (canon_shifted_1 z0 z1 by'))).bind fun x1 =>
 some x1

noncomputable def canon_turn.s0 (f : Form) (d : Int) (by' : Int) (s1 : Int) : Option ((Int) ⊕ (Jx (Unit) (Bool))) :=
 (bif (decide (s1 < (f.Core.length : Int))) then
  (
   (
    (at? f.Core s1).bind fun x1 =>
    (
     (bif (decide ((w64 (s1 + d)) ≥ f.Count)) then
      some ((w64 ((w64 (s1 + d)) - f.Count)), f.Period)
     else
      some ((w64 (s1 + d)), 0))).bind fun (y4 : Int × Int) =>
    (at? f.Core y4.1).bind fun x2 =>
    (canon_shifted x1 x2 (w64 (by' - y4.2))).bind fun x3 =>
    (bif (!x3) then
     some (.ret false)
    else
     some (.go ()))).bind fun (y3 : Jx (Unit) (Bool)) =>
   y3.elim (fun r' =>
     some (.ret r')) fun a4 =>
   some (.go ())).bind fun (y2 : Jx (Unit) (Bool)) =>
  y2.elim (fun r' =>
    some (.inr (.ret r'))) fun a5 =>
  some (.inl (w64 (s1 + 1)))
 else
  some (.inr (.go ())))

noncomputable def canon_turn (f : Form) (d : Int) (by' : Int) : Option (Bool) :=
 (loopO (canon_turn.s0 f d by') 0).bind fun (y1 : Jx (Unit) (Bool)) =>
 y1.elim (fun r' =>
   some r') fun a6 =>
 some true

noncomputable def canon_core.s1 (x4 : (List (List Span))) (s3 : Int × (List (List Span))) : Option ((Int × (List (List Span))) ⊕ ((List (List Span)))) :=
 (bif (decide (s3.1 < (x4.length : Int))) then
  (at? x4 s3.1).bind fun x5 =>
  (clone? 16 x5).bind fun x6 =>
  (app? 24 s3.2 [x6]).bind fun x7 =>
  some (.inl ((w64 (s3.1 + 1)), x7))
 else
  some (.inr s3.2))

noncomputable def canon_core.b0 (f : Form) (s2 : (List (List Span)) × Int × Int) (z2 : Int) : Option (((List (List Span)) × Int × Int) × Nat) :=
 (nz? z2).bind fun u1 =>
 (safe_Floor f.Period (w64 (f.Count.tdiv z2))).bind fun x2 =>
 (
  (bif (x2.2.1 != 0) then
   some true
  else
   (canon_turn f z2 x2.1).bind fun x3 =>
   some (!x3))).bind fun (y3 : Bool) =>
 (bif y3 then
  some ((s2.1, s2.2.1, s2.2.2), 0)
 else
  (cut? f.Core 0 z2).bind fun x4 =>
  (loopO (canon_core.s1 x4) (0, s2.1)).bind fun (y4 : (List (List Span))) =>
  some ((y4, x2.1, z2), 1))

noncomputable def canon_core (f : Form) : Option (Form) :=
 (canon_bare f).bind fun x1 =>
 (bif x1 then
  some (Form.mk 0 0 [] [])
 else
  (
   (canon_divisors_1 f.Count (rangeY (canon_core.b0 f)) (([], 0, 0), 0)).bind fun (y2 : ((List (List Span)) × Int × Int) × Nat) =>
   (bif (y2.2 == 0) then
    some (y2.1.1, y2.1.2.1, y2.1.2.2)
   else
    some (y2.1.1, y2.1.2.1, y2.1.2.2))).bind fun (y1 : (List (List Span)) × Int × Int) =>
  some (Form.mk y1.2.1 y1.2.2 y1.1 []))

noncomputable def canon_plain (f : Form) (g : Granule) : Option (Bool) :=
 (gran_Get f g.Index).bind fun x1 =>
 (
  (bif (x1.2 == 0) then
   (spans_Same x1.1 g.Ticks).bind fun x2 =>
   some x2
  else
   some false)).bind fun (y1 : Bool) =>
 some y1

noncomputable def canon_Form.s0 (f : Form) (x1 : Form) (s2 : Int × (List Granule)) : Option ((Int × (List Granule)) ⊕ ((List Granule))) :=
 (bif (decide (s2.1 < (f.Odd.length : Int))) then
  (
   (
    (at? f.Odd s2.1).bind fun x2 =>
    (canon_plain x1 x2).bind fun x3 =>
    (bif (!x3) then
     (clone? 16 x2.Ticks).bind fun x4 =>
     (app? 32 s2.2 [(Granule.mk x2.Index x4)]).bind fun x5 =>
     some x5
    else
     some s2.2)).bind fun (y3 : (List Granule)) =>
   some y3).bind fun (y2 : (List Granule)) =>
  some (.inl ((w64 (s2.1 + 1)), y2))
 else
  some (.inr s2.2))

noncomputable def canon_Form (f : Form) : Option (Form) :=
 (canon_core f).bind fun x1 =>
 (loopO (canon_Form.s0 f x1) (0, [])).bind fun (y1 : (List Granule)) =>
 some (Form.mk x1.Period x1.Count x1.Core y1)

noncomputable def canon_equal_1 (x' : Granule) (y : Granule) : Option (Bool) :=
 (
  (bif (x'.Index == y.Index) then
   (spans_Same x'.Ticks y.Ticks).bind fun x1 =>
   some x1
  else
   some false)).bind fun (y1 : Bool) =>
 some y1

noncomputable def canon_equal (a : Form) (b : Form) : Option (Bool) :=
 (
  (bif ((a.Period == b.Period) && (a.Count == b.Count)) then
   (slices_EqualFunc_SSSpan_SSSpan_SSpan_SSpan a.Core b.Core (fun z0 z1 => spans_Same z0 z1)).bind fun x1 =>
   some x1
  else
   some false)).bind fun (y1 : Bool) =>
 (
  (bif y1 then
   (slices_EqualFunc_SGranule_SGranule_Granule_Granule a.Odd b.Odd (fun z0 z1 => canon_equal_1 z0 z1)).bind fun x2 =>
   some x2
  else
   some false)).bind fun (y2 : Bool) =>
 some y2

noncomputable def canon_Same (f : Form) (g : Form) : Option (Bool) :=
 (canon_Form f).bind fun x1 =>
 (canon_Form g).bind fun x2 =>
 (canon_equal x1 x2).bind fun x3 =>
 some x3

noncomputable def epactlaw06_CanonSame.s0 (f : Form) (g : Form) (s1 : Int) : Option ((Int) ⊕ (Jx (Bool) (Bool))) :=
 (bif (decide (s1 ≤ 2000)) then
  (gran_Get f s1).bind fun x5 =>
  (gran_Get g s1).bind fun x6 =>
  (bif ((x5.2 != 0) || (x6.2 != 0)) then
   some (.inr (.ret epactlaw06_awake))
  else
   (spans_Same x5.1 x6.1).bind fun x7 =>
   (bif (!x7) then
    some (.inr (.go false))
   else
    some (.inl (w64 (s1 + 1)))))
 else
  some (.inr (.go true)))

noncomputable def epactlaw06_CanonSame (f : Form) (g : Form) : Option (Bool) :=
 (epactlaw06_right f).bind fun x1 =>
 (
  (bif (!x1) then
   some true
  else
   (epactlaw06_right g).bind fun x2 =>
   some (!x2))).bind fun (y1 : Bool) =>
 (
  (bif y1 then
   some true
  else
   (epactlaw06_near f 200).bind fun x3 =>
   some (!x3))).bind fun (y2 : Bool) =>
 (
  (bif y2 then
   some true
  else
   (epactlaw06_near g 200).bind fun x4 =>
   some (!x4))).bind fun (y3 : Bool) =>
 (bif ((y3 || (decide (f.Period > 32768))) || (decide (g.Period > 32768))) then
  some epactlaw06_awake
 else
  (loopO (epactlaw06_CanonSame.s0 f g) (-2000)).bind fun (y4 : Jx (Bool) (Bool)) =>
  y4.elim (fun r' =>
    some r') fun a2 =>
  (canon_Same f g).bind fun x8 =>
  (
   (bif (x8 == a2) then
    (canon_Form f).bind fun x9 =>
    (canon_Form g).bind fun x10 =>
    (epactlow_AlikeForms x9 x10).bind fun x11 =>
    some (x11 == a2)
   else
    some false)).bind fun (y5 : Bool) =>
  some (y5 && epactlaw06_awake))

noncomputable def canon_Is (f : Form) : Option (Bool) :=
 (canon_Form f).bind fun x1 =>
 (canon_equal f x1).bind fun x2 =>
 some x2

noncomputable def epactlaw06_CanonKeeps.s0 (f : Form) (i : Int) (x2 : Form) (s1 : Int) : Option ((Int) ⊕ (Jx (Unit) (Bool))) :=
 (bif (decide (s1 < ([i, 0, 1, (-1), (w64 ((i.tmod 50) - 25))].length : Int))) then
  (at? [i, 0, 1, (-1), (w64 ((i.tmod 50) - 25))] s1).bind fun x9 =>
  (gran_Get f x9).bind fun x10 =>
  (gran_Get x2 x9).bind fun x11 =>
  (
   (bif (x10.2 != x11.2) then
    some true
   else
    (spans_Same x10.1 x11.1).bind fun x12 =>
    some (!x12))).bind fun (y5 : Bool) =>
  (bif y5 then
   some (.inr (.ret false))
  else
   some (.inl (w64 (s1 + 1))))
 else
  some (.inr (.go ())))

noncomputable def epactlaw06_CanonKeeps (f : Form) (i : Int) : Option (Bool) :=
 (epactlaw06_right f).bind fun x1 =>
 (bif (!x1) then
  some epactlaw06_awake
 else
  (canon_Form f).bind fun x2 =>
  (gran_Right x2).bind fun x3 =>
  (
   (bif (x3 != 0) then
    some true
   else
    (canon_Is x2).bind fun x4 =>
    some (!x4))).bind fun (y1 : Bool) =>
  (
   (bif y1 then
    some true
   else
    (canon_Form x2).bind fun x5 =>
    (epactlow_AlikeForms x5 x2).bind fun x6 =>
    some (!x6))).bind fun (y2 : Bool) =>
  (
   (bif (((y2 || (decide (x2.Count > f.Count))) || (decide (x2.Period > f.Period))) || (decide ((x2.Odd.length : Int) > (f.Odd.length : Int)))) then
    some true
   else
    (gran_Size x2).bind fun x7 =>
    (gran_Size f).bind fun x8 =>
    some (decide (x7 > x8)))).bind fun (y3 : Bool) =>
  (bif y3 then
   some false
  else
   (loopO (epactlaw06_CanonKeeps.s0 f i x2) 0).bind fun (y4 : Jx (Unit) (Bool)) =>
   y4.elim (fun r' =>
     some r') fun a2 =>
   (canon_Same f x2).bind fun x13 =>
   some (x13 && epactlaw06_awake)))

noncomputable def epactlow_Anew (l : (List Span)) : Option ((List Span)) :=
 (new? 16 (l.length : Int) (Span.mk 0 0)).bind fun x1 =>
 some (cpy x1 l)

noncomputable def epactlow_AnewForm.s0 (f : Form) (s2 : Int × (List (List Span))) : Option ((Int × (List (List Span))) ⊕ ((List (List Span)))) :=
 (bif (decide (s2.1 < (f.Core.length : Int))) then
  (at? f.Core s2.1).bind fun x1 =>
  (epactlow_Anew x1).bind fun x2 =>
  (app? 24 s2.2 [x2]).bind fun x3 =>
  some (.inl ((w64 (s2.1 + 1)), x3))
 else
  some (.inr s2.2))

noncomputable def epactlow_AnewForm.s1 (f : Form) (s4 : Int × (List Granule)) : Option ((Int × (List Granule)) ⊕ ((List Granule))) :=
 (bif (decide (s4.1 < (f.Odd.length : Int))) then
  (at? f.Odd s4.1).bind fun x4 =>
  (epactlow_Anew x4.Ticks).bind fun x5 =>
  (app? 32 s4.2 [(Granule.mk x4.Index x5)]).bind fun x6 =>
  some (.inl ((w64 (s4.1 + 1)), x6))
 else
  some (.inr s4.2))

noncomputable def epactlow_AnewForm (f : Form) : Option (Form) :=
 (loopO (epactlow_AnewForm.s0 f) (0, [])).bind fun (y1 : (List (List Span))) =>
 (loopO (epactlow_AnewForm.s1 f) (0, [])).bind fun (y2 : (List Granule)) =>
 some (Form.mk f.Period f.Count y1 y2)

noncomputable def epactref06_bare.s0 (f : Form) (s1 : Int) : Option ((Int) ⊕ (Jx (Unit) (Bool))) :=
 (bif (decide (s1 < (f.Core.length : Int))) then
  (at? f.Core s1).bind fun x1 =>
  (bif (decide ((x1.length : Int) > 0)) then
   some (.inr (.ret false))
  else
   some (.inl (w64 (s1 + 1))))
 else
  some (.inr (.go ())))

noncomputable def epactref06_bare (f : Form) : Option (Bool) :=
 (loopO (epactref06_bare.s0 f) 0).bind fun (y1 : Jx (Unit) (Bool)) =>
 y1.elim (fun r' =>
   some r') fun a2 =>
 some true

noncomputable def epactref05_Down (a : Int) (b : Int) : Option (Int × Int) :=
 (nz? b).bind fun u1 =>
 (nz? b).bind fun u2 =>
 (
  (bif (decide ((a.tmod b) < 0)) then
   some ((w64 ((w64 (a.tdiv b)) - 1)), (w64 ((a.tmod b) + b)))
  else
   some ((w64 (a.tdiv b)), (a.tmod b)))).bind fun (y1 : Int × Int) =>
 some (y1.1, y1.2)

noncomputable def epactref06_has (f : Form) (i : Int) : Option ((List Span) × Int) :=
 (epactref05_Down i f.Count).bind fun x1 =>
 (at? f.Core x1.2).bind fun x2 =>
 some (x2, (w64 (x1.1 * f.Period)))

noncomputable def epactref06_same.s0 (a : (List Span)) (x' : Int) (b : (List Span)) (y : Int) (s1 : Int) : Option ((Int) ⊕ (Jx (Unit) (Bool))) :=
 (bif (decide (s1 < (a.length : Int))) then
  (at? a s1).bind fun x1 =>
  (at? b s1).bind fun x2 =>
  (
   (bif ((w64 (x1.From + x')) != (w64 (x2.From + y))) then
    some true
   else
    (at? a s1).bind fun x3 =>
    (at? b s1).bind fun x4 =>
    some ((w64 (x3.To + x')) != (w64 (x4.To + y))))).bind fun (y2 : Bool) =>
  (bif y2 then
   some (.inr (.ret false))
  else
   some (.inl (w64 (s1 + 1))))
 else
  some (.inr (.go ())))

noncomputable def epactref06_same (a : (List Span)) (x' : Int) (b : (List Span)) (y : Int) : Option (Bool) :=
 (bif ((a.length : Int) != (b.length : Int)) then
  some false
 else
  (loopO (epactref06_same.s0 a x' b y) 0).bind fun (y1 : Jx (Unit) (Bool)) =>
  y1.elim (fun r' =>
    some r') fun a2 =>
  some true)

noncomputable def epactref06_turns.s0 (f : Form) (d : Int) (s1 : Int) : Option ((Int) ⊕ (Jx (Unit) (Bool))) :=
 (bif (decide (s1 < f.Count)) then
  (epactref06_has f s1).bind fun x1 =>
  (epactref06_has f (w64 (s1 + d))).bind fun x2 =>
  (nz? f.Count).bind fun u3 =>
  (epactref06_same x1.1 (w64 (x1.2 + (w64 ((w64 (f.Period * d)).tdiv f.Count)))) x2.1 x2.2).bind fun x3 =>
  (bif (!x3) then
   some (.inr (.ret false))
  else
   some (.inl (w64 (s1 + 1))))
 else
  some (.inr (.go ())))

noncomputable def epactref06_turns (f : Form) (d : Int) : Option (Bool) :=
 (nz? d).bind fun u1 =>
 (
  (bif ((f.Count.tmod d) != 0) then
   some true
  else
   (nz? f.Count).bind fun u2 =>
   some (((w64 (f.Period * d)).tmod f.Count) != 0))).bind fun (y1 : Bool) =>
 (bif y1 then
  some false
 else
  (loopO (epactref06_turns.s0 f d) 0).bind fun (y2 : Jx (Unit) (Bool)) =>
  y2.elim (fun r' =>
    some r') fun a2 =>
  some true)

noncomputable def epactref06_Form.s0 (f : Form) (s1 : Int) : Option ((Int) ⊕ (Int)) :=
 (epactref06_turns f s1).bind fun x2 =>
 (bif (!x2) then
  some (.inl (w64 (s1 + 1)))
 else
  some (.inr s1))

noncomputable def epactref06_Form.s1 (f : Form) (y2 : Int) (s2 : Int × (List (List Span))) : Option ((Int × (List (List Span))) ⊕ ((List (List Span)) × Int)) :=
 (bif (decide (s2.1 < y2)) then
  (at? f.Core s2.1).bind fun x3 =>
  (app? 16 [] x3).bind fun x4 =>
  (app? 24 s2.2 [x4]).bind fun x5 =>
  some (.inl ((w64 (s2.1 + 1)), x5))
 else
  some (.inr (s2.2, (w64 ((w64 (f.Period * y2)).tdiv f.Count)))))

noncomputable def epactref06_Form.s2 (f : Form) (y1 : (List (List Span)) × Int × Int) (s3 : Int × (List Granule)) : Option ((Int × (List Granule)) ⊕ ((List Granule))) :=
 (bif (decide (s3.1 < (f.Odd.length : Int))) then
  (
   (
    (
     (bif (decide (y1.2.2 > 0)) then
      (at? f.Odd s3.1).bind fun x6 =>
      (epactref06_has (Form.mk y1.2.1 y1.2.2 y1.1 []) x6.Index).bind fun x7 =>
      some (x7.1, x7.2)
     else
      some ([], 0))).bind fun (y7 : (List Span) × Int) =>
    (at? f.Odd s3.1).bind fun x8 =>
    (epactref06_same y7.1 y7.2 x8.Ticks 0).bind fun x9 =>
    (bif (!x9) then
     (at? f.Odd s3.1).bind fun x10 =>
     (at? f.Odd s3.1).bind fun x11 =>
     (app? 16 [] x11.Ticks).bind fun x12 =>
     (app? 32 s3.2 [(Granule.mk x10.Index x12)]).bind fun x13 =>
     some x13
    else
     some s3.2)).bind fun (y6 : (List Granule)) =>
   some y6).bind fun (y5 : (List Granule)) =>
  some (.inl ((w64 (s3.1 + 1)), y5))
 else
  some (.inr s3.2))

noncomputable def epactref06_Form (f : Form) : Option (Form) :=
 (
  (epactref06_bare f).bind fun x1 =>
  (bif (!x1) then
   (loopO (epactref06_Form.s0 f) 1).bind fun (y2 : Int) =>
   (nz? f.Count).bind fun u1 =>
   (loopO (epactref06_Form.s1 f y2) (0, [])).bind fun (y3 : (List (List Span)) × Int) =>
   some (y3.1, y3.2, y2)
  else
   some ([], 0, 0))).bind fun (y1 : (List (List Span)) × Int × Int) =>
 (loopO (epactref06_Form.s2 f y1) (0, [])).bind fun (y4 : (List Granule)) =>
 some (Form.mk y1.2.1 y1.2.2 y1.1 y4)

noncomputable def epactlaw06_CanonTells (f : Form) : Option (Bool) :=
 (epactlaw06_right f).bind fun x1 =>
 (bif (!x1) then
  some epactlaw06_awake
 else
  (epactlow_AnewForm f).bind fun x2 =>
  (canon_Form x2).bind fun x3 =>
  (epactref06_Form f).bind fun x4 =>
  (epactlow_AlikeForms x3 x4).bind fun x5 =>
  (
   (bif x5 then
    (canon_Is x2).bind fun x6 =>
    (epactlow_AlikeForms f x4).bind fun x7 =>
    some (x6 == x7)
   else
    some false)).bind fun (y1 : Bool) =>
  (
   (bif y1 then
    (epactlow_AlikeForms x2 f).bind fun x8 =>
    some x8
   else
    some false)).bind fun (y2 : Bool) =>
  some (y2 && epactlaw06_awake))

noncomputable def epactlaw06_twice.s1 (f : Form) (s1 : Int × (List (List Span))) (s2 : Int × (List (List Span))) : Option ((Int × (List (List Span))) ⊕ (Jx ((List (List Span))) (Form × Bool))) :=
 (bif (decide (s2.1 < (f.Core.length : Int))) then
  (at? f.Core s2.1).bind fun x2 =>
  (spans_Move x2 (w64 (s1.1 * f.Period))).bind fun x3 =>
  (bif (x3.2 != 0) then
   some (.inr (.ret (f, false)))
  else
   (app? 24 s2.2 [x3.1]).bind fun x4 =>
   some (.inl ((w64 (s2.1 + 1)), x4)))
 else
  some (.inr (.go s2.2)))

noncomputable def epactlaw06_twice.s0 (f : Form) (times : Int) (s1 : Int × (List (List Span))) : Option ((Int × (List (List Span))) ⊕ (Jx ((List (List Span))) (Form × Bool))) :=
 (bif (decide (s1.1 < times)) then
  (loopO (epactlaw06_twice.s1 f s1) (0, s1.2)).bind fun (y2 : Jx ((List (List Span))) (Form × Bool)) =>
  y2.elim (fun r' =>
    some (.inr (.ret r'))) fun a3 =>
  some (.inl ((w64 (s1.1 + 1)), a3))
 else
  some (.inr (.go s1.2)))

noncomputable def epactlaw06_twice (f : Form) (times : Int) : Option (Form × Bool) :=
 (epactlow_AnewForm f).bind fun x1 =>
 (loopO (epactlaw06_twice.s0 f times) (1, x1.Core)).bind fun (y1 : Jx ((List (List Span))) (Form × Bool)) =>
 y1.elim (fun r' =>
   some r') fun a4 =>
 some ((Form.mk (w64 (f.Period * times)) (w64 (f.Count * times)) a4 x1.Odd), true)

noncomputable def epactlaw06_CanonTurns.s0 (at' : Int) (x2 : Form × Bool) (x4 : (List Span) × Int) (s2 : Bool × Int × (List Granule)) : Option ((Bool × Int × (List Granule)) ⊕ (Bool × (List Granule))) :=
 (bif (decide (s2.2.1 < (x2.1.Odd.length : Int))) then
  (
   (
    (at? x2.1.Odd s2.2.1).bind fun x5 =>
    (
     (bif (x5.Index == (w64 at')) then
      some true
     else
      some s2.1)).bind fun (y5 : Bool) =>
    (
     (bif ((!y5) && (decide (x5.Index > (w64 at')))) then
      (app? 32 s2.2.2 [(Granule.mk (w64 at') x4.1)]).bind fun x6 =>
      some (true, x6)
     else
      some (y5, s2.2.2))).bind fun (y6 : Bool × (List Granule)) =>
    (app? 32 y6.2 [x5]).bind fun x7 =>
    some (y6.1, x7)).bind fun (y4 : Bool × (List Granule)) =>
   some (y4.1, y4.2)).bind fun (y3 : Bool × (List Granule)) =>
  some (.inl (y3.1, (w64 (s2.2.1 + 1)), y3.2))
 else
  some (.inr (s2.1, s2.2.2)))

noncomputable def epactlaw06_CanonTurns (f : Form) (times : Int) (at' : Int) : Option (Bool) :=
 (epactlaw06_right f).bind fun x1 =>
 (bif ((!x1) || (decide (f.Period > 1073741824))) then
  some epactlaw06_awake
 else
  (epactlaw06_twice f (w64 (1 + (w64 (times.tmod 6))))).bind fun x2 =>
  (
   (bif (!x2.2) then
    some true
   else
    (gran_Right x2.1).bind fun x3 =>
    some (x3 != 0))).bind fun (y1 : Bool) =>
  (bif y1 then
   some epactlaw06_awake
  else
   (gran_Get f (w64 at')).bind fun x4 =>
   (loopO (epactlaw06_CanonTurns.s0 at' x2 x4) ((x4.2 != 0), 0, [])).bind fun (y2 : Bool × (List Granule)) =>
   (
    (bif (!y2.1) then
     (app? 32 y2.2 [(Granule.mk (w64 at') x4.1)]).bind fun x8 =>
     some x8
    else
     some y2.2)).bind fun (y7 : (List Granule)) =>
   (gran_Right (Form.mk x2.1.Period x2.1.Count x2.1.Core y7)).bind fun x9 =>
   (bif (x9 != 0) then
    some epactlaw06_awake
   else
    (canon_Same f (Form.mk x2.1.Period x2.1.Count x2.1.Core y7)).bind fun x10 =>
    (
     (bif x10 then
      (canon_Form f).bind fun x11 =>
      (canon_Form (Form.mk x2.1.Period x2.1.Count x2.1.Core y7)).bind fun x12 =>
      (epactlow_AlikeForms x11 x12).bind fun x13 =>
      some x13
     else
      some false)).bind fun (y8 : Bool) =>
    some (y8 && epactlaw06_awake))))

end Go.Dn

namespace Go.Dn
open Go Go.Proofs
set_option maxRecDepth 100000
set_option maxHeartbeats 4000000
abbrev vl {α : Type} (c : α → List FV) (x : List α) : PV := .v (.sl (x.map c))
abbrev vi (x : Int) : PV := .v (.int .i64 x)
abbrev vu (x : Int) : PV := .v (.int .u64 x)
abbrev vb (x : Bool) : PV := .v (.bool x)
abbrev vF (f : Form) : List PV := [vi f.Period, vi f.Count, vl (cL Span.cs) f.Core, vl Granule.cs f.Odd]

theorem gran_Size_fn {f : Form} {r : Int} (h : gran_Size f = some r) : Fn CX 33 [(.agg (vs (Form.cs f)))] (vi r) := by
 refine Fn.ends Try.func33 rfl rfl rfl rfl rfl rfl ?_
 have H : Hs (⟨0, fun _ => .none⟩ : Heap) [] := Has.nil (Nat.le_refl _)
 generalize (⟨0, fun _ => .none⟩ : Heap) = σ at H ⊢
 unfold gran_Size at h
 apply Runs.then
 refine .regionH 2 rfl H ?_; intro b1 σ H
 refine .boxH (cs := (vF f)) H (by omega) (by omega) rfl rfl rfl ?_; intro σ H
 refine .assign (v := (vi 0)) rfl rfl ?_
 apply Ops.nil
 replace H := H.all
 apply Runs.then
 refine .regionH 1 rfl H ?_; intro b2 σ H
 refine .assign (v := (vi 0)) rfl rfl ?_
 apply Ops.nil
 replace H := H.all
 apply Runs.then
 apply Runs.then
 refine .regionH 4 rfl H ?_; intro b3 σ H
 refine .fieldAddrH (off := 0) (fo := 2) H 0 rfl rfl rfl rfl rfl nofun rfl (.loadH (off := 2) (v := (vl (cL Span.cs) f.Core)) H 0 rfl rfl rfl rfl rfl nofun rfl (.lenPt (c := (cL Span.cs)) (xs := f.Core) rfl rfl rfl (.move (v := (vi 0)) rfl rfl ?_)))
 apply Ops.nil
 replace H := H.all
 apply Runs.inBlock
 obtain ⟨y1, hj1, h⟩ := bind_some h
 obtain ⟨n1, hj1⟩ := loopO_iff.1 hj1
 refine .mono (Runs.loopO hj1 (fun s1 e σ => EnvHas e [(1, (.ptr (b1 + 0) 4 0)), (3, (vi s1.1)), (9, (vl (cL Span.cs) f.Core)), (10, (vi (f.Core.length : Int))), (11, (vi s1.2))] ∧ Hs σ [.blk (b1 + 0) 25 (vF f)]) (fun y1 x e σ => x = .exit 0 ∧ EnvHas e [(1, (.ptr (b1 + 0) 4 0)), (3, (vi y1))] ∧ Hs σ [.blk (b1 + 0) 25 (vF f)]) ⟨⟨rfl, rfl, rfl, rfl, rfl, trivial⟩, H⟩ ?_) ?_
 ·intro s1 e σ hI z h
  obtain ⟨he, H⟩ := hI
  obtain ⟨e, rfl⟩ := he.ex
  unfold gran_Size.s0 at h
  apply Runs.then
  refine .regionH 1 rfl H ?_; intro b4 σ H
  refine .int (m := s1.2) (m' := (f.Core.length : Int)) (r := .bool (decide (s1.2 < (f.Core.length : Int)))) rfl rfl rfl rfl rfl ?_
  apply Ops.nil
  replace H := H.all
  apply Runs.then
  refine .whether (v := (decide (s1.2 < (f.Core.length : Int)))) rfl ?_ ?_ <;> intro hc1
  ·replace h := cond_T hc1 h
   apply Runs.skip
   apply Runs.then
   apply Runs.inBlock
   apply Runs.then
   refine .regionH 3 rfl H ?_; intro b5 σ H
   obtain ⟨x1, q1, h⟩ := bind_some h
   refine .indexP (c := (cL Span.cs)) (u := x1) rfl rfl q1 rfl rfl rfl rfl (.loadP (u := (.sl (x1.map Span.cs))) rfl rfl rfl rfl (.assign (v := (vl Span.cs x1)) rfl rfl ?_))
   apply Ops.nil
   replace H := H.all
   refine .regionH 5 rfl H ?_; intro b6 σ H
   refine .move (v := (vi s1.1)) rfl rfl (.move (v := (vl Span.cs x1)) rfl rfl (.lenPt (c := Span.cs) (xs := x1) rfl rfl rfl (.int (m := s1.1) (m' := (x1.length : Int)) (r := .int .i64 (w64 (s1.1 + (x1.length : Int)))) rfl rfl rfl rfl rfl ?_)))
   refine .assign (v := (vi (w64 (s1.1 + (x1.length : Int))))) rfl rfl ?_
   apply Ops.nil
   replace H := H.all
   refine .regionH 2 rfl H ?_; intro b7 σ H
   refine .int (m := s1.2) (m' := 1) (r := .int .i64 (w64 (s1.2 + 1))) rfl rfl rfl rfl rfl (.move (v := (vi (w64 (s1.2 + 1)))) rfl rfl ?_)
   apply Ops.nil
   replace H := H.all
   replace h := Option.some.inj h; subst h
   exact ⟨rfl, ⟨rfl, rfl, rfl, rfl, rfl, trivial⟩, H⟩
  ·replace h := cond_F hc1 h
   apply Runs.exit
   replace h := Option.some.inj h; subst h
   exact ⟨nofun, ⟨rfl, ⟨rfl, rfl, trivial⟩, H⟩⟩
 ·rintro x e σ ⟨rfl, he, H⟩
  obtain ⟨e, rfl⟩ := he.ex
  apply Runs.then
  apply Runs.then
  refine .regionH 4 rfl H ?_; intro b8 σ H
  refine .fieldAddrH (off := 0) (fo := 3) H 0 rfl rfl rfl rfl rfl nofun rfl (.loadH (off := 3) (v := (vl Granule.cs f.Odd)) H 0 rfl rfl rfl rfl rfl nofun rfl (.lenPt (c := Granule.cs) (xs := f.Odd) rfl rfl rfl (.move (v := (vi 0)) rfl rfl ?_)))
  apply Ops.nil
  replace H := H.all
  apply Runs.inBlock
  obtain ⟨y2, hj2, h⟩ := bind_some h
  obtain ⟨n2, hj2⟩ := loopO_iff.1 hj2
  refine .mono (Runs.loopO hj2 (fun s2 e σ => EnvHas e [(3, (vi s2.1)), (21, (vl Granule.cs f.Odd)), (22, (vi (f.Odd.length : Int))), (23, (vi s2.2))] ∧ Hs σ []) (fun y2 x e σ => x = .exit 2 ∧ EnvHas e [(3, (vi y2))] ∧ Hs σ []) ⟨⟨rfl, rfl, rfl, rfl, trivial⟩, (H.erase 0)⟩ ?_) ?_
  ·intro s2 e σ hI z h
   obtain ⟨he, H⟩ := hI
   obtain ⟨e, rfl⟩ := he.ex
   unfold gran_Size.s1 at h
   apply Runs.then
   refine .regionH 1 rfl H ?_; intro b9 σ H
   refine .int (m := s2.2) (m' := (f.Odd.length : Int)) (r := .bool (decide (s2.2 < (f.Odd.length : Int)))) rfl rfl rfl rfl rfl ?_
   apply Ops.nil
   replace H := H.all
   apply Runs.then
   refine .whether (v := (decide (s2.2 < (f.Odd.length : Int)))) rfl ?_ ?_ <;> intro hc2
   ·replace h := cond_T hc2 h
    apply Runs.skip
    apply Runs.then
    apply Runs.inBlock
    apply Runs.then
    refine .regionH 4 rfl H ?_; intro b10 σ H
    obtain ⟨x2, q2, h⟩ := bind_some h
    refine .indexP (c := Granule.cs) (u := x2) rfl rfl q2 rfl rfl rfl rfl (.loadPA (cs := [(.int .i64 x2.Index), (.sl (x2.Ticks.map Span.cs))]) rfl rfl rfl rfl rfl rfl (.allocH (cs := [(vi 0), .nils]) H (by omega) (by omega) rfl rfl ?_)); intro σ H
    refine .storeH (off := 0) (cells' := [(vi x2.Index), (vl Span.cs x2.Ticks)]) H 0 rfl rfl rfl rfl rfl rfl rfl rfl rfl nofun ?_; intro σ H
    apply Ops.nil
    replace H := H.all
    refine .regionH 6 rfl H ?_; intro b11 σ H
    refine .move (v := (vi s2.1)) rfl rfl (.fieldAddrH (off := 0) (fo := 1) H 0 rfl rfl rfl rfl rfl nofun rfl (.loadH (off := 1) (v := (vl Span.cs x2.Ticks)) H 0 rfl rfl rfl rfl rfl nofun rfl (.lenPt (c := Span.cs) (xs := x2.Ticks) rfl rfl rfl ?_)))
    refine .int (m := s2.1) (m' := (x2.Ticks.length : Int)) (r := .int .i64 (w64 (s2.1 + (x2.Ticks.length : Int)))) rfl rfl rfl rfl rfl (.assign (v := (vi (w64 (s2.1 + (x2.Ticks.length : Int))))) rfl rfl ?_)
    apply Ops.nil
    replace H := H.all
    refine .regionH 2 rfl H ?_; intro b12 σ H
    refine .int (m := s2.2) (m' := 1) (r := .int .i64 (w64 (s2.2 + 1))) rfl rfl rfl rfl rfl (.move (v := (vi (w64 (s2.2 + 1)))) rfl rfl ?_)
    apply Ops.nil
    replace H := H.all
    replace h := Option.some.inj h; subst h
    exact ⟨rfl, ⟨rfl, rfl, rfl, rfl, trivial⟩, (H.erase 0)⟩
   ·replace h := cond_F hc2 h
    apply Runs.exit
    replace h := Option.some.inj h; subst h
    exact ⟨nofun, ⟨rfl, ⟨rfl, trivial⟩, H⟩⟩
  ·rintro x e σ ⟨rfl, he, H⟩
   obtain ⟨e, rfl⟩ := he.ex
   apply Runs.then
   refine .regionH 2 rfl H ?_; intro b13 σ H
   refine .move (v := (vi y2)) rfl rfl (.assign (v := (vi y2)) rfl rfl ?_)
   apply Ops.nil
   replace H := H.all
   apply Runs.ret
   replace h := Option.some.inj h; subst h
   exact (Ends.H (xs := [(vi y2)]) (.inr rfl) H (.tmp (v := (vi y2)) rfl .nil) (.one (.c (.v _))))

theorem epactlaw05_Small_fn {f : Form} {r : Bool} (h : epactlaw05_Small f = some r) : Fn CX 36 [(.agg (vs (Form.cs f)))] (vb r) := by
 refine Fn.ends Try.func36 rfl rfl rfl rfl rfl rfl ?_
 have H : Hs (⟨0, fun _ => .none⟩ : Heap) [] := Has.nil (Nat.le_refl _)
 generalize (⟨0, fun _ => .none⟩ : Heap) = σ at H ⊢
 unfold epactlaw05_Small at h
 apply Runs.then
 refine .regionH 2 rfl H ?_; intro b1 σ H
 refine .boxH (cs := (vF f)) H (by omega) (by omega) rfl rfl rfl ?_; intro σ H
 refine .assign (v := (vb false)) rfl rfl ?_
 apply Ops.nil
 replace H := H.all
 apply Runs.then
 refine .regionH 16 rfl H ?_; intro b2 σ H
 refine .fieldAddrH (off := 0) (fo := 2) H 0 rfl rfl rfl rfl rfl nofun rfl (.loadH (off := 2) (v := (vl (cL Span.cs) f.Core)) H 0 rfl rfl rfl rfl rfl nofun rfl (.lenPt (c := (cL Span.cs)) (xs := f.Core) rfl rfl rfl (.int (m := (f.Core.length : Int)) (m' := 12) (r := .bool (decide ((f.Core.length : Int) ≤ 12))) rfl rfl rfl rfl rfl ?_)))
 refine .move (v := (vb (decide ((f.Core.length : Int) ≤ 12)))) rfl rfl ?_
 refine .mid 5 (K1 := fun e σ => EnvHas e [(12, (vb ((decide ((f.Core.length : Int) ≤ 12)) && (decide ((f.Odd.length : Int) ≤ 8))))), (1, (.ptr (b1 + 0) 4 0))] ∧ Has σ (b2 + 10) (b2 + 16) [.blk (b1 + 0) 25 (vF f)]) rfl ?_ ?_
 ·refine .split rfl rfl ?_ ?_ <;> intro hc1
  ·skip
   refine .wanted rfl rfl (.fieldAddrH (off := 0) (fo := 3) H 0 rfl rfl rfl rfl rfl nofun rfl (.wanted rfl rfl (.loadH (off := 3) (v := (vl Granule.cs f.Odd)) H 0 rfl rfl rfl rfl rfl nofun rfl ?_)))
   refine .wanted rfl rfl (.lenPt (c := Granule.cs) (xs := f.Odd) rfl rfl rfl (.wanted rfl rfl (.int (m := (f.Odd.length : Int)) (m' := 8) (r := .bool (decide ((f.Odd.length : Int) ≤ 8))) rfl rfl rfl rfl rfl ?_)))
   refine .pickT (v := (vb (decide ((f.Odd.length : Int) ≤ 8)))) rfl rfl rfl ?_
   apply Ops.nil
   exact ⟨⟨and_T hc1, rfl, trivial⟩, H.weak (by omega) (Nat.le_refl _)⟩
  ·skip
   refine .pass rfl rfl rfl (.pass rfl rfl rfl (.pass rfl rfl rfl (.pass rfl rfl rfl ?_)))
   refine .pickF (v := (vb false)) rfl rfl rfl ?_
   apply Ops.nil
   exact ⟨⟨and_F hc1, rfl, trivial⟩, H.weak (by omega) (Nat.le_refl _)⟩
 ·rintro e σ ⟨he, H⟩
  obtain ⟨e, rfl⟩ := he.ex
  refine .move (v := (vb ((decide ((f.Core.length : Int) ≤ 12)) && (decide ((f.Odd.length : Int) ≤ 8))))) rfl rfl ?_
  obtain ⟨y1, hj1, h⟩ := bind_some h
  refine .mid 4 (K1 := fun e σ => EnvHas e [(17, (vb y1))] ∧ Has σ (b2 + 15) (b2 + 16) []) rfl ?_ ?_
  ·refine .split rfl rfl ?_ ?_ <;> intro hc2
   ·replace h := cond_T hc2 hj1
    refine .wanted rfl rfl (.loadHA (off := 0) (cs := (vF f)) H 0 rfl rfl rfl rfl rfl rfl rfl nofun rfl (.wanted rfl rfl ?_))
    obtain ⟨x1, q1, h⟩ := bind_some h
    refine .call (ys := [(.agg (vF f))]) (r := (vi x1)) rfl (gran_Size_fn q1) rfl (.wanted rfl rfl (.int (m := x1) (m' := 60) (r := .bool (decide (x1 ≤ 60))) rfl rfl rfl rfl rfl (.pickT (v := (vb (decide (x1 ≤ 60)))) rfl rfl rfl ?_)))
    apply Ops.nil
    replace h := Option.some.inj h; subst h
    exact ⟨⟨rfl, trivial⟩, (H.erase 0).weak (by omega) (Nat.le_refl _)⟩
   ·replace h := cond_F hc2 hj1
    refine .pass rfl rfl rfl (.pass rfl rfl rfl (.pass rfl rfl rfl (.pickF (v := (vb false)) rfl rfl rfl ?_)))
    apply Ops.nil
    replace h := Option.some.inj h; subst h
    exact ⟨⟨rfl, trivial⟩, (H.erase 0).weak (by omega) (Nat.le_refl _)⟩
  ·rintro e σ ⟨he, H⟩
   obtain ⟨e, rfl⟩ := he.ex
   refine .assign (v := (vb y1)) rfl rfl ?_
   apply Ops.nil
   replace H := H.all
   apply Runs.ret
   replace h := Option.some.inj h; subst h
   exact (Ends.H (xs := [(vb y1)]) (.inr rfl) H (.tmp (v := (vb y1)) rfl .nil) (.one (.c (.v _))))

theorem spans_tick_fn {t : Int} {r : Bool} (h : spans_tick t = r) : Fn CX 41 [(vi t)] (vb r) := by
 refine Fn.ends Try.func41 rfl rfl rfl rfl rfl rfl ?_
 have H : Hs (⟨0, fun _ => .none⟩ : Heap) [] := Has.nil (Nat.le_refl _)
 generalize (⟨0, fun _ => .none⟩ : Heap) = σ at H ⊢
 unfold spans_tick at h
 apply Runs.then
 refine .regionH 1 rfl H ?_; intro b1 σ H
 refine .assign (v := (vb false)) rfl rfl ?_
 apply Ops.nil
 replace H := H.all
 apply Runs.then
 refine .regionH 7 rfl H ?_; intro b2 σ H
 refine .move (v := (vi t)) rfl rfl (.int (m := t) (m' := (-1099511627776)) (r := .bool (decide (t ≥ (-1099511627776)))) rfl rfl rfl rfl rfl (.move (v := (vb (decide (t ≥ (-1099511627776))))) rfl rfl ?_))
 refine .mid 3 (K1 := fun e σ => EnvHas e [(8, (vb ((decide (t ≥ (-1099511627776))) && (decide (t ≤ 1099511627776)))))] ∧ Has σ (b2 + 6) (b2 + 7) []) rfl ?_ ?_
 ·refine .split rfl rfl ?_ ?_ <;> intro hc1
  ·skip
   refine .wanted rfl rfl (.move (v := (vi t)) rfl rfl (.wanted rfl rfl (.int (m := t) (m' := 1099511627776) (r := .bool (decide (t ≤ 1099511627776))) rfl rfl rfl rfl rfl ?_)))
   refine .pickT (v := (vb (decide (t ≤ 1099511627776)))) rfl rfl rfl ?_
   apply Ops.nil
   exact ⟨⟨and_T hc1, trivial⟩, H.weak (by omega) (Nat.le_refl _)⟩
  ·skip
   refine .pass rfl rfl rfl (.pass rfl rfl rfl (.pickF (v := (vb false)) rfl rfl rfl ?_))
   apply Ops.nil
   exact ⟨⟨and_F hc1, trivial⟩, H.weak (by omega) (Nat.le_refl _)⟩
 ·rintro e σ ⟨he, H⟩
  obtain ⟨e, rfl⟩ := he.ex
  refine .assign (v := (vb ((decide (t ≥ (-1099511627776))) && (decide (t ≤ 1099511627776))))) rfl rfl ?_
  apply Ops.nil
  replace H := H.all
  apply Runs.ret
  subst h
  exact (Ends.H (xs := [(vb ((decide (t ≥ (-1099511627776))) && (decide (t ≤ 1099511627776))))]) (.inr rfl) H (.tmp (v := (vb ((decide (t ≥ (-1099511627776))) && (decide (t ≤ 1099511627776))))) rfl .nil) (.one (.c (.v _))))

theorem spans_Right_fn {l : (List Span)} {r : Bool} (h : spans_Right l = some r) : Fn CX 17 [(vl Span.cs l)] (vb r) := by
 refine Fn.ends Try.func17 rfl rfl rfl rfl rfl rfl ?_
 have H : Hs (⟨0, fun _ => .none⟩ : Heap) [] := Has.nil (Nat.le_refl _)
 generalize (⟨0, fun _ => .none⟩ : Heap) = σ at H ⊢
 unfold spans_Right at h
 apply Runs.then
 refine .regionH 1 rfl H ?_; intro b1 σ H
 refine .assign (v := (vb false)) rfl rfl ?_
 apply Ops.nil
 replace H := H.all
 apply Runs.then
 apply Runs.then
 refine .regionH 3 rfl H ?_; intro b2 σ H
 refine .move (v := (vl Span.cs l)) rfl rfl (.lenPt (c := Span.cs) (xs := l) rfl rfl rfl (.move (v := (vi 0)) rfl rfl ?_))
 apply Ops.nil
 replace H := H.all
 apply Runs.inBlock
 obtain ⟨y1, hj1, h⟩ := bind_some h
 obtain ⟨n1, hj1⟩ := loopO_iff.1 hj1
 refine .mono (Runs.loopO hj1 (fun s1 e σ => EnvHas e [(0, (vl Span.cs l)), (5, (vl Span.cs l)), (6, (vi (l.length : Int))), (7, (vi s1))] ∧ Hs σ []) (fun y1 x e σ => (∃ a1, y1 = (.go a1) ∧ x = .exit 0 ∧ EnvHas e [] ∧ Hs σ []) ∨ (∃ r', y1 = (.ret r') ∧ x = .ret ∧ Ends CX Try.f17.results.toList (vb r') x e σ)) ⟨⟨rfl, rfl, rfl, rfl, trivial⟩, H⟩ ?_) ?_
 ·intro s1 e σ hI z h
  obtain ⟨he, H⟩ := hI
  obtain ⟨e, rfl⟩ := he.ex
  unfold spans_Right.s0 at h
  apply Runs.then
  refine .regionH 1 rfl H ?_; intro b3 σ H
  refine .int (m := s1) (m' := (l.length : Int)) (r := .bool (decide (s1 < (l.length : Int)))) rfl rfl rfl rfl rfl ?_
  apply Ops.nil
  replace H := H.all
  apply Runs.then
  refine .whether (v := (decide (s1 < (l.length : Int)))) rfl ?_ ?_ <;> intro hc1
  ·replace h := cond_T hc1 h
   apply Runs.skip
   apply Runs.then
   apply Runs.inBlock
   apply Runs.then
   refine .regionH 6 rfl H ?_; intro b4 σ H
   refine .move (v := (vi s1)) rfl rfl ?_
   obtain ⟨x1, q1, h⟩ := bind_some h
   refine .indexP (c := Span.cs) (u := x1) rfl rfl q1 rfl rfl rfl rfl (.loadPA (cs := [(.int .i64 x1.From), (.int .i64 x1.To)]) rfl rfl rfl rfl rfl rfl (.allocH (cs := [(vi 0), (vi 0)]) H (by omega) (by omega) rfl rfl ?_)); intro σ H
   refine .assign (v := (vi s1)) rfl rfl (.storeH (off := 0) (cells' := [(vi x1.From), (vi x1.To)]) H 0 rfl rfl rfl rfl rfl rfl rfl rfl rfl nofun ?_); intro σ H
   apply Ops.nil
   replace H := H.all
   apply Runs.then
   refine .drawnH 33 rfl (by kernel_rfl) H ?_; intro b5 σ H B5
   refine .fieldAddrH (off := 0) (fo := 0) H 0 rfl rfl rfl rfl rfl (fun _ => .inl ⟨B5 0 _ rfl _ rfl, nofun, (fun _ => by kernel_rfl)⟩) rfl (.loadH (off := 0) (v := (vi x1.From)) H 0 rfl rfl rfl rfl rfl (fun _ => .inl ⟨B5 0 _ rfl _ rfl, nofun, (fun _ => by kernel_rfl)⟩) rfl (.call (ys := [(vi x1.From)]) (r := (vb (spans_tick x1.From))) rfl (spans_tick_fn rfl) rfl (.not (b := (spans_tick x1.From)) rfl rfl ?_)))
   refine .move (v := (vb (!(spans_tick x1.From)))) rfl rfl ?_
   refine .mid 5 (K1 := fun e σ => EnvHas e [(21, (vb ((!(spans_tick x1.From)) || (!(spans_tick x1.To))))), (0, (vl Span.cs l)), (3, (vi s1)), (4, (.ptr (b4 + 3) 2 0)), (5, (vl Span.cs l)), (6, (vi (l.length : Int))), (7, (vi s1))] ∧ Has σ (b5 + 10) (b5 + 33) [.blk (b4 + 3) 43 [(vi x1.From), (vi x1.To)]]) rfl ?_ ?_
   ·refine .split rfl rfl ?_ ?_ <;> intro hc2
    ·skip
     refine .pass rfl rfl rfl (.pass rfl rfl rfl (.pass rfl rfl rfl (.pass rfl rfl rfl ?_)))
     refine .pickT (v := (vb true)) rfl rfl rfl ?_
     apply Ops.nil
     exact ⟨⟨or_T hc2, rfl, rfl, rfl, rfl, rfl, rfl, trivial⟩, H.weak (by omega) (Nat.le_refl _)⟩
    ·skip
     refine .wanted rfl rfl (.fieldAddrH (off := 0) (fo := 1) H 0 rfl rfl rfl rfl rfl (fun _ => .inl ⟨B5 0 _ rfl _ rfl, nofun, (fun _ => by kernel_rfl)⟩) rfl (.wanted rfl rfl (.loadH (off := 1) (v := (vi x1.To)) H 0 rfl rfl rfl rfl rfl (fun _ => .inl ⟨B5 0 _ rfl _ rfl, nofun, (fun _ => by kernel_rfl)⟩) rfl ?_)))
     refine .wanted rfl rfl (.call (ys := [(vi x1.To)]) (r := (vb (spans_tick x1.To))) rfl (spans_tick_fn rfl) rfl (.wanted rfl rfl (.not (b := (spans_tick x1.To)) rfl rfl ?_)))
     refine .pickF (v := (vb (!(spans_tick x1.To)))) rfl rfl rfl ?_
     apply Ops.nil
     exact ⟨⟨or_F hc2, rfl, rfl, rfl, rfl, rfl, rfl, trivial⟩, H.weak (by omega) (Nat.le_refl _)⟩
   ·rintro e σ ⟨he, H⟩
    obtain ⟨e, rfl⟩ := he.ex
    refine .move (v := (vb ((!(spans_tick x1.From)) || (!(spans_tick x1.To))))) rfl rfl ?_
    refine .mid 6 (K1 := fun e σ => EnvHas e [(28, (vb (((!(spans_tick x1.From)) || (!(spans_tick x1.To))) || (decide (x1.From > x1.To))))), (0, (vl Span.cs l)), (3, (vi s1)), (4, (.ptr (b4 + 3) 2 0)), (5, (vl Span.cs l)), (6, (vi (l.length : Int))), (7, (vi s1))] ∧ Has σ (b5 + 17) (b5 + 33) [.blk (b4 + 3) 43 [(vi x1.From), (vi x1.To)]]) rfl ?_ ?_
    ·refine .split rfl rfl ?_ ?_ <;> intro hc3
     ·skip
      refine .pass rfl rfl rfl (.pass rfl rfl rfl (.pass rfl rfl rfl (.pass rfl rfl rfl ?_)))
      refine .pass rfl rfl rfl (.pickT (v := (vb true)) rfl rfl rfl ?_)
      apply Ops.nil
      exact ⟨⟨or_T hc3, rfl, rfl, rfl, rfl, rfl, rfl, trivial⟩, H.weak (by omega) (Nat.le_refl _)⟩
     ·skip
      refine .wanted rfl rfl (.fieldAddrH (off := 0) (fo := 0) H 0 rfl rfl rfl rfl rfl (fun _ => .inl ⟨B5 0 _ rfl _ rfl, nofun, (fun _ => by kernel_rfl)⟩) rfl (.wanted rfl rfl (.loadH (off := 0) (v := (vi x1.From)) H 0 rfl rfl rfl rfl rfl (fun _ => .inl ⟨B5 0 _ rfl _ rfl, nofun, (fun _ => by kernel_rfl)⟩) rfl ?_)))
      refine .wanted rfl rfl (.fieldAddrH (off := 0) (fo := 1) H 0 rfl rfl rfl rfl rfl (fun _ => .inl ⟨B5 0 _ rfl _ rfl, nofun, (fun _ => by kernel_rfl)⟩) rfl (.wanted rfl rfl (.loadH (off := 1) (v := (vi x1.To)) H 0 rfl rfl rfl rfl rfl (fun _ => .inl ⟨B5 0 _ rfl _ rfl, nofun, (fun _ => by kernel_rfl)⟩) rfl ?_)))
      refine .wanted rfl rfl (.int (m := x1.From) (m' := x1.To) (r := .bool (decide (x1.From > x1.To))) rfl rfl rfl rfl rfl (.pickF (v := (vb (decide (x1.From > x1.To)))) rfl rfl rfl ?_))
      apply Ops.nil
      exact ⟨⟨or_F hc3, rfl, rfl, rfl, rfl, rfl, rfl, trivial⟩, H.weak (by omega) (Nat.le_refl _)⟩
    ·rintro e σ ⟨he, H⟩
     obtain ⟨e, rfl⟩ := he.ex
     refine .move (v := (vb (((!(spans_tick x1.From)) || (!(spans_tick x1.To))) || (decide (x1.From > x1.To))))) rfl rfl ?_
     obtain ⟨y2, hj2, h⟩ := bind_some h
     refine .mid 15 (K1 := fun e σ => EnvHas e [(44, (vb y2)), (0, (vl Span.cs l)), (5, (vl Span.cs l)), (6, (vi (l.length : Int))), (7, (vi s1))] ∧ Has σ (b5 + 33) (b5 + 33) []) rfl ?_ ?_
     ·refine .split rfl rfl ?_ ?_ <;> intro hc4
      ·replace h := cond_T hc4 hj2
       refine .pass rfl rfl rfl (.pass rfl rfl rfl (.pass rfl rfl rfl (.passU rfl rfl rfl ?_)))
       refine .passU rfl rfl rfl (.passU rfl rfl rfl (.passU rfl rfl rfl (.passU rfl rfl rfl ?_)))
       refine .passU rfl rfl rfl (.passU rfl rfl rfl (.passU rfl rfl rfl (.passU rfl rfl rfl ?_)))
       refine .passU rfl rfl rfl (.pass rfl rfl rfl (.pickT (v := (vb true)) rfl rfl rfl ?_))
       apply Ops.nil
       replace h := Option.some.inj h; subst h
       exact ⟨⟨rfl, rfl, rfl, rfl, rfl, trivial⟩, (H.erase 0).weak (by omega) (Nat.le_refl _)⟩
      ·replace h := cond_F hc4 hj2
       refine .wanted rfl rfl (.move (v := (vi s1)) rfl rfl (.wanted rfl rfl (.int (m := s1) (m' := 0) (r := .bool (decide (s1 > 0))) rfl rfl rfl rfl rfl ?_)))
       refine .wanted rfl rfl (.move (v := (vb (decide (s1 > 0)))) rfl rfl ?_)
       obtain ⟨y3, hj3, h⟩ := bind_some h
       refine .mid 11 (K1 := fun e σ => EnvHas e [(43, (vb y3)), (0, (vl Span.cs l)), (5, (vl Span.cs l)), (6, (vi (l.length : Int))), (7, (vi s1)), (29, (vb false))] ∧ Has σ (b5 + 32) (b5 + 33) []) rfl ?_ ?_
       ·refine .split rfl rfl ?_ ?_ <;> intro hc5
        ·replace h := cond_T hc5 hj3
         refine .wanted rfl rfl (.fieldAddrH (off := 0) (fo := 0) H 0 rfl rfl rfl rfl rfl (fun _ => .inl ⟨B5 0 _ rfl _ rfl, nofun, (fun _ => by kernel_rfl)⟩) rfl (.wanted rfl rfl (.loadH (off := 0) (v := (vi x1.From)) H 0 rfl rfl rfl rfl rfl (fun _ => .inl ⟨B5 0 _ rfl _ rfl, nofun, (fun _ => by kernel_rfl)⟩) rfl ?_)))
         refine .wanted rfl rfl (.move (v := (vl Span.cs l)) rfl rfl (.wanted rfl rfl (.move (v := (vi s1)) rfl rfl ?_)))
         refine .wanted rfl rfl (.int (m := s1) (m' := 1) (r := .int .i64 (w64 (s1 - 1))) rfl rfl rfl rfl rfl (.wanted rfl rfl ?_))
         obtain ⟨x2, q2, h⟩ := bind_some h
         refine .indexP (c := Span.cs) (u := x2) rfl rfl q2 rfl rfl rfl rfl (.wanted rfl rfl (.fieldAddrP rfl rfl rfl rfl (.wanted rfl rfl ?_)))
         refine .loadP (u := (.int .i64 x2.To)) rfl rfl rfl rfl (.wanted rfl rfl (.int (m := x2.To) (m' := 2) (r := .int .i64 (w64 (x2.To + 2))) rfl rfl rfl rfl rfl (.wanted rfl rfl ?_)))
         refine .int (m := x1.From) (m' := (w64 (x2.To + 2))) (r := .bool (decide (x1.From < (w64 (x2.To + 2))))) rfl rfl rfl rfl rfl (.wanted rfl rfl (.pickT (v := (vb (decide (x1.From < (w64 (x2.To + 2)))))) rfl rfl rfl ?_))
         apply Ops.nil
         replace h := Option.some.inj h; subst h
         exact ⟨⟨rfl, rfl, rfl, rfl, rfl, rfl, trivial⟩, (H.erase 0).weak (by omega) (Nat.le_refl _)⟩
        ·replace h := cond_F hc5 hj3
         refine .pass rfl rfl rfl (.pass rfl rfl rfl (.pass rfl rfl rfl (.pass rfl rfl rfl ?_)))
         refine .pass rfl rfl rfl (.pass rfl rfl rfl (.pass rfl rfl rfl (.pass rfl rfl rfl ?_)))
         refine .pass rfl rfl rfl (.pass rfl rfl rfl (.wanted rfl rfl (.pickF (v := (vb false)) rfl rfl rfl ?_)))
         apply Ops.nil
         replace h := Option.some.inj h; subst h
         exact ⟨⟨rfl, rfl, rfl, rfl, rfl, rfl, trivial⟩, (H.erase 0).weak (by omega) (Nat.le_refl _)⟩
       ·rintro e σ ⟨he, H⟩
        obtain ⟨e, rfl⟩ := he.ex
        refine .pickF (v := (vb y3)) rfl rfl rfl ?_
        apply Ops.nil
        replace h := Option.some.inj h; subst h
        exact ⟨⟨rfl, rfl, rfl, rfl, rfl, trivial⟩, H.weak (by omega) (Nat.le_refl _)⟩
     ·rintro e σ ⟨he, H⟩
      obtain ⟨e, rfl⟩ := he.ex
      apply Ops.nil
      replace H := H.all
      refine .whether (v := y2) rfl ?_ ?_ <;> intro hc6
      ·replace h := cond_T hc6 h
       apply Runs.then
       refine .regionH 1 rfl H ?_; intro b6 σ H
       refine .assign (v := (vb false)) rfl rfl ?_
       apply Ops.nil
       replace H := H.all
       apply Runs.ret
       replace h := Option.some.inj h; subst h
       exact ⟨nofun, (.inr ⟨_, rfl, rfl, (Ends.H (xs := [(vb false)]) (.inr rfl) H (.tmp (v := (vb false)) rfl .nil) (.one (.c (.v _))))⟩)⟩
      ·replace h := cond_F hc6 h
       apply Runs.skip
       refine .regionH 2 rfl H ?_; intro b7 σ H
       refine .int (m := s1) (m' := 1) (r := .int .i64 (w64 (s1 + 1))) rfl rfl rfl rfl rfl (.move (v := (vi (w64 (s1 + 1)))) rfl rfl ?_)
       apply Ops.nil
       replace H := H.all
       replace h := Option.some.inj h; subst h
       exact ⟨rfl, ⟨rfl, rfl, rfl, rfl, trivial⟩, H⟩
  ·replace h := cond_F hc1 h
   apply Runs.exit
   replace h := Option.some.inj h; subst h
   exact ⟨nofun, (.inl ⟨_, rfl, rfl, trivial, H⟩)⟩
 ·rintro x e σ (⟨a2, rfl, rfl, he, H⟩ | ⟨r', rfl, rfl, hE⟩)
  ·skip
   replace h := jgo h
   obtain ⟨e, rfl⟩ := he.ex
   apply Runs.then
   refine .regionH 1 rfl H ?_; intro b8 σ H
   refine .assign (v := (vb true)) rfl rfl ?_
   apply Ops.nil
   replace H := H.all
   apply Runs.ret
   replace h := Option.some.inj h; subst h
   exact (Ends.H (xs := [(vb true)]) (.inr rfl) H (.tmp (v := (vb true)) rfl .nil) (.one (.c (.v _))))
  ·skip
   replace h := jret h
   replace h := Option.some.inj h; subst h
   exact hE

theorem gran_inRange_fn {i : Int} {r : Bool} (h : gran_inRange i = r) : Fn CX 39 [(vi i)] (vb r) := by
 refine Fn.ends Try.func39 rfl rfl rfl rfl rfl rfl ?_
 have H : Hs (⟨0, fun _ => .none⟩ : Heap) [] := Has.nil (Nat.le_refl _)
 generalize (⟨0, fun _ => .none⟩ : Heap) = σ at H ⊢
 unfold gran_inRange at h
 apply Runs.then
 refine .regionH 1 rfl H ?_; intro b1 σ H
 refine .assign (v := (vb false)) rfl rfl ?_
 apply Ops.nil
 replace H := H.all
 apply Runs.then
 refine .regionH 7 rfl H ?_; intro b2 σ H
 refine .move (v := (vi i)) rfl rfl (.int (m := i) (m' := (-1099511627776)) (r := .bool (decide (i ≥ (-1099511627776)))) rfl rfl rfl rfl rfl (.move (v := (vb (decide (i ≥ (-1099511627776))))) rfl rfl ?_))
 refine .mid 3 (K1 := fun e σ => EnvHas e [(8, (vb ((decide (i ≥ (-1099511627776))) && (decide (i ≤ 1099511627776)))))] ∧ Has σ (b2 + 6) (b2 + 7) []) rfl ?_ ?_
 ·refine .split rfl rfl ?_ ?_ <;> intro hc1
  ·skip
   refine .wanted rfl rfl (.move (v := (vi i)) rfl rfl (.wanted rfl rfl (.int (m := i) (m' := 1099511627776) (r := .bool (decide (i ≤ 1099511627776))) rfl rfl rfl rfl rfl ?_)))
   refine .pickT (v := (vb (decide (i ≤ 1099511627776)))) rfl rfl rfl ?_
   apply Ops.nil
   exact ⟨⟨and_T hc1, trivial⟩, H.weak (by omega) (Nat.le_refl _)⟩
  ·skip
   refine .pass rfl rfl rfl (.pass rfl rfl rfl (.pickF (v := (vb false)) rfl rfl rfl ?_))
   apply Ops.nil
   exact ⟨⟨and_F hc1, trivial⟩, H.weak (by omega) (Nat.le_refl _)⟩
 ·rintro e σ ⟨he, H⟩
  obtain ⟨e, rfl⟩ := he.ex
  refine .assign (v := (vb ((decide (i ≥ (-1099511627776))) && (decide (i ≤ 1099511627776))))) rfl rfl ?_
  apply Ops.nil
  replace H := H.all
  apply Runs.ret
  subst h
  exact (Ends.H (xs := [(vb ((decide (i ≥ (-1099511627776))) && (decide (i ≤ 1099511627776))))]) (.inr rfl) H (.tmp (v := (vb ((decide (i ≥ (-1099511627776))) && (decide (i ≤ 1099511627776))))) rfl .nil) (.one (.c (.v _))))

theorem gran_shape_fn {f : Form} {r : Bool} (h : gran_shape f = some r) : Fn CX 56 [(.agg (vs (Form.cs f)))] (vb r) := by
 refine Fn.ends Try.func56 rfl rfl rfl rfl rfl rfl ?_
 have H : Hs (⟨0, fun _ => .none⟩ : Heap) [] := Has.nil (Nat.le_refl _)
 generalize (⟨0, fun _ => .none⟩ : Heap) = σ at H ⊢
 unfold gran_shape at h
 apply Runs.then
 refine .regionH 2 rfl H ?_; intro b1 σ H
 refine .boxH (cs := (vF f)) H (by omega) (by omega) rfl rfl rfl ?_; intro σ H
 refine .assign (v := (vb false)) rfl rfl ?_
 apply Ops.nil
 replace H := H.all
 apply Runs.then
 apply Runs.then
 refine .regionH 25 rfl H ?_; intro b2 σ H
 refine .fieldAddrH (off := 0) (fo := 1) H 0 rfl rfl rfl rfl rfl nofun rfl (.loadH (off := 1) (v := (vi f.Count)) H 0 rfl rfl rfl rfl rfl nofun rfl (.fieldAddrH (off := 0) (fo := 2) H 0 rfl rfl rfl rfl rfl nofun rfl (.loadH (off := 2) (v := (vl (cL Span.cs) f.Core)) H 0 rfl rfl rfl rfl rfl nofun rfl ?_)))
 refine .lenPt (c := (cL Span.cs)) (xs := f.Core) rfl rfl rfl (.int (m := f.Count) (m' := (f.Core.length : Int)) (r := .bool (f.Count != (f.Core.length : Int))) rfl rfl rfl rfl rfl (.move (v := (vb (f.Count != (f.Core.length : Int)))) rfl rfl ?_))
 refine .mid 8 (K1 := fun e σ => EnvHas e [(21, (vb ((f.Count != (f.Core.length : Int)) || ((f.Count == 0) != (f.Period == 0))))), (1, (.ptr (b1 + 0) 4 0))] ∧ Has σ (b2 + 15) (b2 + 25) [.blk (b1 + 0) 25 (vF f)]) rfl ?_ ?_
 ·refine .split rfl rfl ?_ ?_ <;> intro hc1
  ·skip
   refine .pass rfl rfl rfl (.pass rfl rfl rfl (.pass rfl rfl rfl (.pass rfl rfl rfl ?_)))
   refine .pass rfl rfl rfl (.pass rfl rfl rfl (.pass rfl rfl rfl (.pickT (v := (vb true)) rfl rfl rfl ?_)))
   apply Ops.nil
   exact ⟨⟨or_T hc1, rfl, trivial⟩, H.weak (by omega) (Nat.le_refl _)⟩
  ·skip
   refine .wanted rfl rfl (.fieldAddrH (off := 0) (fo := 1) H 0 rfl rfl rfl rfl rfl nofun rfl (.wanted rfl rfl (.loadH (off := 1) (v := (vi f.Count)) H 0 rfl rfl rfl rfl rfl nofun rfl ?_)))
   refine .wanted rfl rfl (.int (m := f.Count) (m' := 0) (r := .bool (f.Count == 0)) rfl rfl rfl rfl rfl (.wanted rfl rfl (.fieldAddrH (off := 0) (fo := 0) H 0 rfl rfl rfl rfl rfl nofun rfl ?_)))
   refine .wanted rfl rfl (.loadH (off := 0) (v := (vi f.Period)) H 0 rfl rfl rfl rfl rfl nofun rfl (.wanted rfl rfl (.int (m := f.Period) (m' := 0) (r := .bool (f.Period == 0)) rfl rfl rfl rfl rfl ?_)))
   refine .wanted rfl rfl (.neB (b := (f.Count == 0)) (b' := (f.Period == 0)) rfl rfl rfl rfl (.pickF (v := (vb ((f.Count == 0) != (f.Period == 0)))) rfl rfl rfl ?_))
   apply Ops.nil
   exact ⟨⟨or_F hc1, rfl, trivial⟩, H.weak (by omega) (Nat.le_refl _)⟩
 ·rintro e σ ⟨he, H⟩
  obtain ⟨e, rfl⟩ := he.ex
  refine .move (v := (vb ((f.Count != (f.Core.length : Int)) || ((f.Count == 0) != (f.Period == 0))))) rfl rfl ?_
  refine .mid 4 (K1 := fun e σ => EnvHas e [(26, (vb (((f.Count != (f.Core.length : Int)) || ((f.Count == 0) != (f.Period == 0))) || (decide (f.Period < 0))))), (1, (.ptr (b1 + 0) 4 0))] ∧ Has σ (b2 + 20) (b2 + 25) [.blk (b1 + 0) 25 (vF f)]) rfl ?_ ?_
  ·refine .split rfl rfl ?_ ?_ <;> intro hc2
   ·skip
    refine .pass rfl rfl rfl (.pass rfl rfl rfl (.pass rfl rfl rfl (.pickT (v := (vb true)) rfl rfl rfl ?_)))
    apply Ops.nil
    exact ⟨⟨or_T hc2, rfl, trivial⟩, H.weak (by omega) (Nat.le_refl _)⟩
   ·skip
    refine .wanted rfl rfl (.fieldAddrH (off := 0) (fo := 0) H 0 rfl rfl rfl rfl rfl nofun rfl (.wanted rfl rfl (.loadH (off := 0) (v := (vi f.Period)) H 0 rfl rfl rfl rfl rfl nofun rfl ?_)))
    refine .wanted rfl rfl (.int (m := f.Period) (m' := 0) (r := .bool (decide (f.Period < 0))) rfl rfl rfl rfl rfl (.pickF (v := (vb (decide (f.Period < 0)))) rfl rfl rfl ?_))
    apply Ops.nil
    exact ⟨⟨or_F hc2, rfl, trivial⟩, H.weak (by omega) (Nat.le_refl _)⟩
  ·rintro e σ ⟨he, H⟩
   obtain ⟨e, rfl⟩ := he.ex
   refine .move (v := (vb (((f.Count != (f.Core.length : Int)) || ((f.Count == 0) != (f.Period == 0))) || (decide (f.Period < 0))))) rfl rfl ?_
   refine .mid 4 (K1 := fun e σ => EnvHas e [(31, (vb ((((f.Count != (f.Core.length : Int)) || ((f.Count == 0) != (f.Period == 0))) || (decide (f.Period < 0))) || (decide (f.Period > 1099511627776))))), (1, (.ptr (b1 + 0) 4 0))] ∧ Has σ (b2 + 25) (b2 + 25) [.blk (b1 + 0) 25 (vF f)]) rfl ?_ ?_
   ·refine .split rfl rfl ?_ ?_ <;> intro hc3
    ·skip
     refine .pass rfl rfl rfl (.pass rfl rfl rfl (.pass rfl rfl rfl (.pickT (v := (vb true)) rfl rfl rfl ?_)))
     apply Ops.nil
     exact ⟨⟨or_T hc3, rfl, trivial⟩, H.weak (by omega) (Nat.le_refl _)⟩
    ·skip
     refine .wanted rfl rfl (.fieldAddrH (off := 0) (fo := 0) H 0 rfl rfl rfl rfl rfl nofun rfl (.wanted rfl rfl (.loadH (off := 0) (v := (vi f.Period)) H 0 rfl rfl rfl rfl rfl nofun rfl ?_)))
     refine .wanted rfl rfl (.int (m := f.Period) (m' := 1099511627776) (r := .bool (decide (f.Period > 1099511627776))) rfl rfl rfl rfl rfl (.pickF (v := (vb (decide (f.Period > 1099511627776)))) rfl rfl rfl ?_))
     apply Ops.nil
     exact ⟨⟨or_F hc3, rfl, trivial⟩, H.weak (by omega) (Nat.le_refl _)⟩
   ·rintro e σ ⟨he, H⟩
    obtain ⟨e, rfl⟩ := he.ex
    apply Ops.nil
    replace H := H.all
    refine .whether (v := ((((f.Count != (f.Core.length : Int)) || ((f.Count == 0) != (f.Period == 0))) || (decide (f.Period < 0))) || (decide (f.Period > 1099511627776)))) rfl ?_ ?_ <;> intro hc4
    ·replace h := cond_T hc4 h
     apply Runs.then
     refine .regionH 1 rfl H ?_; intro b3 σ H
     refine .assign (v := (vb false)) rfl rfl ?_
     apply Ops.nil
     replace H := H.all
     apply Runs.ret
     replace h := Option.some.inj h; subst h
     exact (Ends.H (xs := [(vb false)]) (.inr rfl) H (.tmp (v := (vb false)) rfl .nil) (.one (.c (.v _))))
    ·replace h := cond_F hc4 h
     apply Runs.skip
     apply Runs.then
     apply Runs.then
     refine .regionH 4 rfl H ?_; intro b4 σ H
     refine .fieldAddrH (off := 0) (fo := 2) H 0 rfl rfl rfl rfl rfl nofun rfl (.loadH (off := 2) (v := (vl (cL Span.cs) f.Core)) H 0 rfl rfl rfl rfl rfl nofun rfl (.lenPt (c := (cL Span.cs)) (xs := f.Core) rfl rfl rfl (.move (v := (vi 0)) rfl rfl ?_)))
     apply Ops.nil
     replace H := H.all
     apply Runs.inBlock
     obtain ⟨y1, hj1, h⟩ := bind_some h
     obtain ⟨n1, hj1⟩ := loopO_iff.1 hj1
     refine .mono (Runs.loopO hj1 (fun s1 e σ => EnvHas e [(1, (.ptr (b1 + 0) 4 0)), (33, (vl (cL Span.cs) f.Core)), (34, (vi (f.Core.length : Int))), (35, (vi s1))] ∧ Hs σ [.blk (b1 + 0) 25 (vF f)]) (fun y1 x e σ => (∃ a1, y1 = (.go a1) ∧ x = .exit 0 ∧ EnvHas e [(1, (.ptr (b1 + 0) 4 0))] ∧ Hs σ [.blk (b1 + 0) 25 (vF f)]) ∨ (∃ r', y1 = (.ret r') ∧ x = .ret ∧ Ends CX Try.f56.results.toList (vb r') x e σ)) ⟨⟨rfl, rfl, rfl, rfl, trivial⟩, H⟩ ?_) ?_
     ·intro s1 e σ hI z h
      obtain ⟨he, H⟩ := hI
      obtain ⟨e, rfl⟩ := he.ex
      unfold gran_shape.s0 at h
      apply Runs.then
      refine .regionH 1 rfl H ?_; intro b5 σ H
      refine .int (m := s1) (m' := (f.Core.length : Int)) (r := .bool (decide (s1 < (f.Core.length : Int)))) rfl rfl rfl rfl rfl ?_
      apply Ops.nil
      replace H := H.all
      apply Runs.then
      refine .whether (v := (decide (s1 < (f.Core.length : Int)))) rfl ?_ ?_ <;> intro hc5
      ·replace h := cond_T hc5 h
       apply Runs.skip
       apply Runs.then
       apply Runs.inBlock
       apply Runs.then
       refine .regionH 3 rfl H ?_; intro b6 σ H
       obtain ⟨x1, q1, h⟩ := bind_some h
       refine .indexP (c := (cL Span.cs)) (u := x1) rfl rfl q1 rfl rfl rfl rfl (.loadP (u := (.sl (x1.map Span.cs))) rfl rfl rfl rfl (.assign (v := (vl Span.cs x1)) rfl rfl ?_))
       apply Ops.nil
       replace H := H.all
       apply Runs.then
       refine .regionH 3 rfl H ?_; intro b7 σ H
       refine .move (v := (vl Span.cs x1)) rfl rfl ?_
       obtain ⟨x2, q2, h⟩ := bind_some h
       refine .call (ys := [(vl Span.cs x1)]) (r := (vb x2)) rfl (spans_Right_fn q2) rfl (.not (b := x2) rfl rfl ?_)
       apply Ops.nil
       replace H := H.all
       refine .whether (v := (!x2)) rfl ?_ ?_ <;> intro hc6
       ·replace h := cond_T hc6 h
        apply Runs.then
        refine .regionH 1 rfl H ?_; intro b8 σ H
        refine .assign (v := (vb false)) rfl rfl ?_
        apply Ops.nil
        replace H := H.all
        apply Runs.ret
        replace h := Option.some.inj h; subst h
        exact ⟨nofun, (.inr ⟨_, rfl, rfl, (Ends.H (xs := [(vb false)]) (.inr rfl) H (.tmp (v := (vb false)) rfl .nil) (.one (.c (.v _))))⟩)⟩
       ·replace h := cond_F hc6 h
        apply Runs.skip
        refine .regionH 2 rfl H ?_; intro b9 σ H
        refine .int (m := s1) (m' := 1) (r := .int .i64 (w64 (s1 + 1))) rfl rfl rfl rfl rfl (.move (v := (vi (w64 (s1 + 1)))) rfl rfl ?_)
        apply Ops.nil
        replace H := H.all
        replace h := Option.some.inj h; subst h
        exact ⟨rfl, ⟨rfl, rfl, rfl, rfl, trivial⟩, H⟩
      ·replace h := cond_F hc5 h
       apply Runs.exit
       replace h := Option.some.inj h; subst h
       exact ⟨nofun, (.inl ⟨_, rfl, rfl, ⟨rfl, trivial⟩, H⟩)⟩
     ·rintro x e σ (⟨a2, rfl, rfl, he, H⟩ | ⟨r', rfl, rfl, hE⟩)
      ·skip
       replace h := jgo h
       obtain ⟨e, rfl⟩ := he.ex
       apply Runs.then
       apply Runs.then
       refine .regionH 4 rfl H ?_; intro b10 σ H
       refine .fieldAddrH (off := 0) (fo := 3) H 0 rfl rfl rfl rfl rfl nofun rfl (.loadH (off := 3) (v := (vl Granule.cs f.Odd)) H 0 rfl rfl rfl rfl rfl nofun rfl (.lenPt (c := Granule.cs) (xs := f.Odd) rfl rfl rfl (.move (v := (vi 0)) rfl rfl ?_)))
       apply Ops.nil
       replace H := H.all
       apply Runs.inBlock
       obtain ⟨y2, hj2, h⟩ := bind_some h
       obtain ⟨n2, hj2⟩ := loopO_iff.1 hj2
       refine .mono (Runs.loopO hj2 (fun s2 e σ => EnvHas e [(1, (.ptr (b1 + 0) 4 0)), (44, (vl Granule.cs f.Odd)), (45, (vi (f.Odd.length : Int))), (46, (vi s2))] ∧ Hs σ [.blk (b1 + 0) 25 (vF f)]) (fun y2 x e σ => (∃ a3, y2 = (.go a3) ∧ x = .exit 2 ∧ EnvHas e [] ∧ Hs σ []) ∨ (∃ r', y2 = (.ret r') ∧ x = .ret ∧ Ends CX Try.f56.results.toList (vb r') x e σ)) ⟨⟨rfl, rfl, rfl, rfl, trivial⟩, H⟩ ?_) ?_
       ·intro s2 e σ hI z h
        obtain ⟨he, H⟩ := hI
        obtain ⟨e, rfl⟩ := he.ex
        unfold gran_shape.s1 at h
        apply Runs.then
        refine .regionH 1 rfl H ?_; intro b11 σ H
        refine .int (m := s2) (m' := (f.Odd.length : Int)) (r := .bool (decide (s2 < (f.Odd.length : Int)))) rfl rfl rfl rfl rfl ?_
        apply Ops.nil
        replace H := H.all
        apply Runs.then
        refine .whether (v := (decide (s2 < (f.Odd.length : Int)))) rfl ?_ ?_ <;> intro hc7
        ·replace h := cond_T hc7 h
         apply Runs.skip
         apply Runs.then
         apply Runs.inBlock
         apply Runs.then
         refine .regionH 6 rfl H ?_; intro b12 σ H
         refine .move (v := (vi s2)) rfl rfl ?_
         obtain ⟨x3, q3, h⟩ := bind_some h
         refine .indexP (c := Granule.cs) (u := x3) rfl rfl q3 rfl rfl rfl rfl (.loadPA (cs := [(.int .i64 x3.Index), (.sl (x3.Ticks.map Span.cs))]) rfl rfl rfl rfl rfl rfl (.allocH (cs := [(vi 0), .nils]) H (by omega) (by omega) rfl rfl ?_)); intro σ H
         refine .assign (v := (vi s2)) rfl rfl (.storeH (off := 0) (cells' := [(vi x3.Index), (vl Span.cs x3.Ticks)]) H 0 rfl rfl rfl rfl rfl rfl rfl rfl rfl nofun ?_); intro σ H
         apply Ops.nil
         replace H := H.all
         apply Runs.then
         refine .drawnH 26 rfl (by kernel_rfl) H ?_; intro b13 σ H B13
         refine .fieldAddrH (off := 0) (fo := 1) H 0 rfl rfl rfl rfl rfl (fun _ => .inl ⟨B13 0 _ rfl _ rfl, nofun, (fun _ => by kernel_rfl)⟩) rfl (.loadH (off := 1) (v := (vl Span.cs x3.Ticks)) H 0 rfl rfl rfl rfl rfl (fun _ => .inl ⟨B13 0 _ rfl _ rfl, nofun, (fun _ => by kernel_rfl)⟩) rfl ?_)
         obtain ⟨x4, q4, h⟩ := bind_some h
         refine .call (ys := [(vl Span.cs x3.Ticks)]) (r := (vb x4)) rfl (spans_Right_fn q4) rfl (.not (b := x4) rfl rfl (.move (v := (vb (!x4))) rfl rfl ?_))
         refine .mid 5 (K1 := fun e σ => EnvHas e [(60, (vb ((!x4) || (!(gran_inRange x3.Index))))), (1, (.ptr (b1 + 0) 4 0)), (5, (vi s2)), (6, (.ptr (b12 + 3) 2 0)), (44, (vl Granule.cs f.Odd)), (45, (vi (f.Odd.length : Int))), (46, (vi s2))] ∧ Has σ (b13 + 10) (b13 + 26) [.blk (b12 + 3) 45 [(vi x3.Index), (vl Span.cs x3.Ticks)], .blk (b1 + 0) 25 (vF f)]) rfl ?_ ?_
         ·refine .split rfl rfl ?_ ?_ <;> intro hc8
          ·skip
           refine .pass rfl rfl rfl (.pass rfl rfl rfl (.pass rfl rfl rfl (.pass rfl rfl rfl ?_)))
           refine .pickT (v := (vb true)) rfl rfl rfl ?_
           apply Ops.nil
           exact ⟨⟨or_T hc8, rfl, rfl, rfl, rfl, rfl, rfl, trivial⟩, H.weak (by omega) (Nat.le_refl _)⟩
          ·skip
           refine .wanted rfl rfl (.fieldAddrH (off := 0) (fo := 0) H 0 rfl rfl rfl rfl rfl (fun _ => .inl ⟨B13 0 _ rfl _ rfl, nofun, (fun _ => by kernel_rfl)⟩) rfl (.wanted rfl rfl (.loadH (off := 0) (v := (vi x3.Index)) H 0 rfl rfl rfl rfl rfl (fun _ => .inl ⟨B13 0 _ rfl _ rfl, nofun, (fun _ => by kernel_rfl)⟩) rfl ?_)))
           refine .wanted rfl rfl (.call (ys := [(vi x3.Index)]) (r := (vb (gran_inRange x3.Index))) rfl (gran_inRange_fn rfl) rfl (.wanted rfl rfl (.not (b := (gran_inRange x3.Index)) rfl rfl ?_)))
           refine .pickF (v := (vb (!(gran_inRange x3.Index)))) rfl rfl rfl ?_
           apply Ops.nil
           exact ⟨⟨or_F hc8, rfl, rfl, rfl, rfl, rfl, rfl, trivial⟩, H.weak (by omega) (Nat.le_refl _)⟩
         ·rintro e σ ⟨he, H⟩
          obtain ⟨e, rfl⟩ := he.ex
          refine .move (v := (vb ((!x4) || (!(gran_inRange x3.Index))))) rfl rfl ?_
          obtain ⟨y3, hj3, h⟩ := bind_some h
          refine .mid 15 (K1 := fun e σ => EnvHas e [(76, (vb y3)), (1, (.ptr (b1 + 0) 4 0)), (44, (vl Granule.cs f.Odd)), (45, (vi (f.Odd.length : Int))), (46, (vi s2))] ∧ Has σ (b13 + 26) (b13 + 26) [.blk (b1 + 0) 25 (vF f)]) rfl ?_ ?_
          ·refine .split rfl rfl ?_ ?_ <;> intro hc9
           ·replace h := cond_T hc9 hj3
            refine .pass rfl rfl rfl (.pass rfl rfl rfl (.pass rfl rfl rfl (.passU rfl rfl rfl ?_)))
            refine .passU rfl rfl rfl (.passU rfl rfl rfl (.passU rfl rfl rfl (.passU rfl rfl rfl ?_)))
            refine .passU rfl rfl rfl (.passU rfl rfl rfl (.passU rfl rfl rfl (.passU rfl rfl rfl ?_)))
            refine .passU rfl rfl rfl (.pass rfl rfl rfl (.pickT (v := (vb true)) rfl rfl rfl ?_))
            apply Ops.nil
            replace h := Option.some.inj h; subst h
            exact ⟨⟨rfl, rfl, rfl, rfl, rfl, trivial⟩, (H.erase 0).weak (by omega) (Nat.le_refl _)⟩
           ·replace h := cond_F hc9 hj3
            refine .wanted rfl rfl (.move (v := (vi s2)) rfl rfl (.wanted rfl rfl (.int (m := s2) (m' := 0) (r := .bool (decide (s2 > 0))) rfl rfl rfl rfl rfl ?_)))
            refine .wanted rfl rfl (.move (v := (vb (decide (s2 > 0)))) rfl rfl ?_)
            obtain ⟨y4, hj4, h⟩ := bind_some h
            refine .mid 11 (K1 := fun e σ => EnvHas e [(75, (vb y4)), (1, (.ptr (b1 + 0) 4 0)), (44, (vl Granule.cs f.Odd)), (45, (vi (f.Odd.length : Int))), (46, (vi s2)), (61, (vb false))] ∧ Has σ (b13 + 25) (b13 + 26) [.blk (b1 + 0) 25 (vF f)]) rfl ?_ ?_
            ·refine .split rfl rfl ?_ ?_ <;> intro hc10
             ·replace h := cond_T hc10 hj4
              refine .wanted rfl rfl (.fieldAddrH (off := 0) (fo := 0) H 0 rfl rfl rfl rfl rfl (fun _ => .inl ⟨B13 0 _ rfl _ rfl, nofun, (fun _ => by kernel_rfl)⟩) rfl (.wanted rfl rfl (.loadH (off := 0) (v := (vi x3.Index)) H 0 rfl rfl rfl rfl rfl (fun _ => .inl ⟨B13 0 _ rfl _ rfl, nofun, (fun _ => by kernel_rfl)⟩) rfl ?_)))
              refine .wanted rfl rfl (.fieldAddrH (off := 0) (fo := 3) H 1 rfl rfl rfl rfl rfl (fun _ => .inl ⟨B13 1 _ rfl _ rfl, nofun, (fun _ => by kernel_rfl)⟩) rfl (.wanted rfl rfl (.loadH (off := 3) (v := (vl Granule.cs f.Odd)) H 1 rfl rfl rfl rfl rfl (fun _ => .inl ⟨B13 1 _ rfl _ rfl, nofun, (fun _ => by kernel_rfl)⟩) rfl ?_)))
              refine .wanted rfl rfl (.move (v := (vi s2)) rfl rfl (.wanted rfl rfl (.int (m := s2) (m' := 1) (r := .int .i64 (w64 (s2 - 1))) rfl rfl rfl rfl rfl ?_)))
              refine .wanted rfl rfl ?_
              obtain ⟨x5, q5, h⟩ := bind_some h
              refine .indexP (c := Granule.cs) (u := x5) rfl rfl q5 rfl rfl rfl rfl (.wanted rfl rfl (.fieldAddrP rfl rfl rfl rfl (.wanted rfl rfl ?_)))
              refine .loadP (u := (.int .i64 x5.Index)) rfl rfl rfl rfl (.wanted rfl rfl (.int (m := x3.Index) (m' := x5.Index) (r := .bool (decide (x3.Index ≤ x5.Index))) rfl rfl rfl rfl rfl (.wanted rfl rfl ?_)))
              refine .pickT (v := (vb (decide (x3.Index ≤ x5.Index)))) rfl rfl rfl ?_
              apply Ops.nil
              replace h := Option.some.inj h; subst h
              exact ⟨⟨rfl, rfl, rfl, rfl, rfl, rfl, trivial⟩, (H.erase 0).weak (by omega) (Nat.le_refl _)⟩
             ·replace h := cond_F hc10 hj4
              refine .pass rfl rfl rfl (.pass rfl rfl rfl (.pass rfl rfl rfl (.pass rfl rfl rfl ?_)))
              refine .pass rfl rfl rfl (.pass rfl rfl rfl (.pass rfl rfl rfl (.pass rfl rfl rfl ?_)))
              refine .pass rfl rfl rfl (.pass rfl rfl rfl (.wanted rfl rfl (.pickF (v := (vb false)) rfl rfl rfl ?_)))
              apply Ops.nil
              replace h := Option.some.inj h; subst h
              exact ⟨⟨rfl, rfl, rfl, rfl, rfl, rfl, trivial⟩, (H.erase 0).weak (by omega) (Nat.le_refl _)⟩
            ·rintro e σ ⟨he, H⟩
             obtain ⟨e, rfl⟩ := he.ex
             refine .pickF (v := (vb y4)) rfl rfl rfl ?_
             apply Ops.nil
             replace h := Option.some.inj h; subst h
             exact ⟨⟨rfl, rfl, rfl, rfl, rfl, trivial⟩, H.weak (by omega) (Nat.le_refl _)⟩
          ·rintro e σ ⟨he, H⟩
           obtain ⟨e, rfl⟩ := he.ex
           apply Ops.nil
           replace H := H.all
           refine .whether (v := y3) rfl ?_ ?_ <;> intro hc11
           ·replace h := cond_T hc11 h
            apply Runs.then
            refine .regionH 1 rfl H ?_; intro b14 σ H
            refine .assign (v := (vb false)) rfl rfl ?_
            apply Ops.nil
            replace H := H.all
            apply Runs.ret
            replace h := Option.some.inj h; subst h
            exact ⟨nofun, (.inr ⟨_, rfl, rfl, (Ends.H (xs := [(vb false)]) (.inr rfl) H (.tmp (v := (vb false)) rfl .nil) (.one (.c (.v _))))⟩)⟩
           ·replace h := cond_F hc11 h
            apply Runs.skip
            refine .regionH 2 rfl H ?_; intro b15 σ H
            refine .int (m := s2) (m' := 1) (r := .int .i64 (w64 (s2 + 1))) rfl rfl rfl rfl rfl (.move (v := (vi (w64 (s2 + 1)))) rfl rfl ?_)
            apply Ops.nil
            replace H := H.all
            replace h := Option.some.inj h; subst h
            exact ⟨rfl, ⟨rfl, rfl, rfl, rfl, trivial⟩, H⟩
        ·replace h := cond_F hc7 h
         apply Runs.exit
         replace h := Option.some.inj h; subst h
         exact ⟨nofun, (.inl ⟨_, rfl, rfl, trivial, (H.erase 0)⟩)⟩
       ·rintro x e σ (⟨a4, rfl, rfl, he, H⟩ | ⟨r', rfl, rfl, hE⟩)
        ·skip
         replace h := jgo h
         obtain ⟨e, rfl⟩ := he.ex
         apply Runs.then
         refine .regionH 1 rfl H ?_; intro b16 σ H
         refine .assign (v := (vb true)) rfl rfl ?_
         apply Ops.nil
         replace H := H.all
         apply Runs.ret
         replace h := Option.some.inj h; subst h
         exact (Ends.H (xs := [(vb true)]) (.inr rfl) H (.tmp (v := (vb true)) rfl .nil) (.one (.c (.v _))))
        ·skip
         replace h := jret h
         replace h := Option.some.inj h; subst h
         exact hE
      ·skip
       replace h := jret h
       replace h := Option.some.inj h; subst h
       exact hE

theorem gran_turns_fn {f : Form} {r : Bool} (h : gran_turns f = some r) : Fn CX 57 [(.agg (vs (Form.cs f)))] (vb r) := by
 refine Fn.ends Try.func57 rfl rfl rfl rfl rfl rfl ?_
 have H : Hs (⟨0, fun _ => .none⟩ : Heap) [] := Has.nil (Nat.le_refl _)
 generalize (⟨0, fun _ => .none⟩ : Heap) = σ at H ⊢
 unfold gran_turns at h
 apply Runs.then
 refine .regionH 2 rfl H ?_; intro b1 σ H
 refine .boxH (cs := (vF f)) H (by omega) (by omega) rfl rfl rfl ?_; intro σ H
 refine .assign (v := (vb false)) rfl rfl ?_
 apply Ops.nil
 replace H := H.all
 apply Runs.then
 refine .regionH 1 rfl H ?_; intro b2 σ H
 refine .assign (v := .nils) rfl rfl ?_
 apply Ops.nil
 replace H := H.all
 apply Runs.then
 apply Runs.then
 refine .regionH 4 rfl H ?_; intro b3 σ H
 refine .fieldAddrH (off := 0) (fo := 2) H 0 rfl rfl rfl rfl rfl nofun rfl (.loadH (off := 2) (v := (vl (cL Span.cs) f.Core)) H 0 rfl rfl rfl rfl rfl nofun rfl (.lenPt (c := (cL Span.cs)) (xs := f.Core) rfl rfl rfl (.move (v := (vi 0)) rfl rfl ?_)))
 apply Ops.nil
 replace H := H.all
 apply Runs.inBlock
 replace H := H.pushNil 31 1 true
 obtain ⟨y1, hj1, h⟩ := bind_some h
 obtain ⟨n1, hj1⟩ := loopO_iff.1 hj1
 refine .mono (Runs.loopO hj1 (fun s2 e σ => ∃ (w3 : PV), EnvHas e [(1, (.ptr (b1 + 0) 4 0)), (3, w3), (11, (vl (cL Span.cs) f.Core)), (12, (vi (f.Core.length : Int))), (13, (vi s2.1))] ∧ Hs σ [.sl w3 31 1 (s2.2.map (cL Span.cs)) true, .blk (b1 + 0) 25 (vF f)]) (fun y1 x e σ => ∃ (w4 : PV), x = .exit 0 ∧ EnvHas e [(1, (.ptr (b1 + 0) 4 0)), (3, w4)] ∧ Hs σ [.sl w4 31 1 (y1.map (cL Span.cs)) true, .blk (b1 + 0) 25 (vF f)]) ⟨.nils, ⟨rfl, rfl, rfl, rfl, rfl, trivial⟩, H⟩ ?_) ?_
 ·intro s2 e σ hI z h
  obtain ⟨w3, he, H⟩ := hI
  obtain ⟨e, rfl⟩ := he.ex
  unfold gran_turns.s0 at h
  apply Runs.then
  refine .regionH 1 rfl H ?_; intro b4 σ H
  refine .int (m := s2.1) (m' := (f.Core.length : Int)) (r := .bool (decide (s2.1 < (f.Core.length : Int)))) rfl rfl rfl rfl rfl ?_
  apply Ops.nil
  replace H := H.all
  apply Runs.then
  refine .whether (v := (decide (s2.1 < (f.Core.length : Int)))) rfl ?_ ?_ <;> intro hc1
  ·replace h := cond_T hc1 h
   apply Runs.skip
   apply Runs.then
   obtain ⟨y2, hj2, h⟩ := bind_some h
   refine .mono (Q := fun x e σ => ∃ (w5 : PV), x = .normal ∧ EnvHas e [(1, (.ptr (b1 + 0) 4 0)), (3, w5), (11, (vl (cL Span.cs) f.Core)), (12, (vi (f.Core.length : Int))), (13, (vi s2.1))] ∧ Hs σ [.sl w5 31 1 (y2.map (cL Span.cs)) true, .blk (b1 + 0) 25 (vF f)]) ?_ ?_
   ·replace h := hj2
    apply Runs.inBlock
    obtain ⟨y3, hj3, h⟩ := bind_some h
    refine .mono (Q := fun x e σ => ∃ (w6 : PV), x = .normal ∧ EnvHas e [(1, (.ptr (b1 + 0) 4 0)), (3, w6), (11, (vl (cL Span.cs) f.Core)), (12, (vi (f.Core.length : Int))), (13, (vi s2.1))] ∧ Hs σ [.sl w6 31 1 (y3.map (cL Span.cs)) true, .blk (b1 + 0) 25 (vF f)]) ?_ ?_
    ·replace h := hj3
     apply Runs.then
     refine .regionH 3 rfl H ?_; intro b5 σ H
     obtain ⟨x1, q1, h⟩ := bind_some h
     refine .indexP (c := (cL Span.cs)) (u := x1) rfl rfl q1 rfl rfl rfl rfl (.loadP (u := (.sl (x1.map Span.cs))) rfl rfl rfl rfl (.assign (v := (vl Span.cs x1)) rfl rfl ?_))
     apply Ops.nil
     replace H := H.all
     apply Runs.then
     refine .regionH 3 rfl H ?_; intro b6 σ H
     refine .move (v := (vl Span.cs x1)) rfl rfl (.lenPt (c := Span.cs) (xs := x1) rfl rfl rfl (.int (m := (x1.length : Int)) (m' := 0) (r := .bool (decide ((x1.length : Int) > 0))) rfl rfl rfl rfl rfl ?_))
     apply Ops.nil
     replace H := H.all
     refine .whether (v := (decide ((x1.length : Int) > 0))) rfl ?_ ?_ <;> intro hc2
     ·replace h := cond_T hc2 h
      refine .regionH 5 rfl H ?_; intro b7 σ H
      refine .move (v := w3) rfl rfl (.move (v := (vl Span.cs x1)) rfl rfl (.buildS (sz := 1) ([x1].map (cL Span.cs)) H (by omega) (by omega) rfl rfl rfl rfl rfl rfl rfl rfl rfl ?_)); intro σ H
      obtain ⟨x2, q2, h⟩ := bind_some h
      refine .appendSt (c := (cL Span.cs)) (v := w3) (w := (.buf (b7 + 2) 1 1)) (xs := s2.2) (ys := [x1]) H (by omega) (by omega) 1 rfl rfl rfl (.s 0 rfl) q2 rfl rfl rfl rfl rfl nofun rfl ?_; intro w7 σ H
      refine .assign (v := w7) rfl rfl ?_
      apply Ops.nil
      replace H := H.all
      replace h := Option.some.inj h; subst h
      exact ⟨w7, rfl, ⟨rfl, rfl, rfl, rfl, rfl, trivial⟩, (H.erase 0)⟩
     ·replace h := cond_F hc2 h
      apply Runs.skip
      replace h := Option.some.inj h; subst h
      exact ⟨w3, rfl, ⟨rfl, rfl, rfl, rfl, rfl, trivial⟩, H⟩
    ·rintro x e σ ⟨w8, rfl, he, H⟩
     obtain ⟨e, rfl⟩ := he.ex
     replace h := Option.some.inj h; subst h
     exact ⟨w8, rfl, ⟨rfl, rfl, rfl, rfl, rfl, trivial⟩, H⟩
   ·rintro x e σ ⟨w9, rfl, he, H⟩
    obtain ⟨e, rfl⟩ := he.ex
    refine .regionH 2 rfl H ?_; intro b8 σ H
    refine .int (m := s2.1) (m' := 1) (r := .int .i64 (w64 (s2.1 + 1))) rfl rfl rfl rfl rfl (.move (v := (vi (w64 (s2.1 + 1)))) rfl rfl ?_)
    apply Ops.nil
    replace H := H.all
    replace h := Option.some.inj h; subst h
    exact ⟨rfl, w9, ⟨rfl, rfl, rfl, rfl, rfl, trivial⟩, H⟩
  ·replace h := cond_F hc1 h
   apply Runs.exit
   replace h := Option.some.inj h; subst h
   exact ⟨nofun, ⟨w3, rfl, ⟨rfl, rfl, trivial⟩, H⟩⟩
 ·rintro x e σ ⟨w10, rfl, he, H⟩
  obtain ⟨e, rfl⟩ := he.ex
  apply Runs.then
  apply Runs.then
  refine .regionH 3 rfl H ?_; intro b9 σ H
  refine .move (v := w10) rfl rfl (.lenSt (c := (cL Span.cs)) (xs := y1) H 0 rfl rfl rfl nofun rfl (.move (v := (vi 0)) rfl rfl ?_))
  apply Ops.nil
  replace H := H.all
  apply Runs.inBlock
  obtain ⟨y4, hj4, h⟩ := bind_some h
  obtain ⟨n2, hj4⟩ := loopO_iff.1 hj4
  refine .mono (Runs.loopO hj4 (fun s3 e σ => EnvHas e [(1, (.ptr (b1 + 0) 4 0)), (3, w10), (25, w10), (26, (vi (y1.length : Int))), (27, (vi s3))] ∧ Hs σ [.sl w10 31 1 (y1.map (cL Span.cs)) true, .blk (b1 + 0) 25 (vF f)]) (fun y4 x e σ => (∃ a1, y4 = (.go a1) ∧ x = .exit 2 ∧ EnvHas e [] ∧ Hs σ []) ∨ (∃ r', y4 = (.ret r') ∧ x = .ret ∧ Ends CX Try.f57.results.toList (vb r') x e σ)) ⟨⟨rfl, rfl, rfl, rfl, rfl, trivial⟩, H⟩ ?_) ?_
  ·intro s3 e σ hI z h
   obtain ⟨he, H⟩ := hI
   obtain ⟨e, rfl⟩ := he.ex
   unfold gran_turns.s1 at h
   apply Runs.then
   refine .regionH 1 rfl H ?_; intro b10 σ H
   refine .int (m := s3) (m' := (y1.length : Int)) (r := .bool (decide (s3 < (y1.length : Int)))) rfl rfl rfl rfl rfl ?_
   apply Ops.nil
   replace H := H.all
   apply Runs.then
   refine .whether (v := (decide (s3 < (y1.length : Int)))) rfl ?_ ?_ <;> intro hc3
   ·replace h := cond_T hc3 h
    apply Runs.skip
    apply Runs.then
    obtain ⟨y5, hj5, h⟩ := bind_some h
    refine .mono (Q := fun x e σ => (∃ a2, y5 = (.go a2) ∧ x = .normal ∧ EnvHas e [(1, (.ptr (b1 + 0) 4 0)), (3, w10), (25, w10), (26, (vi (y1.length : Int))), (27, (vi s3))] ∧ Hs σ [.sl w10 31 1 (y1.map (cL Span.cs)) true, .blk (b1 + 0) 25 (vF f)]) ∨ (∃ r', y5 = (.ret r') ∧ x = .ret ∧ Ends CX Try.f57.results.toList (vb r') x e σ)) ?_ ?_
    ·replace h := hj5
     apply Runs.inBlock
     obtain ⟨y6, hj6, h⟩ := bind_some h
     refine .mono (Q := fun x e σ => (∃ a3, y6 = (.go a3) ∧ x = .normal ∧ EnvHas e [(1, (.ptr (b1 + 0) 4 0)), (3, w10), (25, w10), (26, (vi (y1.length : Int))), (27, (vi s3))] ∧ Hs σ [.sl w10 31 1 (y1.map (cL Span.cs)) true, .blk (b1 + 0) 25 (vF f)]) ∨ (∃ r', y6 = (.ret r') ∧ x = .ret ∧ Ends CX Try.f57.results.toList (vb r') x e σ)) ?_ ?_
     ·replace h := hj6
      apply Runs.then
      refine .regionH 5 rfl H ?_; intro b11 σ H
      refine .move (v := (vi s3)) rfl rfl ?_
      obtain ⟨x3, q3, h⟩ := bind_some h
      refine .indexS H 0 rfl rfl rfl (at?_map q3) rfl rfl nofun rfl ?_; intro id1 hv1
      refine .loadS (id := id1) (j := 0) (w := (.sl (x3.map Span.cs))) H 0 rfl hv1 (by simp) (at?_map q3) rfl (by simp) rfl rfl rfl nofun rfl ?_
      refine .assign (v := (vi s3)) rfl rfl (.assign (v := (vl Span.cs x3)) rfl rfl ?_)
      apply Ops.nil
      replace H := H.all
      apply Runs.then
      refine .regionH 10 rfl H ?_; intro b12 σ H
      refine .move (v := w10) rfl rfl (.move (v := (vi s3)) rfl rfl (.int (m := s3) (m' := 1) (r := .int .i64 (w64 (s3 + 1))) rfl rfl rfl rfl rfl (.move (v := w10) rfl rfl ?_)))
      refine .lenSt (c := (cL Span.cs)) (xs := y1) H 0 rfl rfl rfl nofun rfl ?_
      obtain ⟨u1, q4, h⟩ := bind_some h
      refine .rem (m := (w64 (s3 + 1))) (m' := (y1.length : Int)) rfl rfl (nz_ne q4) rfl ?_
      obtain ⟨x4, q5, h⟩ := bind_some h
      refine .indexS H 0 rfl rfl rfl (at?_map q5) rfl rfl nofun rfl ?_; intro id2 hv2
      refine .loadS (id := id2) (j := 0) (w := (.sl (x4.map Span.cs))) H 0 rfl hv2 (by simp) (at?_map q5) rfl (by simp) rfl rfl rfl nofun rfl ?_
      refine .assign (v := (vl Span.cs x4)) rfl rfl (.assign (v := (vi 0)) rfl rfl ?_)
      apply Ops.nil
      replace H := H.all
      apply Runs.then
      obtain ⟨y7, hj7, h⟩ := bind_some h
      refine .mono (Q := fun x e σ => x = .normal ∧ EnvHas e [(1, (.ptr (b1 + 0) 4 0)), (3, w10), (7, (vl Span.cs x3)), (8, (vl Span.cs x4)), (9, (vi y7)), (25, w10), (26, (vi (y1.length : Int))), (27, (vi s3))] ∧ Hs σ [.sl w10 31 1 (y1.map (cL Span.cs)) true, .blk (b1 + 0) 25 (vF f)]) ?_ ?_
      ·replace h := hj7
       apply Runs.then
       refine .regionH 5 rfl H ?_; intro b13 σ H
       refine .move (v := (vi s3)) rfl rfl (.int (m := s3) (m' := 1) (r := .int .i64 (w64 (s3 + 1))) rfl rfl rfl rfl rfl (.move (v := w10) rfl rfl (.lenSt (c := (cL Span.cs)) (xs := y1) H 0 rfl rfl rfl nofun rfl ?_)))
       refine .int (m := (w64 (s3 + 1))) (m' := (y1.length : Int)) (r := .bool ((w64 (s3 + 1)) == (y1.length : Int))) rfl rfl rfl rfl rfl ?_
       apply Ops.nil
       replace H := H.all
       refine .whether (v := ((w64 (s3 + 1)) == (y1.length : Int))) rfl ?_ ?_ <;> intro hc4
       ·replace h := cond_T hc4 h
        refine .regionH 3 rfl H ?_; intro b14 σ H
        refine .fieldAddrH (off := 0) (fo := 0) H 1 rfl rfl rfl rfl rfl nofun rfl (.loadH (off := 0) (v := (vi f.Period)) H 1 rfl rfl rfl rfl rfl nofun rfl (.assign (v := (vi f.Period)) rfl rfl ?_))
        apply Ops.nil
        replace H := H.all
        replace h := Option.some.inj h; subst h
        exact ⟨rfl, ⟨rfl, rfl, rfl, rfl, rfl, rfl, rfl, rfl, trivial⟩, H⟩
       ·replace h := cond_F hc4 h
        apply Runs.skip
        replace h := Option.some.inj h; subst h
        exact ⟨rfl, ⟨rfl, rfl, rfl, rfl, rfl, rfl, rfl, rfl, trivial⟩, H⟩
      ·rintro x e σ ⟨rfl, he, H⟩
       obtain ⟨e, rfl⟩ := he.ex
       apply Runs.then
       refine .drawnH 14 rfl (by kernel_rfl) H ?_; intro b15 σ H B15
       refine .move (v := (vl Span.cs x3)) rfl rfl (.move (v := (vl Span.cs x3)) rfl rfl (.lenPt (c := Span.cs) (xs := x3) rfl rfl rfl (.int (m := (x3.length : Int)) (m' := 1) (r := .int .i64 (w64 ((x3.length : Int) - 1))) rfl rfl rfl rfl rfl ?_)))
       obtain ⟨x5, q6, h⟩ := bind_some h
       refine .indexP (c := Span.cs) (u := x5) rfl rfl q6 rfl rfl rfl rfl (.fieldAddrP rfl rfl rfl rfl (.loadP (u := (.int .i64 x5.To)) rfl rfl rfl rfl (.move (v := (vl Span.cs x4)) rfl rfl ?_)))
       obtain ⟨x6, q7, h⟩ := bind_some h
       refine .indexP (c := Span.cs) (u := x6) rfl rfl q7 rfl rfl rfl rfl (.fieldAddrP rfl rfl rfl rfl (.loadP (u := (.int .i64 x6.From)) rfl rfl rfl rfl (.move (v := (vi y7)) rfl rfl ?_)))
       refine .int (m := x6.From) (m' := y7) (r := .int .i64 (w64 (x6.From + y7))) rfl rfl rfl rfl rfl (.int (m := x5.To) (m' := (w64 (x6.From + y7))) (r := .bool (decide (x5.To ≥ (w64 (x6.From + y7))))) rfl rfl rfl rfl rfl ?_)
       apply Ops.nil
       replace H := H.all
       refine .whether (v := (decide (x5.To ≥ (w64 (x6.From + y7))))) rfl ?_ ?_ <;> intro hc5
       ·replace h := cond_T hc5 h
        apply Runs.then
        refine .regionH 1 rfl H ?_; intro b16 σ H
        refine .assign (v := (vb false)) rfl rfl ?_
        apply Ops.nil
        replace H := H.all
        apply Runs.ret
        replace h := Option.some.inj h; subst h
        exact (.inr ⟨_, rfl, rfl, (Ends.H (xs := [(vb false)]) (.inr rfl) H (.tmp (v := (vb false)) rfl .nil) (.one (.c (.v _))))⟩)
       ·replace h := cond_F hc5 h
        apply Runs.skip
        replace h := Option.some.inj h; subst h
        exact (.inl ⟨_, rfl, rfl, ⟨rfl, rfl, rfl, rfl, rfl, trivial⟩, H⟩)
     ·rintro x e σ (⟨a4, rfl, rfl, he, H⟩ | ⟨r', rfl, rfl, hE⟩)
      ·skip
       replace h := jgo h
       obtain ⟨e, rfl⟩ := he.ex
       replace h := Option.some.inj h; subst h
       exact (.inl ⟨_, rfl, rfl, ⟨rfl, rfl, rfl, rfl, rfl, trivial⟩, H⟩)
      ·skip
       replace h := jret h
       replace h := Option.some.inj h; subst h
       exact (.inr ⟨_, rfl, rfl, hE⟩)
    ·rintro x e σ (⟨a5, rfl, rfl, he, H⟩ | ⟨r', rfl, rfl, hE⟩)
     ·skip
      replace h := jgo h
      obtain ⟨e, rfl⟩ := he.ex
      refine .regionH 2 rfl H ?_; intro b17 σ H
      refine .int (m := s3) (m' := 1) (r := .int .i64 (w64 (s3 + 1))) rfl rfl rfl rfl rfl (.move (v := (vi (w64 (s3 + 1)))) rfl rfl ?_)
      apply Ops.nil
      replace H := H.all
      replace h := Option.some.inj h; subst h
      exact ⟨rfl, ⟨rfl, rfl, rfl, rfl, rfl, trivial⟩, H⟩
     ·skip
      replace h := jret h
      replace h := Option.some.inj h; subst h
      exact ⟨nofun, (.inr ⟨_, rfl, rfl, hE⟩)⟩
   ·replace h := cond_F hc3 h
    apply Runs.exit
    replace h := Option.some.inj h; subst h
    exact ⟨nofun, (.inl ⟨_, rfl, rfl, trivial, ((H.erase 1).erase 0)⟩)⟩
  ·rintro x e σ (⟨a6, rfl, rfl, he, H⟩ | ⟨r', rfl, rfl, hE⟩)
   ·skip
    replace h := jgo h
    obtain ⟨e, rfl⟩ := he.ex
    apply Runs.then
    refine .regionH 1 rfl H ?_; intro b18 σ H
    refine .assign (v := (vb true)) rfl rfl ?_
    apply Ops.nil
    replace H := H.all
    apply Runs.ret
    replace h := Option.some.inj h; subst h
    exact (Ends.H (xs := [(vb true)]) (.inr rfl) H (.tmp (v := (vb true)) rfl .nil) (.one (.c (.v _))))
   ·skip
    replace h := jret h
    replace h := Option.some.inj h; subst h
    exact hE

theorem slices_BinarySearchFunc_SGranule_Granule_int_fn {x' : (List Granule)} {target : Int} {cmp : Granule → Int → Option Int} {C : List Res} {cv0 : PV} (hs0 : cv0.still = true) (hp0 : cv0.pure = true → C = []) (hf0 : ∀ z0 z1 y, cmp z0 z1 = some y → CloH CX cv0 [(.agg (vs (Granule.cs z0))), (vi z1)] (vi y) C) {r : Int × Bool} (h : slices_BinarySearchFunc_SGranule_Granule_int x' target cmp = some r) : FnH CX 73 [(vl Granule.cs x'), (vi target), cv0] (.tup [(vi r.1), (vb r.2)]) C := by
 refine FnH.of Try.func73 rfl rfl rfl rfl (all_t rfl (all_t rfl (all_t hs0 all_nil))) rfl (fun h => hp0 (all_get h 2 rfl)) ?_
 intro σ L hC H
 unfold slices_BinarySearchFunc_SGranule_Granule_int at h
 apply Runs.then
 refine .regionH 2 rfl H ?_; intro b1 σ H
 refine .assign (v := (vi 0)) rfl rfl (.assign (v := (vb false)) rfl rfl ?_)
 apply Ops.nil
 replace H := H.all
 apply Runs.then
 refine .regionH 3 rfl H ?_; intro b2 σ H
 refine .move (v := (vl Granule.cs x')) rfl rfl (.lenPt (c := Granule.cs) (xs := x') rfl rfl rfl (.assign (v := (vi (x'.length : Int))) rfl rfl ?_))
 apply Ops.nil
 replace H := H.all
 apply Runs.then
 refine .regionH 3 rfl H ?_; intro b3 σ H
 refine .move (v := (vi (x'.length : Int))) rfl rfl (.assign (v := (vi 0)) rfl rfl (.assign (v := (vi (x'.length : Int))) rfl rfl ?_))
 apply Ops.nil
 replace H := H.all
 apply Runs.then
 apply Runs.inBlock
 obtain ⟨y1, hj1, h⟩ := bind_some h
 obtain ⟨n1, hj1⟩ := loopO_iff.1 hj1
 refine .mono (Runs.loopO hj1 (fun s1 e σ => EnvHas e [(0, (vl Granule.cs x')), (1, (vi target)), (2, cv0), (8, (vi (x'.length : Int))), (9, (vi s1.1)), (10, (vi s1.2))] ∧ Hs σ (L)) (fun y1 x e σ => x = .exit 0 ∧ EnvHas e [(0, (vl Granule.cs x')), (1, (vi target)), (2, cv0), (8, (vi (x'.length : Int))), (9, (vi y1))] ∧ Hs σ (L)) ⟨⟨rfl, rfl, rfl, rfl, rfl, rfl, trivial⟩, H⟩ ?_) ?_
 ·intro s1 e σ hI z h
  obtain ⟨he, H⟩ := hI
  obtain ⟨e, rfl⟩ := he.ex
  unfold slices_BinarySearchFunc_SGranule_Granule_int.s0 at h
  apply Runs.then
  apply Runs.then
  refine .regionH 3 rfl H ?_; intro b4 σ H
  refine .move (v := (vi s1.1)) rfl rfl (.move (v := (vi s1.2)) rfl rfl (.int (m := s1.1) (m' := s1.2) (r := .bool (decide (s1.1 < s1.2))) rfl rfl rfl rfl rfl ?_))
  apply Ops.nil
  replace H := H.all
  refine .whether (v := (decide (s1.1 < s1.2))) rfl ?_ ?_ <;> intro hc1
  ·replace h := cond_T hc1 h
   apply Runs.skip
   apply Runs.inBlock
   obtain ⟨y2, hj2, h⟩ := bind_some h
   refine .mono (Q := fun x e σ => x = .normal ∧ EnvHas e [(0, (vl Granule.cs x')), (1, (vi target)), (2, cv0), (8, (vi (x'.length : Int))), (9, (vi y2.1)), (10, (vi y2.2))] ∧ Hs σ (L)) ?_ ?_
   ·replace h := hj2
    apply Runs.then
    refine .regionH 7 rfl H ?_; intro b5 σ H
    refine .move (v := (vi s1.1)) rfl rfl (.move (v := (vi s1.2)) rfl rfl (.int (m := s1.1) (m' := s1.2) (r := .int .i64 (w64 (s1.1 + s1.2))) rfl rfl rfl rfl rfl (.conv (m := (w64 (s1.1 + s1.2))) rfl rfl rfl rfl ?_)))
    refine .shr (m := (IntKind.u64.wrap (w64 (s1.1 + s1.2)))) (m' := 1) rfl rfl (by decide) rfl (.conv (m := ((IntKind.u64.wrap (w64 (s1.1 + s1.2))).fdiv (2 ^ 1))) rfl rfl rfl rfl (.assign (v := (vi (w64 ((IntKind.u64.wrap (w64 (s1.1 + s1.2))).fdiv (2 ^ 1))))) rfl rfl ?_))
    apply Ops.nil
    replace H := H.all
    apply Runs.then
    refine .regionH 8 rfl H ?_; intro b6 σ H
    refine .move (v := cv0) rfl rfl (.move (v := (vl Granule.cs x')) rfl rfl (.move (v := (vi (w64 ((IntKind.u64.wrap (w64 (s1.1 + s1.2))).fdiv (2 ^ 1))))) rfl rfl ?_))
    obtain ⟨x1, q1, h⟩ := bind_some h
    refine .indexP (c := Granule.cs) (u := x1) rfl rfl q1 rfl rfl rfl rfl (.loadPA (cs := [(.int .i64 x1.Index), (.sl (x1.Ticks.map Span.cs))]) rfl rfl rfl rfl rfl rfl (.move (v := (vi target)) rfl rfl ?_))
    obtain ⟨x2, q2, h⟩ := bind_some h
    refine .callV (cv := cv0) (ys := [(.agg (vs (Granule.cs x1))), (vi target)]) (r := (vi x2)) H rfl rfl (hf0 x1 target _ q2) hC nofun rfl ?_; intro σ H
    refine .int (m := x2) (m' := 0) (r := .bool (decide (x2 < 0))) rfl rfl rfl rfl rfl ?_
    apply Ops.nil
    replace H := H.all
    refine .whether (v := (decide (x2 < 0))) rfl ?_ ?_ <;> intro hc2
    ·replace h := cond_T hc2 h
     refine .regionH 3 rfl H ?_; intro b7 σ H
     refine .move (v := (vi (w64 ((IntKind.u64.wrap (w64 (s1.1 + s1.2))).fdiv (2 ^ 1))))) rfl rfl (.int (m := (w64 ((IntKind.u64.wrap (w64 (s1.1 + s1.2))).fdiv (2 ^ 1)))) (m' := 1) (r := .int .i64 (w64 ((w64 ((IntKind.u64.wrap (w64 (s1.1 + s1.2))).fdiv (2 ^ 1))) + 1))) rfl rfl rfl rfl rfl (.assign (v := (vi (w64 ((w64 ((IntKind.u64.wrap (w64 (s1.1 + s1.2))).fdiv (2 ^ 1))) + 1)))) rfl rfl ?_))
     apply Ops.nil
     replace H := H.all
     replace h := Option.some.inj h; subst h
     exact ⟨rfl, ⟨rfl, rfl, rfl, rfl, rfl, rfl, trivial⟩, H⟩
    ·replace h := cond_F hc2 h
     refine .regionH 2 rfl H ?_; intro b8 σ H
     refine .move (v := (vi (w64 ((IntKind.u64.wrap (w64 (s1.1 + s1.2))).fdiv (2 ^ 1))))) rfl rfl (.assign (v := (vi (w64 ((IntKind.u64.wrap (w64 (s1.1 + s1.2))).fdiv (2 ^ 1))))) rfl rfl ?_)
     apply Ops.nil
     replace H := H.all
     replace h := Option.some.inj h; subst h
     exact ⟨rfl, ⟨rfl, rfl, rfl, rfl, rfl, rfl, trivial⟩, H⟩
   ·rintro x e σ ⟨rfl, he, H⟩
    obtain ⟨e, rfl⟩ := he.ex
    replace h := Option.some.inj h; subst h
    exact ⟨rfl, ⟨rfl, rfl, rfl, rfl, rfl, rfl, trivial⟩, H⟩
  ·replace h := cond_F hc1 h
   apply Runs.exit
   replace h := Option.some.inj h; subst h
   exact ⟨nofun, ⟨rfl, ⟨rfl, rfl, rfl, rfl, rfl, trivial⟩, H⟩⟩
 ·rintro x e σ ⟨rfl, he, H⟩
  obtain ⟨e, rfl⟩ := he.ex
  apply Runs.then
  refine .regionH 16 rfl H ?_; intro b9 σ H
  refine .move (v := (vi y1)) rfl rfl (.move (v := (vi y1)) rfl rfl (.move (v := (vi (x'.length : Int))) rfl rfl (.int (m := y1) (m' := (x'.length : Int)) (r := .bool (decide (y1 < (x'.length : Int)))) rfl rfl rfl rfl rfl ?_)))
  refine .move (v := (vb (decide (y1 < (x'.length : Int))))) rfl rfl ?_
  obtain ⟨y3, hj3, h⟩ := bind_some h
  refine .mid 9 (K1 := fun e σ => EnvHas e [(48, (vb y3)), (35, (vi y1))] ∧ Has σ (b9 + 14) (b9 + 16) (L)) rfl ?_ ?_
  ·refine .split rfl rfl ?_ ?_ <;> intro hc3
   ·replace h := cond_T hc3 hj3
    refine .wanted rfl rfl (.move (v := cv0) rfl rfl (.wanted rfl rfl (.move (v := (vl Granule.cs x')) rfl rfl ?_)))
    refine .wanted rfl rfl (.move (v := (vi y1)) rfl rfl (.wanted rfl rfl ?_))
    obtain ⟨x3, q3, h⟩ := bind_some h
    refine .indexP (c := Granule.cs) (u := x3) rfl rfl q3 rfl rfl rfl rfl (.wanted rfl rfl (.loadPA (cs := [(.int .i64 x3.Index), (.sl (x3.Ticks.map Span.cs))]) rfl rfl rfl rfl rfl rfl (.wanted rfl rfl ?_)))
    refine .move (v := (vi target)) rfl rfl (.wanted rfl rfl ?_)
    obtain ⟨x4, q4, h⟩ := bind_some h
    refine .callV (cv := cv0) (ys := [(.agg (vs (Granule.cs x3))), (vi target)]) (r := (vi x4)) H rfl rfl (hf0 x3 target _ q4) hC nofun rfl ?_; intro σ H
    refine .wanted rfl rfl (.int (m := x4) (m' := 0) (r := .bool (x4 == 0)) rfl rfl rfl rfl rfl (.pickT (v := (vb (x4 == 0))) rfl rfl rfl ?_))
    apply Ops.nil
    replace h := Option.some.inj h; subst h
    exact ⟨⟨rfl, rfl, trivial⟩, H.weak (by omega) (Nat.le_refl _)⟩
   ·replace h := cond_F hc3 hj3
    refine .pass rfl rfl rfl (.pass rfl rfl rfl (.pass rfl rfl rfl (.pass rfl rfl rfl ?_)))
    refine .pass rfl rfl rfl (.pass rfl rfl rfl (.pass rfl rfl rfl (.pass rfl rfl rfl ?_)))
    refine .pickF (v := (vb false)) rfl rfl rfl ?_
    apply Ops.nil
    replace h := Option.some.inj h; subst h
    exact ⟨⟨rfl, rfl, trivial⟩, H.weak (by omega) (Nat.le_refl _)⟩
  ·rintro e σ ⟨he, H⟩
   obtain ⟨e, rfl⟩ := he.ex
   refine .assign (v := (vi y1)) rfl rfl (.assign (v := (vb y3)) rfl rfl ?_)
   apply Ops.nil
   replace H := H.all
   apply Runs.ret
   replace h := Option.some.inj h; subst h
   exact (EndsH.H (xs := [(vi y1), (vb y3)]) (.inr rfl) H (.tmp (v := (vi y1)) rfl (.tmp (v := (vb y3)) rfl .nil)) (.two (.cons (.c (.v _)) (.cons (.c (.v _)) .nil))) 0 rfl)

theorem cmp_isNaN_int_fn {x' : Int} {r : Bool} (h : cmp_isNaN_int x' = r) : Fn CX 83 [(vi x')] (vb r) := by
 refine Fn.ends Try.func83 rfl rfl rfl rfl rfl rfl ?_
 have H : Hs (⟨0, fun _ => .none⟩ : Heap) [] := Has.nil (Nat.le_refl _)
 generalize (⟨0, fun _ => .none⟩ : Heap) = σ at H ⊢
 unfold cmp_isNaN_int at h
 apply Runs.then
 refine .regionH 1 rfl H ?_; intro b1 σ H
 refine .assign (v := (vb false)) rfl rfl ?_
 apply Ops.nil
 replace H := H.all
 apply Runs.then
 refine .regionH 4 rfl H ?_; intro b2 σ H
 refine .move (v := (vi x')) rfl rfl (.move (v := (vi x')) rfl rfl (.int (m := x') (m' := x') (r := .bool (x' != x')) rfl rfl rfl rfl rfl (.assign (v := (vb (x' != x'))) rfl rfl ?_)))
 apply Ops.nil
 replace H := H.all
 apply Runs.ret
 subst h
 exact (Ends.H (xs := [(vb (x' != x'))]) (.inr rfl) H (.tmp (v := (vb (x' != x'))) rfl .nil) (.one (.c (.v _))))

theorem cmp_Compare_int_fn {x' : Int} {y : Int} {r : Int} (h : cmp_Compare_int x' y = r) : Fn CX 75 [(vi x'), (vi y)] (vi r) := by
 refine Fn.ends Try.func75 rfl rfl rfl rfl rfl rfl ?_
 have H : Hs (⟨0, fun _ => .none⟩ : Heap) [] := Has.nil (Nat.le_refl _)
 generalize (⟨0, fun _ => .none⟩ : Heap) = σ at H ⊢
 unfold cmp_Compare_int at h
 apply Runs.then
 refine .regionH 1 rfl H ?_; intro b1 σ H
 refine .assign (v := (vi 0)) rfl rfl ?_
 apply Ops.nil
 replace H := H.all
 apply Runs.then
 refine .regionH 3 rfl H ?_; intro b2 σ H
 refine .move (v := (vi x')) rfl rfl (.call (ys := [(vi x')]) (r := (vb (cmp_isNaN_int x'))) rfl (cmp_isNaN_int_fn rfl) rfl (.assign (v := (vb (cmp_isNaN_int x'))) rfl rfl ?_))
 apply Ops.nil
 replace H := H.all
 apply Runs.then
 refine .regionH 3 rfl H ?_; intro b3 σ H
 refine .move (v := (vi y)) rfl rfl (.call (ys := [(vi y)]) (r := (vb (cmp_isNaN_int y))) rfl (cmp_isNaN_int_fn rfl) rfl (.assign (v := (vb (cmp_isNaN_int y))) rfl rfl ?_))
 apply Ops.nil
 replace H := H.all
 apply Runs.then
 apply Runs.then
 refine .regionH 1 rfl H ?_; intro b4 σ H
 refine .move (v := (vb (cmp_isNaN_int x'))) rfl rfl ?_
 apply Ops.nil
 replace H := H.all
 refine .whether (v := (cmp_isNaN_int x')) rfl ?_ ?_ <;> intro hc1
 ·replace h := cond_T hc1 h
  apply Runs.then
  apply Runs.then
  refine .regionH 1 rfl H ?_; intro b5 σ H
  refine .move (v := (vb (cmp_isNaN_int y))) rfl rfl ?_
  apply Ops.nil
  replace H := H.all
  refine .whether (v := (cmp_isNaN_int y)) rfl ?_ ?_ <;> intro hc2
  ·replace h := cond_T hc2 h
   apply Runs.then
   refine .regionH 1 rfl H ?_; intro b6 σ H
   refine .assign (v := (vi 0)) rfl rfl ?_
   apply Ops.nil
   replace H := H.all
   apply Runs.ret
   subst h
   exact (Ends.H (xs := [(vi 0)]) (.inr rfl) H (.tmp (v := (vi 0)) rfl .nil) (.one (.c (.v _))))
  ·replace h := cond_F hc2 h
   apply Runs.skip
   apply Runs.then
   refine .regionH 1 rfl H ?_; intro b7 σ H
   refine .assign (v := (vi (-1))) rfl rfl ?_
   apply Ops.nil
   replace H := H.all
   apply Runs.ret
   subst h
   exact (Ends.H (xs := [(vi (-1))]) (.inr rfl) H (.tmp (v := (vi (-1))) rfl .nil) (.one (.c (.v _))))
 ·replace h := cond_F hc1 h
  apply Runs.skip
  apply Runs.then
  apply Runs.then
  refine .regionH 1 rfl H ?_; intro b8 σ H
  refine .move (v := (vb (cmp_isNaN_int y))) rfl rfl ?_
  apply Ops.nil
  replace H := H.all
  refine .whether (v := (cmp_isNaN_int y)) rfl ?_ ?_ <;> intro hc3
  ·replace h := cond_T hc3 h
   apply Runs.then
   refine .regionH 1 rfl H ?_; intro b9 σ H
   refine .assign (v := (vi 1)) rfl rfl ?_
   apply Ops.nil
   replace H := H.all
   apply Runs.ret
   subst h
   exact (Ends.H (xs := [(vi 1)]) (.inr rfl) H (.tmp (v := (vi 1)) rfl .nil) (.one (.c (.v _))))
  ·replace h := cond_F hc3 h
   apply Runs.skip
   apply Runs.then
   apply Runs.then
   refine .regionH 3 rfl H ?_; intro b10 σ H
   refine .move (v := (vi x')) rfl rfl (.move (v := (vi y)) rfl rfl (.int (m := x') (m' := y) (r := .bool (decide (x' < y))) rfl rfl rfl rfl rfl ?_))
   apply Ops.nil
   replace H := H.all
   refine .whether (v := (decide (x' < y))) rfl ?_ ?_ <;> intro hc4
   ·replace h := cond_T hc4 h
    apply Runs.then
    refine .regionH 1 rfl H ?_; intro b11 σ H
    refine .assign (v := (vi (-1))) rfl rfl ?_
    apply Ops.nil
    replace H := H.all
    apply Runs.ret
    subst h
    exact (Ends.H (xs := [(vi (-1))]) (.inr rfl) H (.tmp (v := (vi (-1))) rfl .nil) (.one (.c (.v _))))
   ·replace h := cond_F hc4 h
    apply Runs.skip
    apply Runs.then
    apply Runs.then
    refine .regionH 3 rfl H ?_; intro b12 σ H
    refine .move (v := (vi x')) rfl rfl (.move (v := (vi y)) rfl rfl (.int (m := x') (m' := y) (r := .bool (decide (x' > y))) rfl rfl rfl rfl rfl ?_))
    apply Ops.nil
    replace H := H.all
    refine .whether (v := (decide (x' > y))) rfl ?_ ?_ <;> intro hc5
    ·replace h := cond_T hc5 h
     apply Runs.then
     refine .regionH 1 rfl H ?_; intro b13 σ H
     refine .assign (v := (vi 1)) rfl rfl ?_
     apply Ops.nil
     replace H := H.all
     apply Runs.ret
     subst h
     exact (Ends.H (xs := [(vi 1)]) (.inr rfl) H (.tmp (v := (vi 1)) rfl .nil) (.one (.c (.v _))))
    ·replace h := cond_F hc5 h
     apply Runs.skip
     apply Runs.then
     refine .regionH 1 rfl H ?_; intro b14 σ H
     refine .assign (v := (vi 0)) rfl rfl ?_
     apply Ops.nil
     replace H := H.all
     apply Runs.ret
     subst h
     exact (Ends.H (xs := [(vi 0)]) (.inr rfl) H (.tmp (v := (vi 0)) rfl .nil) (.one (.c (.v _))))

theorem gran_odd_1_fn {g : Granule} {i : Int} {r : Int} (h : gran_odd_1 g i = r) : Fn CX 74 [(.agg (vs (Granule.cs g))), (vi i)] (vi r) := by
 refine Fn.ends Try.func74 rfl rfl rfl rfl rfl rfl ?_
 have H : Hs (⟨0, fun _ => .none⟩ : Heap) [] := Has.nil (Nat.le_refl _)
 generalize (⟨0, fun _ => .none⟩ : Heap) = σ at H ⊢
 unfold gran_odd_1 at h
 apply Runs.then
 refine .regionH 2 rfl H ?_; intro b1 σ H
 refine .boxH (cs := [(vi g.Index), (vl Span.cs g.Ticks)]) H (by omega) (by omega) rfl rfl rfl ?_; intro σ H
 refine .assign (v := (vi 0)) rfl rfl ?_
 apply Ops.nil
 replace H := H.all
 apply Runs.then
 refine .regionH 5 rfl H ?_; intro b2 σ H
 refine .fieldAddrH (off := 0) (fo := 0) H 0 rfl rfl rfl rfl rfl nofun rfl (.loadH (off := 0) (v := (vi g.Index)) H 0 rfl rfl rfl rfl rfl nofun rfl (.move (v := (vi i)) rfl rfl (.call (ys := [(vi g.Index), (vi i)]) (r := (vi (cmp_Compare_int g.Index i))) rfl (cmp_Compare_int_fn rfl) rfl ?_)))
 refine .assign (v := (vi (cmp_Compare_int g.Index i))) rfl rfl ?_
 apply Ops.nil
 replace H := H.all
 apply Runs.ret
 subst h
 exact (Ends.H (xs := [(vi (cmp_Compare_int g.Index i))]) (.inr rfl) H (.tmp (v := (vi (cmp_Compare_int g.Index i))) rfl .nil) (.one (.c (.v _))))

theorem gran_odd_fn {f : Form} {i : Int} {r : Int × Bool} (h : gran_odd f i = some r) : Fn CX 60 [(.agg (vs (Form.cs f))), (vi i)] (.tup [(vi r.1), (vb r.2)]) := by
 refine Fn.ends Try.func60 rfl rfl rfl rfl rfl rfl ?_
 have H : Hs (⟨0, fun _ => .none⟩ : Heap) [] := Has.nil (Nat.le_refl _)
 generalize (⟨0, fun _ => .none⟩ : Heap) = σ at H ⊢
 unfold gran_odd at h
 apply Runs.then
 refine .regionH 3 rfl H ?_; intro b1 σ H
 refine .boxH (cs := (vF f)) H (by omega) (by omega) rfl rfl rfl ?_; intro σ H
 refine .assign (v := (vi 0)) rfl rfl (.assign (v := (vb false)) rfl rfl ?_)
 apply Ops.nil
 replace H := H.all
 apply Runs.then
 refine .regionH 8 rfl H ?_; intro b2 σ H
 refine .fieldAddrH (off := 0) (fo := 3) H 0 rfl rfl rfl rfl rfl nofun rfl (.loadH (off := 3) (v := (vl Granule.cs f.Odd)) H 0 rfl rfl rfl rfl rfl nofun rfl (.move (v := (vi i)) rfl rfl ?_))
 obtain ⟨x1, q1, h⟩ := bind_some h
 refine .callH (ys := [(vl Granule.cs f.Odd), (vi i), (.v (.fn 74))]) (r := (.tup [(vi x1.1), (vb x1.2)])) H rfl (slices_BinarySearchFunc_SGranule_Granule_int_fn (C := []) rfl (fun _ => rfl) (fun z0 z1 y hz => (CloH.fn (Fn.toH (gran_odd_1_fn (Option.some.inj hz)) _))) q1) .nil nofun rfl ?_; intro σ H
 refine .extract (v := (vi x1.1)) rfl rfl rfl (.extract (v := (vb x1.2)) rfl rfl rfl (.assign (v := (vi x1.1)) rfl rfl (.assign (v := (vb x1.2)) rfl rfl ?_)))
 apply Ops.nil
 replace H := H.all
 apply Runs.ret
 replace h := Option.some.inj h; subst h
 exact (Ends.H (xs := [(vi x1.1), (vb x1.2)]) (.inr rfl) H (.tmp (v := (vi x1.1)) rfl (.tmp (v := (vb x1.2)) rfl .nil)) (.two (.cons (.c (.v _)) (.cons (.c (.v _)) .nil))))

theorem safe_Floor_fn {a : Int} {b : Int} {r : Int × Int × Int} (h : safe_Floor a b = some r) : Fn CX 62 [(vi a), (vi b)] (.tup [(vi r.1), (vi r.2.1), (vi r.2.2)]) := by
 refine Fn.ends Try.func62 rfl rfl rfl rfl rfl rfl ?_
 have H : Hs (⟨0, fun _ => .none⟩ : Heap) [] := Has.nil (Nat.le_refl _)
 generalize (⟨0, fun _ => .none⟩ : Heap) = σ at H ⊢
 unfold safe_Floor at h
 apply Runs.then
 refine .regionH 3 rfl H ?_; intro b1 σ H
 refine .assign (v := (vi 0)) rfl rfl (.assign (v := (vi 0)) rfl rfl (.assign (v := (vi 0)) rfl rfl ?_))
 apply Ops.nil
 replace H := H.all
 apply Runs.then
 apply Runs.inBlock
 apply Runs.then
 refine .regionH 3 rfl H ?_; intro b2 σ H
 refine .move (v := (vi b)) rfl rfl (.int (m := b) (m' := 0) (r := .bool (b == 0)) rfl rfl rfl rfl rfl (.assign (v := (vb (b == 0))) rfl rfl ?_))
 apply Ops.nil
 replace H := H.all
 refine .whether (v := (b == 0)) rfl ?_ ?_ <;> intro hc1
 ·replace h := cond_T hc1 h
  apply Runs.then
  refine .regionH 3 rfl H ?_; intro b3 σ H
  refine .assign (v := (vi 0)) rfl rfl (.assign (v := (vi 0)) rfl rfl (.assign (v := (vi 11)) rfl rfl ?_))
  apply Ops.nil
  replace H := H.all
  apply Runs.ret
  replace h := Option.some.inj h; subst h
  exact (Ends.H (xs := [(vi 0), (vi 0), (vi 11)]) (.inr rfl) H (.tmp (v := (vi 0)) rfl (.tmp (v := (vi 0)) rfl (.tmp (v := (vi 11)) rfl .nil))) (.two (.cons (.c (.v _)) (.cons (.c (.v _)) (.cons (.c (.v _)) .nil)))))
 ·replace h := cond_F hc1 h
  apply Runs.then
  refine .regionH 7 rfl H ?_; intro b4 σ H
  refine .move (v := (vi b)) rfl rfl (.int (m := b) (m' := (-1)) (r := .bool (b == (-1))) rfl rfl rfl rfl rfl (.move (v := (vb (b == (-1)))) rfl rfl ?_))
  refine .mid 3 (K1 := fun e σ => EnvHas e [(18, (vb ((b == (-1)) && (a == (-9223372036854775808))))), (0, (vi a)), (1, (vi b))] ∧ Has σ (b4 + 6) (b4 + 7) []) rfl ?_ ?_
  ·refine .split rfl rfl ?_ ?_ <;> intro hc2
   ·skip
    refine .wanted rfl rfl (.move (v := (vi a)) rfl rfl (.wanted rfl rfl (.int (m := a) (m' := (-9223372036854775808)) (r := .bool (a == (-9223372036854775808))) rfl rfl rfl rfl rfl ?_)))
    refine .pickT (v := (vb (a == (-9223372036854775808)))) rfl rfl rfl ?_
    apply Ops.nil
    exact ⟨⟨and_T hc2, rfl, rfl, trivial⟩, H.weak (by omega) (Nat.le_refl _)⟩
   ·skip
    refine .pass rfl rfl rfl (.pass rfl rfl rfl (.pickF (v := (vb false)) rfl rfl rfl ?_))
    apply Ops.nil
    exact ⟨⟨and_F hc2, rfl, rfl, trivial⟩, H.weak (by omega) (Nat.le_refl _)⟩
  ·rintro e σ ⟨he, H⟩
   obtain ⟨e, rfl⟩ := he.ex
   refine .assign (v := (vb ((b == (-1)) && (a == (-9223372036854775808))))) rfl rfl ?_
   apply Ops.nil
   replace H := H.all
   refine .whether (v := ((b == (-1)) && (a == (-9223372036854775808)))) rfl ?_ ?_ <;> intro hc3
   ·replace h := cond_T hc3 h
    apply Runs.then
    refine .regionH 3 rfl H ?_; intro b5 σ H
    refine .assign (v := (vi 0)) rfl rfl (.assign (v := (vi 0)) rfl rfl (.assign (v := (vi 10)) rfl rfl ?_))
    apply Ops.nil
    replace H := H.all
    apply Runs.ret
    replace h := Option.some.inj h; subst h
    exact (Ends.H (xs := [(vi 0), (vi 0), (vi 10)]) (.inr rfl) H (.tmp (v := (vi 0)) rfl (.tmp (v := (vi 0)) rfl (.tmp (v := (vi 10)) rfl .nil))) (.two (.cons (.c (.v _)) (.cons (.c (.v _)) (.cons (.c (.v _)) .nil)))))
   ·replace h := cond_F hc3 h
    apply Runs.skip
    apply Runs.then
    refine .drawnH 8 rfl (by kernel_rfl) H ?_; intro b6 σ H B6
    refine .move (v := (vi a)) rfl rfl (.move (v := (vi b)) rfl rfl ?_)
    obtain ⟨u1, q1, h⟩ := bind_some h
    refine .quo (m := a) (m' := b) rfl rfl (nz_ne q1) rfl (.move (v := (vi a)) rfl rfl (.move (v := (vi b)) rfl rfl ?_))
    obtain ⟨u2, q2, h⟩ := bind_some h
    refine .rem (m := a) (m' := b) rfl rfl (nz_ne q2) rfl (.assign (v := (vi (w64 (a.tdiv b)))) rfl rfl (.assign (v := (vi (a.tmod b))) rfl rfl ?_))
    apply Ops.nil
    replace H := H.all
    apply Runs.then
    obtain ⟨y1, hj1, h⟩ := bind_some h
    refine .mono (Q := fun x e σ => x = .normal ∧ EnvHas e [(7, (vi y1.1)), (8, (vi y1.2))] ∧ Hs σ []) ?_ ?_
    ·replace h := hj1
     apply Runs.then
     refine .regionH 9 rfl H ?_; intro b7 σ H
     refine .move (v := (vi (a.tmod b))) rfl rfl (.int (m := (a.tmod b)) (m' := 0) (r := .bool ((a.tmod b) != 0)) rfl rfl rfl rfl rfl (.move (v := (vb ((a.tmod b) != 0))) rfl rfl ?_))
     refine .mid 6 (K1 := fun e σ => EnvHas e [(33, (vb (((a.tmod b) != 0) && ((decide ((a.tmod b) < 0)) != (decide (b < 0)))))), (1, (vi b)), (7, (vi (w64 (a.tdiv b)))), (8, (vi (a.tmod b)))] ∧ Has σ (b7 + 9) (b7 + 9) []) rfl ?_ ?_
     ·refine .split rfl rfl ?_ ?_ <;> intro hc4
      ·skip
       refine .wanted rfl rfl (.move (v := (vi (a.tmod b))) rfl rfl (.wanted rfl rfl (.int (m := (a.tmod b)) (m' := 0) (r := .bool (decide ((a.tmod b) < 0))) rfl rfl rfl rfl rfl ?_)))
       refine .wanted rfl rfl (.move (v := (vi b)) rfl rfl (.wanted rfl rfl (.int (m := b) (m' := 0) (r := .bool (decide (b < 0))) rfl rfl rfl rfl rfl ?_)))
       refine .wanted rfl rfl (.neB (b := (decide ((a.tmod b) < 0))) (b' := (decide (b < 0))) rfl rfl rfl rfl (.pickT (v := (vb ((decide ((a.tmod b) < 0)) != (decide (b < 0))))) rfl rfl rfl ?_))
       apply Ops.nil
       exact ⟨⟨and_T hc4, rfl, rfl, rfl, trivial⟩, H.weak (by omega) (Nat.le_refl _)⟩
      ·skip
       refine .pass rfl rfl rfl (.pass rfl rfl rfl (.pass rfl rfl rfl (.pass rfl rfl rfl ?_)))
       refine .pass rfl rfl rfl (.pickF (v := (vb false)) rfl rfl rfl ?_)
       apply Ops.nil
       exact ⟨⟨and_F hc4, rfl, rfl, rfl, trivial⟩, H.weak (by omega) (Nat.le_refl _)⟩
     ·rintro e σ ⟨he, H⟩
      obtain ⟨e, rfl⟩ := he.ex
      apply Ops.nil
      replace H := H.all
      refine .whether (v := (((a.tmod b) != 0) && ((decide ((a.tmod b) < 0)) != (decide (b < 0))))) rfl ?_ ?_ <;> intro hc5
      ·replace h := cond_T hc5 h
       refine .regionH 7 rfl H ?_; intro b8 σ H
       refine .move (v := (vi (w64 (a.tdiv b)))) rfl rfl (.int (m := (w64 (a.tdiv b))) (m' := 1) (r := .int .i64 (w64 ((w64 (a.tdiv b)) - 1))) rfl rfl rfl rfl rfl (.move (v := (vi (a.tmod b))) rfl rfl (.move (v := (vi b)) rfl rfl ?_)))
       refine .int (m := (a.tmod b)) (m' := b) (r := .int .i64 (w64 ((a.tmod b) + b))) rfl rfl rfl rfl rfl (.assign (v := (vi (w64 ((w64 (a.tdiv b)) - 1)))) rfl rfl (.assign (v := (vi (w64 ((a.tmod b) + b)))) rfl rfl ?_))
       apply Ops.nil
       replace H := H.all
       replace h := Option.some.inj h; subst h
       exact ⟨rfl, ⟨rfl, rfl, trivial⟩, H⟩
      ·replace h := cond_F hc5 h
       apply Runs.skip
       replace h := Option.some.inj h; subst h
       exact ⟨rfl, ⟨rfl, rfl, trivial⟩, H⟩
    ·rintro x e σ ⟨rfl, he, H⟩
     obtain ⟨e, rfl⟩ := he.ex
     apply Runs.then
     refine .regionH 5 rfl H ?_; intro b9 σ H
     refine .move (v := (vi y1.1)) rfl rfl (.move (v := (vi y1.2)) rfl rfl (.assign (v := (vi y1.1)) rfl rfl (.assign (v := (vi y1.2)) rfl rfl ?_)))
     refine .assign (v := (vi 0)) rfl rfl ?_
     apply Ops.nil
     replace H := H.all
     apply Runs.ret
     replace h := Option.some.inj h; subst h
     exact (Ends.H (xs := [(vi y1.1), (vi y1.2), (vi 0)]) (.inr rfl) H (.tmp (v := (vi y1.1)) rfl (.tmp (v := (vi y1.2)) rfl (.tmp (v := (vi 0)) rfl .nil))) (.two (.cons (.c (.v _)) (.cons (.c (.v _)) (.cons (.c (.v _)) .nil)))))

theorem safe_size_fn {a : Int} {r : Int} (h : safe_size a = r) : Fn CX 77 [(vi a)] (vu r) := by
 refine Fn.ends Try.func77 rfl rfl rfl rfl rfl rfl ?_
 have H : Hs (⟨0, fun _ => .none⟩ : Heap) [] := Has.nil (Nat.le_refl _)
 generalize (⟨0, fun _ => .none⟩ : Heap) = σ at H ⊢
 unfold safe_size at h
 apply Runs.then
 refine .regionH 1 rfl H ?_; intro b1 σ H
 refine .assign (v := (vu 0)) rfl rfl ?_
 apply Ops.nil
 replace H := H.all
 apply Runs.then
 apply Runs.then
 refine .regionH 2 rfl H ?_; intro b2 σ H
 refine .move (v := (vi a)) rfl rfl (.int (m := a) (m' := 0) (r := .bool (decide (a < 0))) rfl rfl rfl rfl rfl ?_)
 apply Ops.nil
 replace H := H.all
 refine .whether (v := (decide (a < 0))) rfl ?_ ?_ <;> intro hc1
 ·replace h := cond_T hc1 h
  apply Runs.then
  refine .regionH 4 rfl H ?_; intro b3 σ H
  refine .move (v := (vi a)) rfl rfl (.conv (m := a) rfl rfl rfl rfl (.neg (m := (IntKind.u64.wrap a)) rfl rfl (.assign (v := (vu (IntKind.u64.wrap (0 - (IntKind.u64.wrap a))))) rfl rfl ?_)))
  apply Ops.nil
  replace H := H.all
  apply Runs.ret
  subst h
  exact (Ends.H (xs := [(vu (IntKind.u64.wrap (0 - (IntKind.u64.wrap a))))]) (.inr rfl) H (.tmp (v := (vu (IntKind.u64.wrap (0 - (IntKind.u64.wrap a))))) rfl .nil) (.one (.c (.v _))))
 ·replace h := cond_F hc1 h
  apply Runs.skip
  apply Runs.then
  refine .regionH 3 rfl H ?_; intro b4 σ H
  refine .move (v := (vi a)) rfl rfl (.conv (m := a) rfl rfl rfl rfl (.assign (v := (vu (IntKind.u64.wrap a))) rfl rfl ?_))
  apply Ops.nil
  replace H := H.all
  apply Runs.ret
  subst h
  exact (Ends.H (xs := [(vu (IntKind.u64.wrap a))]) (.inr rfl) H (.tmp (v := (vu (IntKind.u64.wrap a))) rfl .nil) (.one (.c (.v _))))

theorem math_bits_Mul64_fn {x' : Int} {y : Int} {r : Int × Int} (h : math_bits_Mul64 x' y = r) : Fn CX 76 [(vu x'), (vu y)] (.tup [(vu r.1), (vu r.2)]) := by
 refine Fn.ends Try.func76 rfl rfl rfl rfl rfl rfl ?_
 have H : Hs (⟨0, fun _ => .none⟩ : Heap) [] := Has.nil (Nat.le_refl _)
 generalize (⟨0, fun _ => .none⟩ : Heap) = σ at H ⊢
 unfold math_bits_Mul64 at h
 apply Runs.then
 refine .regionH 2 rfl H ?_; intro b1 σ H
 refine .assign (v := (vu 0)) rfl rfl (.assign (v := (vu 0)) rfl rfl ?_)
 apply Ops.nil
 replace H := H.all
 apply Runs.then
 refine .regionH 3 rfl H ?_; intro b2 σ H
 refine .move (v := (vu x')) rfl rfl (.int (m := x') (m' := 4294967295) (r := .int .u64 (iAnd .u64 x' 4294967295)) rfl rfl rfl rfl rfl (.assign (v := (vu (iAnd .u64 x' 4294967295))) rfl rfl ?_))
 apply Ops.nil
 replace H := H.all
 apply Runs.then
 refine .regionH 3 rfl H ?_; intro b3 σ H
 refine .move (v := (vu x')) rfl rfl (.shr (m := x') (m' := 32) rfl rfl (by decide) rfl (.assign (v := (vu (x'.fdiv (2 ^ 32)))) rfl rfl ?_))
 apply Ops.nil
 replace H := H.all
 apply Runs.then
 refine .regionH 3 rfl H ?_; intro b4 σ H
 refine .move (v := (vu y)) rfl rfl (.int (m := y) (m' := 4294967295) (r := .int .u64 (iAnd .u64 y 4294967295)) rfl rfl rfl rfl rfl (.assign (v := (vu (iAnd .u64 y 4294967295))) rfl rfl ?_))
 apply Ops.nil
 replace H := H.all
 apply Runs.then
 refine .regionH 3 rfl H ?_; intro b5 σ H
 refine .move (v := (vu y)) rfl rfl (.shr (m := y) (m' := 32) rfl rfl (by decide) rfl (.assign (v := (vu (y.fdiv (2 ^ 32)))) rfl rfl ?_))
 apply Ops.nil
 replace H := H.all
 apply Runs.then
 refine .regionH 4 rfl H ?_; intro b6 σ H
 refine .move (v := (vu (iAnd .u64 x' 4294967295))) rfl rfl (.move (v := (vu (iAnd .u64 y 4294967295))) rfl rfl (.int (m := (iAnd .u64 x' 4294967295)) (m' := (iAnd .u64 y 4294967295)) (r := .int .u64 (IntKind.u64.wrap ((iAnd .u64 x' 4294967295) * (iAnd .u64 y 4294967295)))) rfl rfl rfl rfl rfl (.assign (v := (vu (IntKind.u64.wrap ((iAnd .u64 x' 4294967295) * (iAnd .u64 y 4294967295))))) rfl rfl ?_)))
 apply Ops.nil
 replace H := H.all
 apply Runs.then
 refine .regionH 7 rfl H ?_; intro b7 σ H
 refine .move (v := (vu (x'.fdiv (2 ^ 32)))) rfl rfl (.move (v := (vu (iAnd .u64 y 4294967295))) rfl rfl (.int (m := (x'.fdiv (2 ^ 32))) (m' := (iAnd .u64 y 4294967295)) (r := .int .u64 (IntKind.u64.wrap ((x'.fdiv (2 ^ 32)) * (iAnd .u64 y 4294967295)))) rfl rfl rfl rfl rfl (.move (v := (vu (IntKind.u64.wrap ((iAnd .u64 x' 4294967295) * (iAnd .u64 y 4294967295))))) rfl rfl ?_)))
 refine .shr (m := (IntKind.u64.wrap ((iAnd .u64 x' 4294967295) * (iAnd .u64 y 4294967295)))) (m' := 32) rfl rfl (by decide) rfl (.int (m := (IntKind.u64.wrap ((x'.fdiv (2 ^ 32)) * (iAnd .u64 y 4294967295)))) (m' := ((IntKind.u64.wrap ((iAnd .u64 x' 4294967295) * (iAnd .u64 y 4294967295))).fdiv (2 ^ 32))) (r := .int .u64 (IntKind.u64.wrap ((IntKind.u64.wrap ((x'.fdiv (2 ^ 32)) * (iAnd .u64 y 4294967295))) + ((IntKind.u64.wrap ((iAnd .u64 x' 4294967295) * (iAnd .u64 y 4294967295))).fdiv (2 ^ 32))))) rfl rfl rfl rfl rfl (.assign (v := (vu (IntKind.u64.wrap ((IntKind.u64.wrap ((x'.fdiv (2 ^ 32)) * (iAnd .u64 y 4294967295))) + ((IntKind.u64.wrap ((iAnd .u64 x' 4294967295) * (iAnd .u64 y 4294967295))).fdiv (2 ^ 32)))))) rfl rfl ?_))
 apply Ops.nil
 replace H := H.all
 apply Runs.then
 refine .regionH 3 rfl H ?_; intro b8 σ H
 refine .move (v := (vu (IntKind.u64.wrap ((IntKind.u64.wrap ((x'.fdiv (2 ^ 32)) * (iAnd .u64 y 4294967295))) + ((IntKind.u64.wrap ((iAnd .u64 x' 4294967295) * (iAnd .u64 y 4294967295))).fdiv (2 ^ 32)))))) rfl rfl (.int (m := (IntKind.u64.wrap ((IntKind.u64.wrap ((x'.fdiv (2 ^ 32)) * (iAnd .u64 y 4294967295))) + ((IntKind.u64.wrap ((iAnd .u64 x' 4294967295) * (iAnd .u64 y 4294967295))).fdiv (2 ^ 32))))) (m' := 4294967295) (r := .int .u64 (iAnd .u64 (IntKind.u64.wrap ((IntKind.u64.wrap ((x'.fdiv (2 ^ 32)) * (iAnd .u64 y 4294967295))) + ((IntKind.u64.wrap ((iAnd .u64 x' 4294967295) * (iAnd .u64 y 4294967295))).fdiv (2 ^ 32)))) 4294967295)) rfl rfl rfl rfl rfl (.assign (v := (vu (iAnd .u64 (IntKind.u64.wrap ((IntKind.u64.wrap ((x'.fdiv (2 ^ 32)) * (iAnd .u64 y 4294967295))) + ((IntKind.u64.wrap ((iAnd .u64 x' 4294967295) * (iAnd .u64 y 4294967295))).fdiv (2 ^ 32)))) 4294967295))) rfl rfl ?_))
 apply Ops.nil
 replace H := H.all
 apply Runs.then
 refine .regionH 3 rfl H ?_; intro b9 σ H
 refine .move (v := (vu (IntKind.u64.wrap ((IntKind.u64.wrap ((x'.fdiv (2 ^ 32)) * (iAnd .u64 y 4294967295))) + ((IntKind.u64.wrap ((iAnd .u64 x' 4294967295) * (iAnd .u64 y 4294967295))).fdiv (2 ^ 32)))))) rfl rfl (.shr (m := (IntKind.u64.wrap ((IntKind.u64.wrap ((x'.fdiv (2 ^ 32)) * (iAnd .u64 y 4294967295))) + ((IntKind.u64.wrap ((iAnd .u64 x' 4294967295) * (iAnd .u64 y 4294967295))).fdiv (2 ^ 32))))) (m' := 32) rfl rfl (by decide) rfl (.assign (v := (vu ((IntKind.u64.wrap ((IntKind.u64.wrap ((x'.fdiv (2 ^ 32)) * (iAnd .u64 y 4294967295))) + ((IntKind.u64.wrap ((iAnd .u64 x' 4294967295) * (iAnd .u64 y 4294967295))).fdiv (2 ^ 32)))).fdiv (2 ^ 32)))) rfl rfl ?_))
 apply Ops.nil
 replace H := H.all
 apply Runs.then
 refine .regionH 6 rfl H ?_; intro b10 σ H
 refine .move (v := (vu (iAnd .u64 (IntKind.u64.wrap ((IntKind.u64.wrap ((x'.fdiv (2 ^ 32)) * (iAnd .u64 y 4294967295))) + ((IntKind.u64.wrap ((iAnd .u64 x' 4294967295) * (iAnd .u64 y 4294967295))).fdiv (2 ^ 32)))) 4294967295))) rfl rfl (.move (v := (vu (iAnd .u64 x' 4294967295))) rfl rfl (.move (v := (vu (y.fdiv (2 ^ 32)))) rfl rfl (.int (m := (iAnd .u64 x' 4294967295)) (m' := (y.fdiv (2 ^ 32))) (r := .int .u64 (IntKind.u64.wrap ((iAnd .u64 x' 4294967295) * (y.fdiv (2 ^ 32))))) rfl rfl rfl rfl rfl ?_)))
 refine .int (m := (iAnd .u64 (IntKind.u64.wrap ((IntKind.u64.wrap ((x'.fdiv (2 ^ 32)) * (iAnd .u64 y 4294967295))) + ((IntKind.u64.wrap ((iAnd .u64 x' 4294967295) * (iAnd .u64 y 4294967295))).fdiv (2 ^ 32)))) 4294967295)) (m' := (IntKind.u64.wrap ((iAnd .u64 x' 4294967295) * (y.fdiv (2 ^ 32))))) (r := .int .u64 (IntKind.u64.wrap ((iAnd .u64 (IntKind.u64.wrap ((IntKind.u64.wrap ((x'.fdiv (2 ^ 32)) * (iAnd .u64 y 4294967295))) + ((IntKind.u64.wrap ((iAnd .u64 x' 4294967295) * (iAnd .u64 y 4294967295))).fdiv (2 ^ 32)))) 4294967295) + (IntKind.u64.wrap ((iAnd .u64 x' 4294967295) * (y.fdiv (2 ^ 32))))))) rfl rfl rfl rfl rfl (.assign (v := (vu (IntKind.u64.wrap ((iAnd .u64 (IntKind.u64.wrap ((IntKind.u64.wrap ((x'.fdiv (2 ^ 32)) * (iAnd .u64 y 4294967295))) + ((IntKind.u64.wrap ((iAnd .u64 x' 4294967295) * (iAnd .u64 y 4294967295))).fdiv (2 ^ 32)))) 4294967295) + (IntKind.u64.wrap ((iAnd .u64 x' 4294967295) * (y.fdiv (2 ^ 32)))))))) rfl rfl ?_)
 apply Ops.nil
 replace H := H.all
 apply Runs.then
 refine .regionH 9 rfl H ?_; intro b11 σ H
 refine .move (v := (vu (x'.fdiv (2 ^ 32)))) rfl rfl (.move (v := (vu (y.fdiv (2 ^ 32)))) rfl rfl (.int (m := (x'.fdiv (2 ^ 32))) (m' := (y.fdiv (2 ^ 32))) (r := .int .u64 (IntKind.u64.wrap ((x'.fdiv (2 ^ 32)) * (y.fdiv (2 ^ 32))))) rfl rfl rfl rfl rfl (.move (v := (vu ((IntKind.u64.wrap ((IntKind.u64.wrap ((x'.fdiv (2 ^ 32)) * (iAnd .u64 y 4294967295))) + ((IntKind.u64.wrap ((iAnd .u64 x' 4294967295) * (iAnd .u64 y 4294967295))).fdiv (2 ^ 32)))).fdiv (2 ^ 32)))) rfl rfl ?_)))
 refine .int (m := (IntKind.u64.wrap ((x'.fdiv (2 ^ 32)) * (y.fdiv (2 ^ 32))))) (m' := ((IntKind.u64.wrap ((IntKind.u64.wrap ((x'.fdiv (2 ^ 32)) * (iAnd .u64 y 4294967295))) + ((IntKind.u64.wrap ((iAnd .u64 x' 4294967295) * (iAnd .u64 y 4294967295))).fdiv (2 ^ 32)))).fdiv (2 ^ 32))) (r := .int .u64 (IntKind.u64.wrap ((IntKind.u64.wrap ((x'.fdiv (2 ^ 32)) * (y.fdiv (2 ^ 32)))) + ((IntKind.u64.wrap ((IntKind.u64.wrap ((x'.fdiv (2 ^ 32)) * (iAnd .u64 y 4294967295))) + ((IntKind.u64.wrap ((iAnd .u64 x' 4294967295) * (iAnd .u64 y 4294967295))).fdiv (2 ^ 32)))).fdiv (2 ^ 32))))) rfl rfl rfl rfl rfl (.move (v := (vu (IntKind.u64.wrap ((iAnd .u64 (IntKind.u64.wrap ((IntKind.u64.wrap ((x'.fdiv (2 ^ 32)) * (iAnd .u64 y 4294967295))) + ((IntKind.u64.wrap ((iAnd .u64 x' 4294967295) * (iAnd .u64 y 4294967295))).fdiv (2 ^ 32)))) 4294967295) + (IntKind.u64.wrap ((iAnd .u64 x' 4294967295) * (y.fdiv (2 ^ 32)))))))) rfl rfl (.shr (m := (IntKind.u64.wrap ((iAnd .u64 (IntKind.u64.wrap ((IntKind.u64.wrap ((x'.fdiv (2 ^ 32)) * (iAnd .u64 y 4294967295))) + ((IntKind.u64.wrap ((iAnd .u64 x' 4294967295) * (iAnd .u64 y 4294967295))).fdiv (2 ^ 32)))) 4294967295) + (IntKind.u64.wrap ((iAnd .u64 x' 4294967295) * (y.fdiv (2 ^ 32))))))) (m' := 32) rfl rfl (by decide) rfl (.int (m := (IntKind.u64.wrap ((IntKind.u64.wrap ((x'.fdiv (2 ^ 32)) * (y.fdiv (2 ^ 32)))) + ((IntKind.u64.wrap ((IntKind.u64.wrap ((x'.fdiv (2 ^ 32)) * (iAnd .u64 y 4294967295))) + ((IntKind.u64.wrap ((iAnd .u64 x' 4294967295) * (iAnd .u64 y 4294967295))).fdiv (2 ^ 32)))).fdiv (2 ^ 32))))) (m' := ((IntKind.u64.wrap ((iAnd .u64 (IntKind.u64.wrap ((IntKind.u64.wrap ((x'.fdiv (2 ^ 32)) * (iAnd .u64 y 4294967295))) + ((IntKind.u64.wrap ((iAnd .u64 x' 4294967295) * (iAnd .u64 y 4294967295))).fdiv (2 ^ 32)))) 4294967295) + (IntKind.u64.wrap ((iAnd .u64 x' 4294967295) * (y.fdiv (2 ^ 32)))))).fdiv (2 ^ 32))) (r := .int .u64 (IntKind.u64.wrap ((IntKind.u64.wrap ((IntKind.u64.wrap ((x'.fdiv (2 ^ 32)) * (y.fdiv (2 ^ 32)))) + ((IntKind.u64.wrap ((IntKind.u64.wrap ((x'.fdiv (2 ^ 32)) * (iAnd .u64 y 4294967295))) + ((IntKind.u64.wrap ((iAnd .u64 x' 4294967295) * (iAnd .u64 y 4294967295))).fdiv (2 ^ 32)))).fdiv (2 ^ 32)))) + ((IntKind.u64.wrap ((iAnd .u64 (IntKind.u64.wrap ((IntKind.u64.wrap ((x'.fdiv (2 ^ 32)) * (iAnd .u64 y 4294967295))) + ((IntKind.u64.wrap ((iAnd .u64 x' 4294967295) * (iAnd .u64 y 4294967295))).fdiv (2 ^ 32)))) 4294967295) + (IntKind.u64.wrap ((iAnd .u64 x' 4294967295) * (y.fdiv (2 ^ 32)))))).fdiv (2 ^ 32))))) rfl rfl rfl rfl rfl ?_)))
 refine .assign (v := (vu (IntKind.u64.wrap ((IntKind.u64.wrap ((IntKind.u64.wrap ((x'.fdiv (2 ^ 32)) * (y.fdiv (2 ^ 32)))) + ((IntKind.u64.wrap ((IntKind.u64.wrap ((x'.fdiv (2 ^ 32)) * (iAnd .u64 y 4294967295))) + ((IntKind.u64.wrap ((iAnd .u64 x' 4294967295) * (iAnd .u64 y 4294967295))).fdiv (2 ^ 32)))).fdiv (2 ^ 32)))) + ((IntKind.u64.wrap ((iAnd .u64 (IntKind.u64.wrap ((IntKind.u64.wrap ((x'.fdiv (2 ^ 32)) * (iAnd .u64 y 4294967295))) + ((IntKind.u64.wrap ((iAnd .u64 x' 4294967295) * (iAnd .u64 y 4294967295))).fdiv (2 ^ 32)))) 4294967295) + (IntKind.u64.wrap ((iAnd .u64 x' 4294967295) * (y.fdiv (2 ^ 32)))))).fdiv (2 ^ 32)))))) rfl rfl ?_
 apply Ops.nil
 replace H := H.all
 apply Runs.then
 refine .regionH 4 rfl H ?_; intro b12 σ H
 refine .move (v := (vu x')) rfl rfl (.move (v := (vu y)) rfl rfl (.int (m := x') (m' := y) (r := .int .u64 (IntKind.u64.wrap (x' * y))) rfl rfl rfl rfl rfl (.assign (v := (vu (IntKind.u64.wrap (x' * y)))) rfl rfl ?_)))
 apply Ops.nil
 replace H := H.all
 apply Runs.ret
 subst h
 exact (Ends.H (xs := [(vu (IntKind.u64.wrap ((IntKind.u64.wrap ((IntKind.u64.wrap ((x'.fdiv (2 ^ 32)) * (y.fdiv (2 ^ 32)))) + ((IntKind.u64.wrap ((IntKind.u64.wrap ((x'.fdiv (2 ^ 32)) * (iAnd .u64 y 4294967295))) + ((IntKind.u64.wrap ((iAnd .u64 x' 4294967295) * (iAnd .u64 y 4294967295))).fdiv (2 ^ 32)))).fdiv (2 ^ 32)))) + ((IntKind.u64.wrap ((iAnd .u64 (IntKind.u64.wrap ((IntKind.u64.wrap ((x'.fdiv (2 ^ 32)) * (iAnd .u64 y 4294967295))) + ((IntKind.u64.wrap ((iAnd .u64 x' 4294967295) * (iAnd .u64 y 4294967295))).fdiv (2 ^ 32)))) 4294967295) + (IntKind.u64.wrap ((iAnd .u64 x' 4294967295) * (y.fdiv (2 ^ 32)))))).fdiv (2 ^ 32))))), (vu (IntKind.u64.wrap (x' * y)))]) (.inr rfl) H (.tmp (v := (vu (IntKind.u64.wrap ((IntKind.u64.wrap ((IntKind.u64.wrap ((x'.fdiv (2 ^ 32)) * (y.fdiv (2 ^ 32)))) + ((IntKind.u64.wrap ((IntKind.u64.wrap ((x'.fdiv (2 ^ 32)) * (iAnd .u64 y 4294967295))) + ((IntKind.u64.wrap ((iAnd .u64 x' 4294967295) * (iAnd .u64 y 4294967295))).fdiv (2 ^ 32)))).fdiv (2 ^ 32)))) + ((IntKind.u64.wrap ((iAnd .u64 (IntKind.u64.wrap ((IntKind.u64.wrap ((x'.fdiv (2 ^ 32)) * (iAnd .u64 y 4294967295))) + ((IntKind.u64.wrap ((iAnd .u64 x' 4294967295) * (iAnd .u64 y 4294967295))).fdiv (2 ^ 32)))) 4294967295) + (IntKind.u64.wrap ((iAnd .u64 x' 4294967295) * (y.fdiv (2 ^ 32)))))).fdiv (2 ^ 32)))))) rfl (.tmp (v := (vu (IntKind.u64.wrap (x' * y)))) rfl .nil)) (.two (.cons (.c (.v _)) (.cons (.c (.v _)) .nil))))

theorem safe_signed_fn {n : Int} {minus : Bool} {r : Int × Int} (h : safe_signed n minus = r) : Fn CX 78 [(vu n), (vb minus)] (.tup [(vi r.1), (vi r.2)]) := by
 refine Fn.ends Try.func78 rfl rfl rfl rfl rfl rfl ?_
 have H : Hs (⟨0, fun _ => .none⟩ : Heap) [] := Has.nil (Nat.le_refl _)
 generalize (⟨0, fun _ => .none⟩ : Heap) = σ at H ⊢
 unfold safe_signed at h
 apply Runs.then
 refine .regionH 2 rfl H ?_; intro b1 σ H
 refine .assign (v := (vi 0)) rfl rfl (.assign (v := (vi 0)) rfl rfl ?_)
 apply Ops.nil
 replace H := H.all
 apply Runs.then
 apply Runs.inBlock
 apply Runs.then
 refine .regionH 6 rfl H ?_; intro b2 σ H
 refine .move (v := (vb minus)) rfl rfl (.move (v := (vb minus)) rfl rfl ?_)
 refine .mid 3 (K1 := fun e σ => EnvHas e [(11, (vb (minus && (decide (n ≤ 9223372036854775808))))), (0, (vu n)), (1, (vb minus))] ∧ Has σ (b2 + 5) (b2 + 6) []) rfl ?_ ?_
 ·refine .split rfl rfl ?_ ?_ <;> intro hc1
  ·skip
   refine .wanted rfl rfl (.move (v := (vu n)) rfl rfl (.wanted rfl rfl (.int (m := n) (m' := 9223372036854775808) (r := .bool (decide (n ≤ 9223372036854775808))) rfl rfl rfl rfl rfl ?_)))
   refine .pickT (v := (vb (decide (n ≤ 9223372036854775808)))) rfl rfl rfl ?_
   apply Ops.nil
   exact ⟨⟨and_T hc1, rfl, rfl, trivial⟩, H.weak (by omega) (Nat.le_refl _)⟩
  ·skip
   refine .pass rfl rfl rfl (.pass rfl rfl rfl (.pickF (v := (vb false)) rfl rfl rfl ?_))
   apply Ops.nil
   exact ⟨⟨and_F hc1, rfl, rfl, trivial⟩, H.weak (by omega) (Nat.le_refl _)⟩
 ·rintro e σ ⟨he, H⟩
  obtain ⟨e, rfl⟩ := he.ex
  refine .assign (v := (vb (minus && (decide (n ≤ 9223372036854775808))))) rfl rfl ?_
  apply Ops.nil
  replace H := H.all
  refine .whether (v := (minus && (decide (n ≤ 9223372036854775808)))) rfl ?_ ?_ <;> intro hc2
  ·replace h := cond_T hc2 h
   apply Runs.then
   refine .regionH 5 rfl H ?_; intro b3 σ H
   refine .move (v := (vu n)) rfl rfl (.neg (m := n) rfl rfl (.conv (m := (IntKind.u64.wrap (0 - n))) rfl rfl rfl rfl (.assign (v := (vi (w64 (IntKind.u64.wrap (0 - n))))) rfl rfl ?_)))
   refine .assign (v := (vi 0)) rfl rfl ?_
   apply Ops.nil
   replace H := H.all
   apply Runs.ret
   subst h
   exact (Ends.H (xs := [(vi (w64 (IntKind.u64.wrap (0 - n)))), (vi 0)]) (.inr rfl) H (.tmp (v := (vi (w64 (IntKind.u64.wrap (0 - n))))) rfl (.tmp (v := (vi 0)) rfl .nil)) (.two (.cons (.c (.v _)) (.cons (.c (.v _)) .nil))))
  ·replace h := cond_F hc2 h
   apply Runs.then
   refine .regionH 7 rfl H ?_; intro b4 σ H
   refine .move (v := (vb minus)) rfl rfl (.not (b := minus) rfl rfl (.move (v := (vb (!minus))) rfl rfl ?_))
   refine .mid 3 (K1 := fun e σ => EnvHas e [(21, (vb ((!minus) && (decide (n ≤ 9223372036854775807))))), (0, (vu n))] ∧ Has σ (b4 + 6) (b4 + 7) []) rfl ?_ ?_
   ·refine .split rfl rfl ?_ ?_ <;> intro hc3
    ·skip
     refine .wanted rfl rfl (.move (v := (vu n)) rfl rfl (.wanted rfl rfl (.int (m := n) (m' := 9223372036854775807) (r := .bool (decide (n ≤ 9223372036854775807))) rfl rfl rfl rfl rfl ?_)))
     refine .pickT (v := (vb (decide (n ≤ 9223372036854775807)))) rfl rfl rfl ?_
     apply Ops.nil
     exact ⟨⟨and_T hc3, rfl, trivial⟩, H.weak (by omega) (Nat.le_refl _)⟩
    ·skip
     refine .pass rfl rfl rfl (.pass rfl rfl rfl (.pickF (v := (vb false)) rfl rfl rfl ?_))
     apply Ops.nil
     exact ⟨⟨and_F hc3, rfl, trivial⟩, H.weak (by omega) (Nat.le_refl _)⟩
   ·rintro e σ ⟨he, H⟩
    obtain ⟨e, rfl⟩ := he.ex
    refine .assign (v := (vb ((!minus) && (decide (n ≤ 9223372036854775807))))) rfl rfl ?_
    apply Ops.nil
    replace H := H.all
    refine .whether (v := ((!minus) && (decide (n ≤ 9223372036854775807)))) rfl ?_ ?_ <;> intro hc4
    ·replace h := cond_T hc4 h
     apply Runs.then
     refine .regionH 4 rfl H ?_; intro b5 σ H
     refine .move (v := (vu n)) rfl rfl (.conv (m := n) rfl rfl rfl rfl (.assign (v := (vi (w64 n))) rfl rfl (.assign (v := (vi 0)) rfl rfl ?_)))
     apply Ops.nil
     replace H := H.all
     apply Runs.ret
     subst h
     exact (Ends.H (xs := [(vi (w64 n)), (vi 0)]) (.inr rfl) H (.tmp (v := (vi (w64 n))) rfl (.tmp (v := (vi 0)) rfl .nil)) (.two (.cons (.c (.v _)) (.cons (.c (.v _)) .nil))))
    ·replace h := cond_F hc4 h
     apply Runs.skip
     apply Runs.then
     refine .regionH 2 rfl H ?_; intro b6 σ H
     refine .assign (v := (vi 0)) rfl rfl (.assign (v := (vi 10)) rfl rfl ?_)
     apply Ops.nil
     replace H := H.all
     apply Runs.ret
     subst h
     exact (Ends.H (xs := [(vi 0), (vi 10)]) (.inr rfl) H (.tmp (v := (vi 0)) rfl (.tmp (v := (vi 10)) rfl .nil)) (.two (.cons (.c (.v _)) (.cons (.c (.v _)) .nil))))

theorem safe_Mul_fn {a : Int} {b : Int} {r : Int × Int} (h : safe_Mul a b = r) : Fn CX 63 [(vi a), (vi b)] (.tup [(vi r.1), (vi r.2)]) := by
 refine Fn.ends Try.func63 rfl rfl rfl rfl rfl rfl ?_
 have H : Hs (⟨0, fun _ => .none⟩ : Heap) [] := Has.nil (Nat.le_refl _)
 generalize (⟨0, fun _ => .none⟩ : Heap) = σ at H ⊢
 unfold safe_Mul at h
 apply Runs.then
 refine .regionH 2 rfl H ?_; intro b1 σ H
 refine .assign (v := (vi 0)) rfl rfl (.assign (v := (vi 0)) rfl rfl ?_)
 apply Ops.nil
 replace H := H.all
 apply Runs.then
 refine .regionH 10 rfl H ?_; intro b2 σ H
 refine .move (v := (vi a)) rfl rfl (.call (ys := [(vi a)]) (r := (vu (safe_size a))) rfl (safe_size_fn rfl) rfl (.move (v := (vi b)) rfl rfl (.call (ys := [(vi b)]) (r := (vu (safe_size b))) rfl (safe_size_fn rfl) rfl ?_)))
 refine .call (ys := [(vu (safe_size a)), (vu (safe_size b))]) (r := (.tup [(vu (math_bits_Mul64 (safe_size a) (safe_size b)).1), (vu (math_bits_Mul64 (safe_size a) (safe_size b)).2)])) rfl (math_bits_Mul64_fn rfl) rfl (.move (v := (.tup [(vu (math_bits_Mul64 (safe_size a) (safe_size b)).1), (vu (math_bits_Mul64 (safe_size a) (safe_size b)).2)])) rfl rfl (.extract (v := (vu (math_bits_Mul64 (safe_size a) (safe_size b)).1)) rfl rfl rfl (.extract (v := (vu (math_bits_Mul64 (safe_size a) (safe_size b)).2)) rfl rfl rfl ?_)))
 refine .assign (v := (vu (math_bits_Mul64 (safe_size a) (safe_size b)).1)) rfl rfl (.assign (v := (vu (math_bits_Mul64 (safe_size a) (safe_size b)).2)) rfl rfl ?_)
 apply Ops.nil
 replace H := H.all
 apply Runs.then
 apply Runs.then
 refine .regionH 2 rfl H ?_; intro b3 σ H
 refine .move (v := (vu (math_bits_Mul64 (safe_size a) (safe_size b)).1)) rfl rfl (.int (m := (math_bits_Mul64 (safe_size a) (safe_size b)).1) (m' := 0) (r := .bool (((math_bits_Mul64 (safe_size a) (safe_size b)).1) != 0)) rfl rfl rfl rfl rfl ?_)
 apply Ops.nil
 replace H := H.all
 refine .whether (v := (((math_bits_Mul64 (safe_size a) (safe_size b)).1) != 0)) rfl ?_ ?_ <;> intro hc1
 ·replace h := cond_T hc1 h
  apply Runs.then
  refine .regionH 2 rfl H ?_; intro b4 σ H
  refine .assign (v := (vi 0)) rfl rfl (.assign (v := (vi 10)) rfl rfl ?_)
  apply Ops.nil
  replace H := H.all
  apply Runs.ret
  subst h
  exact (Ends.H (xs := [(vi 0), (vi 10)]) (.inr rfl) H (.tmp (v := (vi 0)) rfl (.tmp (v := (vi 10)) rfl .nil)) (.two (.cons (.c (.v _)) (.cons (.c (.v _)) .nil))))
 ·replace h := cond_F hc1 h
  apply Runs.skip
  apply Runs.then
  refine .regionH 11 rfl H ?_; intro b5 σ H
  refine .move (v := (vu (math_bits_Mul64 (safe_size a) (safe_size b)).2)) rfl rfl (.move (v := (vi a)) rfl rfl (.int (m := a) (m' := 0) (r := .bool (decide (a < 0))) rfl rfl rfl rfl rfl (.move (v := (vi b)) rfl rfl ?_)))
  refine .int (m := b) (m' := 0) (r := .bool (decide (b < 0))) rfl rfl rfl rfl rfl (.neB (b := (decide (a < 0))) (b' := (decide (b < 0))) rfl rfl rfl rfl (.call (ys := [(vu (math_bits_Mul64 (safe_size a) (safe_size b)).2), (vb ((decide (a < 0)) != (decide (b < 0))))]) (r := (.tup [(vi (safe_signed ((math_bits_Mul64 (safe_size a) (safe_size b)).2) ((decide (a < 0)) != (decide (b < 0)))).1), (vi (safe_signed ((math_bits_Mul64 (safe_size a) (safe_size b)).2) ((decide (a < 0)) != (decide (b < 0)))).2)])) rfl (safe_signed_fn rfl) rfl (.extract (v := (vi (safe_signed ((math_bits_Mul64 (safe_size a) (safe_size b)).2) ((decide (a < 0)) != (decide (b < 0)))).1)) rfl rfl rfl ?_)))
  refine .extract (v := (vi (safe_signed ((math_bits_Mul64 (safe_size a) (safe_size b)).2) ((decide (a < 0)) != (decide (b < 0)))).2)) rfl rfl rfl (.assign (v := (vi (safe_signed ((math_bits_Mul64 (safe_size a) (safe_size b)).2) ((decide (a < 0)) != (decide (b < 0)))).1)) rfl rfl (.assign (v := (vi (safe_signed ((math_bits_Mul64 (safe_size a) (safe_size b)).2) ((decide (a < 0)) != (decide (b < 0)))).2)) rfl rfl ?_))
  apply Ops.nil
  replace H := H.all
  apply Runs.ret
  subst h
  exact (Ends.H (xs := [(vi (safe_signed ((math_bits_Mul64 (safe_size a) (safe_size b)).2) ((decide (a < 0)) != (decide (b < 0)))).1), (vi (safe_signed ((math_bits_Mul64 (safe_size a) (safe_size b)).2) ((decide (a < 0)) != (decide (b < 0)))).2)]) (.inr rfl) H (.tmp (v := (vi (safe_signed ((math_bits_Mul64 (safe_size a) (safe_size b)).2) ((decide (a < 0)) != (decide (b < 0)))).1)) rfl (.tmp (v := (vi (safe_signed ((math_bits_Mul64 (safe_size a) (safe_size b)).2) ((decide (a < 0)) != (decide (b < 0)))).2)) rfl .nil)) (.two (.cons (.c (.v _)) (.cons (.c (.v _)) .nil))))

theorem gran_kept_fn {f : Form} {i : Int} {r : (List Span) × Int × Int} (h : gran_kept f i = some r) : Fn CX 40 [(.agg (vs (Form.cs f))), (vi i)] (.tup [(vl Span.cs r.1), (vi r.2.1), (vi r.2.2)]) := by
 refine Fn.ends Try.func40 rfl rfl rfl rfl rfl rfl ?_
 have H : Hs (⟨0, fun _ => .none⟩ : Heap) [] := Has.nil (Nat.le_refl _)
 generalize (⟨0, fun _ => .none⟩ : Heap) = σ at H ⊢
 unfold gran_kept at h
 apply Runs.then
 refine .regionH 4 rfl H ?_; intro b1 σ H
 refine .boxH (cs := (vF f)) H (by omega) (by omega) rfl rfl rfl ?_; intro σ H
 refine .assign (v := .nils) rfl rfl (.assign (v := (vi 0)) rfl rfl (.assign (v := (vi 0)) rfl rfl ?_))
 apply Ops.nil
 replace H := H.all
 apply Runs.then
 apply Runs.then
 refine .regionH 8 rfl H ?_; intro b2 σ H
 refine .loadHA (off := 0) (cs := (vF f)) H 0 rfl rfl rfl rfl rfl rfl rfl nofun rfl (.move (v := (vi i)) rfl rfl ?_)
 obtain ⟨x1, q1, h⟩ := bind_some h
 refine .call (ys := [(.agg (vF f)), (vi i)]) (r := (.tup [(vi x1.1), (vb x1.2)])) rfl (gran_odd_fn q1) rfl (.move (v := (.tup [(vi x1.1), (vb x1.2)])) rfl rfl (.extract (v := (vi x1.1)) rfl rfl rfl (.extract (v := (vb x1.2)) rfl rfl rfl ?_)))
 refine .assign (v := (vi x1.1)) rfl rfl (.assign (v := (vb x1.2)) rfl rfl ?_)
 apply Ops.nil
 replace H := H.all
 apply Runs.then
 refine .regionH 1 rfl H ?_; intro b3 σ H
 refine .move (v := (vb x1.2)) rfl rfl ?_
 apply Ops.nil
 replace H := H.all
 refine .whether (v := x1.2) rfl ?_ ?_ <;> intro hc1
 ·replace h := cond_T hc1 h
  apply Runs.then
  refine .regionH 9 rfl H ?_; intro b4 σ H
  refine .fieldAddrH (off := 0) (fo := 3) H 0 rfl rfl rfl rfl rfl nofun rfl (.loadH (off := 3) (v := (vl Granule.cs f.Odd)) H 0 rfl rfl rfl rfl rfl nofun rfl (.move (v := (vi x1.1)) rfl rfl ?_))
  obtain ⟨x2, q2, h⟩ := bind_some h
  refine .indexP (c := Granule.cs) (u := x2) rfl rfl q2 rfl rfl rfl rfl (.fieldAddrP rfl rfl rfl rfl (.loadP (u := (.sl (x2.Ticks.map Span.cs))) rfl rfl rfl rfl (.assign (v := (vl Span.cs x2.Ticks)) rfl rfl ?_)))
  refine .assign (v := (vi 0)) rfl rfl (.assign (v := (vi 0)) rfl rfl ?_)
  apply Ops.nil
  replace H := H.all
  apply Runs.ret
  replace h := Option.some.inj h; subst h
  exact (Ends.H (xs := [(vl Span.cs x2.Ticks), (vi 0), (vi 0)]) (.inr rfl) H (.tmp (v := (vl Span.cs x2.Ticks)) rfl (.tmp (v := (vi 0)) rfl (.tmp (v := (vi 0)) rfl .nil))) (.two (.cons (.c (.v _)) (.cons (.c (.v _)) (.cons (.c (.v _)) .nil)))))
 ·replace h := cond_F hc1 h
  apply Runs.skip
  apply Runs.then
  apply Runs.then
  refine .regionH 3 rfl H ?_; intro b5 σ H
  refine .fieldAddrH (off := 0) (fo := 1) H 0 rfl rfl rfl rfl rfl nofun rfl (.loadH (off := 1) (v := (vi f.Count)) H 0 rfl rfl rfl rfl rfl nofun rfl (.int (m := f.Count) (m' := 0) (r := .bool (f.Count == 0)) rfl rfl rfl rfl rfl ?_))
  apply Ops.nil
  replace H := H.all
  refine .whether (v := (f.Count == 0)) rfl ?_ ?_ <;> intro hc2
  ·replace h := cond_T hc2 h
   apply Runs.then
   refine .regionH 3 rfl H ?_; intro b6 σ H
   refine .assign (v := .nils) rfl rfl (.assign (v := (vi 0)) rfl rfl (.assign (v := (vi 0)) rfl rfl ?_))
   apply Ops.nil
   replace H := H.all
   apply Runs.ret
   replace h := Option.some.inj h; subst h
   exact (Ends.H (xs := [.nils, (vi 0), (vi 0)]) (.inr rfl) H (.tmp (v := .nils) rfl (.tmp (v := (vi 0)) rfl (.tmp (v := (vi 0)) rfl .nil))) (.two (.cons (.c .n) (.cons (.c (.v _)) (.cons (.c (.v _)) .nil)))))
  ·replace h := cond_F hc2 h
   apply Runs.skip
   apply Runs.then
   refine .regionH 11 rfl H ?_; intro b7 σ H
   refine .move (v := (vi i)) rfl rfl (.fieldAddrH (off := 0) (fo := 1) H 0 rfl rfl rfl rfl rfl nofun rfl (.loadH (off := 1) (v := (vi f.Count)) H 0 rfl rfl rfl rfl rfl nofun rfl ?_))
   obtain ⟨x3, q3, h⟩ := bind_some h
   refine .call (ys := [(vi i), (vi f.Count)]) (r := (.tup [(vi x3.1), (vi x3.2.1), (vi x3.2.2)])) rfl (safe_Floor_fn q3) rfl (.move (v := (.tup [(vi x3.1), (vi x3.2.1), (vi x3.2.2)])) rfl rfl (.extract (v := (vi x3.1)) rfl rfl rfl (.extract (v := (vi x3.2.1)) rfl rfl rfl ?_)))
   refine .extract (v := (vi x3.2.2)) rfl rfl rfl (.assign (v := (vi x3.1)) rfl rfl (.assign (v := (vi x3.2.1)) rfl rfl (.assign (v := (vi x3.2.2)) rfl rfl ?_)))
   apply Ops.nil
   replace H := H.all
   apply Runs.then
   refine .regionH 9 rfl H ?_; intro b8 σ H
   refine .move (v := (vi x3.1)) rfl rfl (.fieldAddrH (off := 0) (fo := 0) H 0 rfl rfl rfl rfl rfl nofun rfl (.loadH (off := 0) (v := (vi f.Period)) H 0 rfl rfl rfl rfl rfl nofun rfl (.call (ys := [(vi x3.1), (vi f.Period)]) (r := (.tup [(vi (safe_Mul x3.1 f.Period).1), (vi (safe_Mul x3.1 f.Period).2)])) rfl (safe_Mul_fn rfl) rfl ?_)))
   refine .move (v := (.tup [(vi (safe_Mul x3.1 f.Period).1), (vi (safe_Mul x3.1 f.Period).2)])) rfl rfl (.extract (v := (vi (safe_Mul x3.1 f.Period).1)) rfl rfl rfl (.extract (v := (vi (safe_Mul x3.1 f.Period).2)) rfl rfl rfl (.assign (v := (vi (safe_Mul x3.1 f.Period).1)) rfl rfl ?_)))
   refine .assign (v := (vi (safe_Mul x3.1 f.Period).2)) rfl rfl ?_
   apply Ops.nil
   replace H := H.all
   apply Runs.then
   refine .regionH 10 rfl H ?_; intro b9 σ H
   refine .fieldAddrH (off := 0) (fo := 2) H 0 rfl rfl rfl rfl rfl nofun rfl (.loadH (off := 2) (v := (vl (cL Span.cs) f.Core)) H 0 rfl rfl rfl rfl rfl nofun rfl (.move (v := (vi x3.2.1)) rfl rfl ?_))
   obtain ⟨x4, q4, h⟩ := bind_some h
   refine .indexP (c := (cL Span.cs)) (u := x4) rfl rfl q4 rfl rfl rfl rfl (.loadP (u := (.sl (x4.map Span.cs))) rfl rfl rfl rfl (.move (v := (vi (safe_Mul x3.1 f.Period).1)) rfl rfl (.move (v := (vi (safe_Mul x3.1 f.Period).2)) rfl rfl ?_)))
   refine .assign (v := (vl Span.cs x4)) rfl rfl (.assign (v := (vi (safe_Mul x3.1 f.Period).1)) rfl rfl (.assign (v := (vi (safe_Mul x3.1 f.Period).2)) rfl rfl ?_))
   apply Ops.nil
   replace H := H.all
   apply Runs.ret
   replace h := Option.some.inj h; subst h
   exact (Ends.H (xs := [(vl Span.cs x4), (vi (safe_Mul x3.1 f.Period).1), (vi (safe_Mul x3.1 f.Period).2)]) (.inr rfl) H (.tmp (v := (vl Span.cs x4)) rfl (.tmp (v := (vi (safe_Mul x3.1 f.Period).1)) rfl (.tmp (v := (vi (safe_Mul x3.1 f.Period).2)) rfl .nil))) (.two (.cons (.c (.v _)) (.cons (.c (.v _)) (.cons (.c (.v _)) .nil)))))

theorem safe_Add_fn {a : Int} {b : Int} {r : Int × Int} (h : safe_Add a b = r) : Fn CX 43 [(vi a), (vi b)] (.tup [(vi r.1), (vi r.2)]) := by
 refine Fn.ends Try.func43 rfl rfl rfl rfl rfl rfl ?_
 have H : Hs (⟨0, fun _ => .none⟩ : Heap) [] := Has.nil (Nat.le_refl _)
 generalize (⟨0, fun _ => .none⟩ : Heap) = σ at H ⊢
 unfold safe_Add at h
 apply Runs.then
 refine .regionH 2 rfl H ?_; intro b1 σ H
 refine .assign (v := (vi 0)) rfl rfl (.assign (v := (vi 0)) rfl rfl ?_)
 apply Ops.nil
 replace H := H.all
 apply Runs.then
 refine .regionH 4 rfl H ?_; intro b2 σ H
 refine .move (v := (vi a)) rfl rfl (.move (v := (vi b)) rfl rfl (.int (m := a) (m' := b) (r := .int .i64 (w64 (a + b))) rfl rfl rfl rfl rfl (.assign (v := (vi (w64 (a + b)))) rfl rfl ?_)))
 apply Ops.nil
 replace H := H.all
 apply Runs.then
 apply Runs.then
 refine .regionH 10 rfl H ?_; intro b3 σ H
 refine .move (v := (vi (w64 (a + b)))) rfl rfl (.move (v := (vi a)) rfl rfl (.int (m := (w64 (a + b))) (m' := a) (r := .bool (decide ((w64 (a + b)) > a))) rfl rfl rfl rfl rfl (.move (v := (vi b)) rfl rfl ?_)))
 refine .int (m := b) (m' := 0) (r := .bool (decide (b > 0))) rfl rfl rfl rfl rfl (.neB (b := (decide ((w64 (a + b)) > a))) (b' := (decide (b > 0))) rfl rfl rfl rfl (.move (v := (vb ((decide ((w64 (a + b)) > a)) != (decide (b > 0))))) rfl rfl ?_))
 refine .mid 3 (K1 := fun e σ => EnvHas e [(19, (vb (((decide ((w64 (a + b)) > a)) != (decide (b > 0))) && (b != 0)))), (6, (vi (w64 (a + b))))] ∧ Has σ (b3 + 10) (b3 + 10) []) rfl ?_ ?_
 ·refine .split rfl rfl ?_ ?_ <;> intro hc1
  ·skip
   refine .wanted rfl rfl (.move (v := (vi b)) rfl rfl (.wanted rfl rfl (.int (m := b) (m' := 0) (r := .bool (b != 0)) rfl rfl rfl rfl rfl ?_)))
   refine .pickT (v := (vb (b != 0))) rfl rfl rfl ?_
   apply Ops.nil
   exact ⟨⟨and_T hc1, rfl, trivial⟩, H.weak (by omega) (Nat.le_refl _)⟩
  ·skip
   refine .pass rfl rfl rfl (.pass rfl rfl rfl (.pickF (v := (vb false)) rfl rfl rfl ?_))
   apply Ops.nil
   exact ⟨⟨and_F hc1, rfl, trivial⟩, H.weak (by omega) (Nat.le_refl _)⟩
 ·rintro e σ ⟨he, H⟩
  obtain ⟨e, rfl⟩ := he.ex
  apply Ops.nil
  replace H := H.all
  refine .whether (v := (((decide ((w64 (a + b)) > a)) != (decide (b > 0))) && (b != 0))) rfl ?_ ?_ <;> intro hc2
  ·replace h := cond_T hc2 h
   apply Runs.then
   refine .regionH 2 rfl H ?_; intro b4 σ H
   refine .assign (v := (vi 0)) rfl rfl (.assign (v := (vi 10)) rfl rfl ?_)
   apply Ops.nil
   replace H := H.all
   apply Runs.ret
   subst h
   exact (Ends.H (xs := [(vi 0), (vi 10)]) (.inr rfl) H (.tmp (v := (vi 0)) rfl (.tmp (v := (vi 10)) rfl .nil)) (.two (.cons (.c (.v _)) (.cons (.c (.v _)) .nil))))
  ·replace h := cond_F hc2 h
   apply Runs.skip
   apply Runs.then
   refine .regionH 3 rfl H ?_; intro b5 σ H
   refine .move (v := (vi (w64 (a + b)))) rfl rfl (.assign (v := (vi (w64 (a + b)))) rfl rfl (.assign (v := (vi 0)) rfl rfl ?_))
   apply Ops.nil
   replace H := H.all
   apply Runs.ret
   subst h
   exact (Ends.H (xs := [(vi (w64 (a + b))), (vi 0)]) (.inr rfl) H (.tmp (v := (vi (w64 (a + b)))) rfl (.tmp (v := (vi 0)) rfl .nil)) (.two (.cons (.c (.v _)) (.cons (.c (.v _)) .nil))))

end Go.Dn
