/- Part 2 of what the row stands on. -/
import Derived.Below
import Derived.ChangeArms
import Derived.ChangeOld
import Derived.SizedLaws
import Derived.KernelRfl
import Derived.Test.YtfknindefmcgdaaProg
import Derived.ScopeJumps
import Derived.Test.YtfknindefmcgdaaM1
set_option linter.unusedVariables false
set_option linter.unusedSimpArgs false
namespace Go.Dn
open Go
def Z2Z {S T : Type} (yb : S → T → Option (S × Nat)) : S × Nat → T → Option ((S × Nat) × Bool) := fun s t => if s.2 = 0 then (yb s.1 t).map fun r => (r, r.2 == 0) else none
def cI (k : IntKind) (x : Int) : List FV := [.int k x]
def cB (x : Bool) : List FV := [.bool x]
def cS (x : ByteArray) : List FV := [.str x]
def cL {α : Type} (c : α → List FV) (x : List α) : List FV := [.sl (x.map c)]
abbrev w64 (x : Int) : Int := IntKind.i64.wrap x
def nz? (b : Int) : Option Unit := if b = 0 then none else some ()
theorem nz_ne {b : Int} {u : Unit} (h : nz? b = some u) : b ≠ 0 := by
 unfold nz? at h
 split at h
 ·cases h
 ·assumption
abbrev iAnd (k : IntKind) (x y : Int) : Int := k.wrap (BitVec.ofInt k.bits x &&& BitVec.ofInt k.bits y).toNat
abbrev iOr (k : IntKind) (x y : Int) : Int := k.wrap (BitVec.ofInt k.bits x ||| BitVec.ofInt k.bits y).toNat
abbrev iXor (k : IntKind) (x y : Int) : Int := k.wrap (BitVec.ofInt k.bits x ^^^ BitVec.ofInt k.bits y).toNat
abbrev iAndNot (k : IntKind) (x y : Int) : Int := k.wrap (BitVec.ofInt k.bits x &&& ~~~ BitVec.ofInt k.bits y).toNat
abbrev iMin (x y : Int) : Int := if y < x then y else x
abbrev iMax (x y : Int) : Int := if y > x then y else x
def clone? {α : Type} (by_ : Nat) (l : List α) : Option (List α) := if l.length * by_ ≤ room then some l else none
theorem clone_some {α : Type} {by_ : Nat} {l r : List α} (h : clone? by_ l = some r) : l.length * by_ ≤ room ∧ r = l := by
 unfold clone? at h
 split at h
 ·cases h; exact ⟨by assumption, rfl⟩
 ·cases h
def gcd? (a b : Int) : Option Int := if (0 ≤ a ∧ a ≤ 18446744073709551615) ∧ 0 ≤ b ∧ b ≤ 18446744073709551615 then some (Int.gcd a b) else none
def Jx.elim {A R B : Type} (j : Jx A R) (g : R → Option B) (f : A → Option B) : Option B := match j with | .go a => f a | .ret r => g r
theorem jgo {A R B : Type} {a : A} {g : R → Option B} {f : A → Option B} {b : B} (h : (Jx.go a : Jx A R).elim g f = some b) : f a = some b := h
theorem jret {A R B : Type} {r : R} {g : R → Option B} {f : A → Option B} {b : B} (h : (Jx.ret r : Jx A R).elim g f = some b) : g r = some b := h
theorem or_T {c t : Bool} (h : c = true) : PV.v (.bool true) = .v (.bool (c || t)) := by rw [h]; rfl
theorem or_F {c t : Bool} (h : c = false) : PV.v (.bool t) = .v (.bool (c || t)) := by rw [h]; rfl
theorem Z0s {c t : Bool} (h : c = true) : PV.v (.bool t) = .v (.bool (c && t)) := by rw [h]; rfl
theorem Z0r {c t : Bool} (h : c = false) : PV.v (.bool false) = .v (.bool (c && t)) := by rw [h]; rfl
section
variable {X : Ctx} {n : Nat} {dr : Bool} {fn : FuncId} {ops : Array Oper} {base i : Nat} {l : List Oper} {e : Env} {σ : Heap} {K : Env → Heap → Prop} {Q : Ex → Env → Heap → Prop} {c a b : Code}
variable {d : Nat} {t t1 t2 : TypeId} {p : String} {af : Array Edge} {x y z : Operand} {v : PV} {lo hi : Nat} {L : List Res}
theorem Ops.Zv {α : Type} {c : α → List FV} {xs : List α} {el : TypeId} (hx : Z2 X e x = some (.v (.sl (xs.map c)))) (ht : tslice X.P t1 = some el) (hd : Nat.blt d n = true)
  (hk' : Ops X n dr ops base (i + 1) l (set e d (.v (.int .i64 xs.length))) σ K) : Ops X n dr ops base i (⟨some d, .call { callee := .builtin .len, args := #[x], argTypes := #[t1] }, t, p, af, none⟩ :: l) e σ K := by
 refine Ops.lenP (af2 := #[]) hx ht hd ?_
 rw [List.length_map]; exact hk'
theorem Ops.Z6g {α : Type} {c : α → List FV} {xs : List α} {el et : TypeId} {sz : Nat} {lv : Bool} (H : Has σ lo hi L) (k : Nat) (hk : L[k]? = some (.sl v et sz (xs.map c) lv)) (hx : Z2 X e x = some v) (ht : tslice X.P t1 = some el)
  (ha : dr = true → ∀ id, v.owner = some id → Seen ops base i id false) (hd : Nat.blt d n = true)
  (hk' : Ops X n dr ops base (i + 1) l (set e d (.v (.int .i64 xs.length))) σ K) : Ops X n dr ops base i (⟨some d, .call { callee := .builtin .len, args := #[x], argTypes := #[t1] }, t, p, af, none⟩ :: l) e σ K := by
 refine Ops.lenS H k hk hx ht ha hd ?_
 rw [List.length_map]; exact hk'
theorem Z7I {v : PV} {id : Nat} (h : id ∈ vids v) (hv : ∀ i v' o, v ≠ .ptr i v' o) : v.owner = some id := by
 cases v <;> simp [vids] at h
 ·exact h ▸ rfl
 ·exact absurd rfl (hv _ _ _)
theorem Z8k {sz : Nat} {w : PV} {ys : List (List FV)} (H : Has σ lo hi L) (h : Bring L sz w ys) : ∀ i v' o, w ≠ .ptr i v' o := by
 intro i v' o e
 subst e
 cases h with
 | s k h => obtain ⟨_, ⟨h, _⟩ | ⟨_, h, _⟩⟩ := H.sl h <;> cases h
theorem Ops.Z28 {α : Type} {c : α → List FV} {xs ys r : List α} {el : TypeId} {sz by_ : Nat} {w : PV} {zs : List PV} (H : Has σ lo hi L) (hlo : lo ≤ base + i) (hhi : base + i < hi) (k : Nat) (hk : L[k]? = some (.sl v el sz (xs.map c) true))
  (hx : Z2 X e x = some v) (hy : Z2 X e y = some w) (hb : Bring L sz w (ys.map c)) (hr : app? by_ xs ys = some r) (ht : tslice X.P t1 = some el) (hs : tsize X.P el = some sz) (hby : tbytes X.P el = some by_) (hz : tzero X.P el = some zs)
  (hc : (sz != 0 && by_ != 0 && zs.length == sz) = true)
  (ha : dr = true → (∀ id, v.owner = some id → Seen ops base i id true) ∧ (∀ id, w.owner = some id → Seen ops base i id true)) (hd : Nat.blt d n = true)
  (hk' : ∀ v' σ', Has σ' (base + i + 1) hi (L.set k (.sl v' el sz (r.map c) true)) → Ops X n dr ops base (i + 1) l (set e d v') σ' K) :
  Ops X n dr ops base i (⟨some d, .call { callee := .builtin .append, args := #[x, y], argTypes := #[t1, t1] }, t, p, af, none⟩ :: l) e σ K := by
 unfold app? at hr
 split at hr
 ·rename_i hroom;cases hr;refine Ops.appendS H hlo hhi k hk hx hy hb ht hs hby hz hc (by simpa using hroom) (fun h id hid => ?_) hd ?_
  ·rcases List.mem_append.1 hid with hid | hid
   ·refine (ha h).1 id (Z7I hid ?_);intro i v' o e;subst e;obtain ⟨_, ⟨h, _⟩ | ⟨_, h, _⟩⟩ := H.sl hk <;> cases h
   ·exact (ha h).2 id (Z7I hid (Z8k H hb))
  ·rw [List.map_append] at hk';exact hk'
 ·cases hr
def cpy {α : Type} (xs ys : List α) : List α := ys.take (min ys.length xs.length) ++ xs.drop (min ys.length xs.length)
theorem Ops.storeSt {α : Type} {c : α → List FV} {xs : List α} {u u' : α} {id : Nat} {et : TypeId} {sz j m off ver : Nat} {zs : List FV} {iv : Int} {w : PV} (H : Has σ lo hi L) (k : Nat) (hk : L[k]? = some (.sl v et sz (xs.map c) true)) (hv : v = .buf id (xs.map c).length sz) (hver : ver = (xs.map c).length * sz)
  (hu : at? xs iv = some u) (hx : Z2 X e x = some (.ptr id ver off)) (hoff : off = iv.toNat * sz + j) (hy : Z2 X e y = some w) (hw : w.cells = some (vs zs)) (hm : tsize X.P t1 = some m) (hz : zs.length = m) (hj : Nat.ble (j + m) sz = true)
  (hu' : (c u).take j ++ zs ++ (c u).drop (j + zs.length) = c u') (ha : dr = true → Seen ops base i id true)
  (hk' : ∀ σ', Has σ' lo hi (L.set k (.sl v et sz ((xs.set iv.toNat u').map c) true)) → Ops X n dr ops base (i + 1) l e σ' K) : Ops X n dr ops base i (⟨none, .store t1 x y, t, p, af, none⟩ :: l) e σ K := by
 refine Ops.storeS H k hk hv hver (at?_map hu) hx hoff hy hw hm hz hj hu' ha ?_
 rw [List.map_set] at hk'
 exact hk'
theorem Ops.binA {op : BinOp} {u w : PV} {r : FV} (hx : Z2 X e x = some u) (hy : Z2 X e y = some w) (hr : binD X.P σ op t1 u w = some r) (ha : dr = true → Zu X ops base i ⟨some d, .binOp op t1 x y t2, t, p, af, none⟩ e = true) (hd : Nat.blt d n = true)
  (hk : Ops X n dr ops base (i + 1) l (set e d (.v r)) σ K) : Ops X n dr ops base i (⟨some d, .binOp op t1 x y t2, t, p, af, none⟩ :: l) e σ K :=
 .plain (x := .v r) (σ1 := σ) (by simp only [ZE, hx, hy, hr, Option.map_some]) ha hd hk
theorem ask_eqA {op : BinOp} {us ws : List PV} {o : Oper} (hx : Z2 X e x = some (.agg us)) (hy : Z2 X e y = some (.agg ws)) (hop : Z01 (.binOp op t1 x y t2) = .read) (ho : o.op = .binOp op t1 x y t2) : Zu X ops base i o e = true :=
 Z3C (by rw [ho]; exact hop) (by rw [ho]; simp only [touched, Zh, List.flatMap_cons, List.flatMap_nil, hx, hy, vids, List.append_nil])
theorem Ops.Z0Q {parts : Array (Nat × Operand)} {cs : List PV} (hb : buildD X e t1 parts.toList = some (.agg cs)) (hd : Nat.blt d n = true) (hk : Ops X n dr ops base (i + 1) l (set e d (.agg cs)) σ K) : Ops X n dr ops base i (⟨some d, .build t1 parts, t, p, af, none⟩ :: l) e σ K :=
 .plain (x := .agg cs) (σ1 := σ) (by simp only [ZE, hb, Option.map_some]) (fun _ => Z0m rfl) hd hk
theorem Ops.Z7i {f : FuncId} {first caps : Array Operand} {fs cs : List PV} (hf : Zi X e first.toList = some fs) (hc : Zi X e caps.toList = some cs) (hn : (fs.isEmpty && cs.isEmpty) = false) (hd : Nat.blt d n = true)
  (hk : Ops X n dr ops base (i + 1) l (set e d (.clo f fs cs)) σ K) : Ops X n dr ops base i (⟨some d, .makeFunc (.func f) first caps, t, p, af, none⟩ :: l) e σ K := by
 refine .plain (x := .clo f fs cs) (σ1 := σ) ?_ (fun _ => Z0m rfl) hd hk
 simp only [ZE, hf, hc]
 cases fs <;> cases cs <;> first | rfl | cases hn
theorem Ops.min2 {k : IntKind} {u w : Int} {ts : Array TypeId} (hx : Z2 X e x = some (.v (.int k u))) (hy : Z2 X e y = some (.v (.int k w))) (hd : Nat.blt d n = true) (hk : Ops X n dr ops base (i + 1) l (set e d (.v (.int k (iMin u w)))) σ K) :
  Ops X n dr ops base i (⟨some d, .call { callee := .builtin .min, args := #[x, y], argTypes := ts }, t, p, af, none⟩ :: l) e σ K :=
 .plain (x := .v (.int k (iMin u w))) (σ1 := σ) (by simp only [ZE, Z04, Zi, hx, hy, Option.bind_some, Z0L, Z32, if_true, Option.map_some]) (fun _ => Z0m rfl) hd hk
theorem Ops.max2 {k : IntKind} {u w : Int} {ts : Array TypeId} (hx : Z2 X e x = some (.v (.int k u))) (hy : Z2 X e y = some (.v (.int k w))) (hd : Nat.blt d n = true) (hk : Ops X n dr ops base (i + 1) l (set e d (.v (.int k (iMax u w)))) σ K) :
  Ops X n dr ops base i (⟨some d, .call { callee := .builtin .max, args := #[x, y], argTypes := ts }, t, p, af, none⟩ :: l) e σ K :=
 .plain (x := .v (.int k (iMax u w))) (σ1 := σ) (by simp only [ZE, Z04, Zi, hx, hy, Option.bind_some, Z0L, Z32, if_true, Option.map_some]) (fun _ => Z0m rfl) hd hk
theorem cut?_some {α : Type} {xs r : List α} {i j : Int} (h : cut? xs i j = some r) : 0 ≤ i ∧ i ≤ j ∧ j ≤ xs.length ∧ r = (xs.take j.toNat).drop i.toNat := by
 unfold cut? at h
 split at h
 ·rename_i h1; cases h; exact ⟨h1.1, h1.2.1, h1.2.2, rfl⟩
 ·cases h
theorem sliceP_ok {α : Type} {c : α → List FV} {xs r : List α} {i0 j0 : Int} {P : Program} {el : TypeId} {m : Nat} {lo hi : Option PV} (h : cut? xs i0 j0 = some r) (ht : tslice P t1 = some el) (hs : tsize P el = some m) (hm : ∀ u, (c u).length = m)
  (hlo : (match lo with | none => some 0 | some v => Z4R v) = some i0.toNat) (hhi : (match hi with | none => some xs.length | some v => Z4R v) = some j0.toNat) : Z8C P t1 (.v (.sl (xs.map c))) lo hi none = some (.v (.sl (r.map c))) := by
 obtain ⟨h1, h2, h3, rfl⟩ := cut?_some h
 have hc : i0.toNat ≤ j0.toNat ∧ j0.toNat ≤ xs.length ∧ Z6A (xs.map c) i0.toNat m = true := by
  refine ⟨by omega, by omega, ?_⟩
  simp only [Z6A, List.getElem?_map];cases xs[i0.toNat]? with
  | none => rfl
  | some u => simp [hm]
 have hc' : xs.length = j0.toNat → i0.toNat ≤ j0.toNat ∧ j0.toNat ≤ j0.toNat ∧ Z6A (xs.map c) i0.toNat m = true := fun _ => ⟨hc.1, Nat.le_refl _, hc.2.2⟩
 cases lo <;> cases hi <;> simp only [Option.some.injEq] at hlo hhi <;> simp only [Z8C, ht, Option.bind_some, hs, List.length_map, hlo, hhi, List.map_drop, List.map_take] <;> first | rw [if_pos hc] | rw [if_pos (hc' hhi)]
theorem asNat_int {k : IntKind} {m : Int} (h : 0 ≤ m) : Z4R (.v (.int k m)) = some m.toNat := by simp [Z4R, h]
theorem Ops.sliceP10 {α : Type} {c : α → List FV} {xs r : List α} {el : TypeId} {m : Nat} {k : IntKind} {i0 : Int} (h : cut? xs i0 xs.length = some r) (hx : Z2 X e x = some (.v (.sl (xs.map c)))) (hl : Z2 X e y = some (.v (.int k i0))) (ht : tslice X.P t1 = some el) (hs : tsize X.P el = some m) (hm : ∀ u, (c u).length = m) (hd : Nat.blt d n = true)
  (hk : Ops X n dr ops base (i + 1) l (set e d (.v (.sl (r.map c)))) σ K) : Ops X n dr ops base i (⟨some d, .slice t1 x (some y) none none, t, p, af, none⟩ :: l) e σ K := by
 refine .plain (x := .v (.sl (r.map c))) (σ1 := σ) ?_ (fun _ => ?_) hd hk
 ·simp only [ZE, hx, hl, optD, Option.map_some, sliceP_ok h ht hs hm (lo := some (.v (.int k i0))) (hi := none) (asNat_int (cut?_some h).1) (by simp)]
 ·exact ask0 (by simp only [Zl, Z01, hx])
theorem Ops.sliceP01 {α : Type} {c : α → List FV} {xs r : List α} {el : TypeId} {m : Nat} {k : IntKind} {j0 : Int} (h : cut? xs 0 j0 = some r) (hx : Z2 X e x = some (.v (.sl (xs.map c)))) (hl : Z2 X e y = some (.v (.int k j0))) (ht : tslice X.P t1 = some el) (hs : tsize X.P el = some m) (hm : ∀ u, (c u).length = m) (hd : Nat.blt d n = true)
  (hk : Ops X n dr ops base (i + 1) l (set e d (.v (.sl (r.map c)))) σ K) : Ops X n dr ops base i (⟨some d, .slice t1 x none (some y) none, t, p, af, none⟩ :: l) e σ K := by
 refine .plain (x := .v (.sl (r.map c))) (σ1 := σ) ?_ (fun _ => ?_) hd hk
 ·have h' := cut?_some h
  simp only [ZE, hx, hl, optD, Option.map_some, sliceP_ok h ht hs hm (lo := none) (hi := some (.v (.int k j0))) rfl (asNat_int (by omega))]
 ·exact ask0 (by simp only [Zl, Z01, hx])
end
inductive Sub : List Res → List Res → Prop
 | nil {L : List Res} : Sub [] L
 | cons {c : Res} {C L : List Res} (k : Nat) (h : L[k]? = some c) (t : Sub C L) : Sub (c :: C) L
theorem Sub.push {C L : List Res} {r : Res} (h : Sub C L) : Sub C (r :: L) := by
 induction h with
 | nil => exact .nil
 | cons k h t ih => exact .cons (k + 1) h ih
theorem Sub.inv {c : Res} {C L : List Res} (h : Sub (c :: C) L) : ∃ k : Nat, L[k]? = some c ∧ Sub C L := by
 cases h with
 | cons k h t => exact ⟨k, h, t⟩
noncomputable def callV (X : Ctx) (cv : PV) (args : List PV) (σ : Heap) : Option (PV × Heap) :=
 match cv with
 | .v (.fn f) => Z0N X (.fn f) args σ
 | .clo f first caps => Z0N X (.fn f) (first ++ args ++ caps) σ
 | _ => none
def FnH (X : Ctx) (f : FuncId) (args : List PV) (r : PV) (C : List Res) : Prop :=
 ∀ σ lo hi L, Sub C L → Has σ lo hi L → ∃ σ', Z0N X (.fn f) args σ = some (r, σ') ∧ Has σ' lo hi L
def CloH (X : Ctx) (cv : PV) (args : List PV) (r : PV) (C : List Res) : Prop :=
 ∀ σ lo hi L, Sub C L → Has σ lo hi L → ∃ σ', callV X cv args σ = some (r, σ') ∧ Has σ' lo hi L
section
variable {X : Ctx} {f : FuncId} {args : List PV} {r : PV} {C : List Res}
theorem Fn.toH (h : Fn X f args r) (C : List Res) : FnH X f args r C := fun σ lo hi L _ H => ⟨σ, h.call σ, H⟩
theorem CloH.fn (h : FnH X f args r C) : CloH X (.v (.fn f)) args r C := h
theorem CloH.clo {first caps : List PV} (h : FnH X f (first ++ args ++ caps) r C) : CloH X (.clo f first caps) args r C := h
theorem CloH.weak {cv : PV} (h : CloH X cv args r []) : CloH X cv args r C := fun σ lo hi L _ H => h σ lo hi L .nil H
theorem all_nil {α : Type} {p : α → Bool} : ([] : List α).all p = true := rfl
theorem Z31 {α : Type} {p : α → Bool} {x : α} {l : List α} (h : p x = true) (t : l.all p = true) : (x :: l).all p = true := by rw [List.all_cons, h, t]; rfl
theorem Z3V {α : Type} {p : α → Bool} {x : α} {l : List α} (h : l.all p = true) (i : Nat) (hx : l[i]? = some x) : p x = true := List.all_eq_true.1 h x (List.mem_of_getElem? hx)
def PV.still : PV → Bool
 | .ptr _ _ _ => true
 | .clo _ _ _ => true
 | .yld _ => true
 | x => x.pure
theorem expArg_still {σ : Heap} {x : PV} (h : x.still = true) : Z3G σ x = some (x, σ) := by
 cases x <;> first | rfl | exact Z5p h
theorem Z4W {σ : Heap} : ∀ {xs : List PV}, xs.all PV.still = true → Z0g σ xs = some (xs, σ)
 | [], _ => rfl
 | x :: xs, h => by
  simp only [List.all_cons, Bool.and_eq_true] at h;simp only [Z0g, expArg_still h.1, Option.bind_some, Z4W h.2]
theorem FnH.of {fu : Func} {c : Code} {m : Nat} (hf : X.P.funcs[f]? = some fu) (hb : fu.body = some c) (hi : X.intr f args = none) (hk : X.keep f = false) (ho : X.opn f = false) (hs : args.all PV.still = true) (hm : max fu.ntmps args.length = m)
  (hp : args.all PV.pure = true → C = [])
  (h : ∀ σ L, Sub C L → Hs σ L → Runs X m f c (Z5U args) σ (EndsH X fu.results.toList r L)) : FnH X f args r C := by
 subst hm
 intro σ lo hi' L hC H
 by_cases hpu : args.all PV.pure = true
 ·have hC0 := hp hpu
  subst hC0;obtain ⟨lf, x, e', σ1, h1, hE⟩ := (h Heap.empty [] .nil (Has.nil (Nat.le_refl _))).run
  obtain ⟨hx, xs, σ2, _, _, h2, h3, _⟩ := hE.out
  refine ⟨σ, Z2F (lf := lf) ?_, H⟩
  have hbody : Z1L X (Z0N X) lf f args Heap.empty = some (Z1b xs, σ1) := by
   simp only [Z1L, hf, hb, h1]
   rcases hx with rfl | rfl <;> simp only [h2, Option.map_some]
  simp only [Z42, hi, hk, Bool.false_eq_true, if_false, Z2Q hpu, ho, hpu, if_true, hbody, Option.bind_some, h3, Option.map_some]
 ·obtain ⟨lf, x, e', σ1, h1, hE⟩ := (h σ (.floor hi' :: L) hC.push (H.all.floor hi' H.le)).run
  obtain ⟨hx, xs, σ2, lo2, hi2, h2, h3, H2⟩ := hE.out
  refine ⟨σ2, Z2F (lf := lf) ?_, ?_⟩
  ·have hbody : Z1L X (Z0N X) lf f args σ = some (Z1b xs, σ1) := by
    simp only [Z1L, hf, hb, h1]
    rcases hx with rfl | rfl <;> simp only [h2, Option.map_some]
   simp only [Z42, hi, hk, Bool.false_eq_true, if_false, Z4W hs, ho, if_neg hpu, hbody, Option.bind_some, h3]
  ·have hfl : hi' ≤ σ2.nx := H2.holds 0 _ rfl
   have H3 := H2.erase 0
   exact ⟨H3.holds, fun k r hk id ho => ⟨(H.lt k r hk id ho).1, (H3.lt k r hk id ho).2⟩, H.sep, hfl⟩
end
section
variable {X : Ctx} {n : Nat} {dr : Bool} {fn : FuncId} {ops : Array Oper} {base i : Nat} {l : List Oper} {e : Env} {σ : Heap} {K : Env → Heap → Prop}
variable {d : Nat} {t : TypeId} {p : String} {af : Array Edge} {x : Operand} {lo hi : Nat} {L C : List Res}
theorem Ops.callH {f : FuncId} {args : Array Operand} {ts : Array TypeId} {ys : List PV} {r : PV} (H : Has σ lo hi L) (ha : Zi X e args.toList = some ys) (hf : FnH X f ys r C) (hs : Sub C L)
  (hdr : dr = true → (ys.all PV.pure && !X.opn f && !X.keep f) = true ∨ Z34 (Region.before ops) ops i = true) (hd : Nat.blt d n = true)
  (hk : ∀ σ', Has σ' lo hi L → Ops X n dr ops base (i + 1) l (set e d r) σ' K) :
  Ops X n dr ops base i (⟨some d, .call { callee := .value (.func f), args := args, argTypes := ts }, t, p, af, none⟩ :: l) e σ K := by
 obtain ⟨σ', q1, q2⟩ := hf σ lo hi L hs H
 refine .plain (x := r) (σ1 := σ') (by simp only [ZE, Z04, ha, Z2, q1]) (fun h => ?_) hd (hk σ' q2)
 rcases hdr h with this | this
 case inr => exact Z6G this
 simp only [Bool.and_eq_true, Bool.not_eq_true'] at this
 exact ask0 (by simp only [Zl, Z01, ha, Z5I, Z2, pure_calm this.1.1, this.1.2, this.2, Bool.not_false, Bool.and_self])
theorem Ops.callV {cv : PV} {args : Array Operand} {ts : Array TypeId} {ys : List PV} {r : PV} (H : Has σ lo hi L) (hx : Z2 X e x = some cv) (ha : Zi X e args.toList = some ys) (hf : CloH X cv ys r C) (hs : Sub C L)
  (hdr : dr = true → Z34 (Region.before ops) ops i = true) (hd : Nat.blt d n = true)
  (hk : ∀ σ', Has σ' lo hi L → Ops X n dr ops base (i + 1) l (set e d r) σ' K) :
  Ops X n dr ops base i (⟨some d, .call { callee := .value x, args := args, argTypes := ts }, t, p, af, none⟩ :: l) e σ K := by
 obtain ⟨σ', q1, q2⟩ := hf σ lo hi L hs H
 refine .plain (x := r) (σ1 := σ') ?_ (fun h => Z6G (hdr h)) hd (hk σ' q2)
 simp only [ZE, Z04, ha, hx]
 unfold Dn.callV at q1
 split at q1
 ·exact q1
 ·exact q1
 ·cases q1
end
end Go.Dn

namespace Go.Dn
open Go Go.ChangeShapes
def consec (P : Program) : Nat → List Field → Option Nat
 | o, [] => some o
 | o, f :: fs => if f.offset = o then consec P (o + P.cellsOf f.type) fs else none
def supp (P : Program) : Nat → TypeId → Bool
 | 0, _ => false
 | d + 1, t =>
  match P.underlying t with
  | some .bool => P.cellsOf t == 1
  | some (.int _) => P.cellsOf t == 1
  | some .string => P.cellsOf t == 1
  | some (.slice e) => P.cellsOf t == 1 && P.cellsOf e != 0 && supp P d e
  | some (.struct fs) => fs.toList.all (fun f => supp P d f.type) && (consec P 0 fs.toList == some (P.cellsOf t))
  | _ => false
def OKC (P : Program) : Nat → TypeId → List FV → Prop
 | 0, _, _ => False
 | d + 1, t, ys =>
  match P.underlying t with
  | some .bool => ∃ b, ys = [.bool b]
  | some (.int k) => ∃ m, ys = [.int k m] ∧ (Lit.int k m).wf = true
  | some .string => ∃ s, ys = [.str s] ∧ s.size ≤ maxLen
  | some (.slice e) => ∃ xs, ys = [.sl xs] ∧ xs.length * P.bytesOf e ≤ reachBytes ∧ ∀ x ∈ xs, OKC P d e x
  | some (.struct fs) => ys.length = P.cellsOf t ∧ ∀ f ∈ fs.toList, OKC P d f.type ((ys.drop f.offset).take (P.cellsOf f.type))
  | _ => False
section
variable {H : Type} {enc : TypeId × Value → H} {P : Program} {w : World} {base : Nat} {spare : Nat → Bool} {held : Bool} {Im : Nat → Prop}
def Cov (w : World) (Im : Nat → Prop) (ys : List FV) (cs : List Value) : Prop := ys.length = cs.length ∧ ∀ (i : Nat) (y : FV) (v : Value), ys[i]? = some y → cs[i]? = some v → FVR w Im y v
theorem Cov.one {y : FV} {v : Value} (h : FVR w Im y v) : Cov w Im [y] [v] := ⟨rfl, fun i y' v' hy hv => by
 cases i with
 | zero => cases hy; cases hv; exact h
 | succ i => simp at hy⟩
theorem consec_le : ∀ {fs : List Field} {o m : Nat}, consec P o fs = some m → o ≤ m
 | [], o, m, h => by simp [consec] at h; omega
 | f :: fs, o, m, h => by
  simp only [consec] at h
  split at h
  ·have := consec_le h; omega
  ·cases h
theorem fields_ok {d n : Nat} {cs : List Value} (ih : ∀ (t : TypeId) (cs : List Value) (x : DataW H × List MemPlace), supp P d t = true → DataW.trod enc P w base spare held n t cs = some x → (∀ p ∈ x.2, Im p.block) → (∀ n ∈ x.1.weights P t, n ≤ reachBytes) → ∃ ys, Cov w Im ys cs ∧ OKC P d t ys) :
  ∀ (fs : List Field) (o m : Nat), consec P o fs = some m → m ≤ cs.length → (∀ f ∈ fs, supp P d f.type = true) →
   (∀ f ∈ fs, ∃ x, DataW.trod enc P w base spare held n f.type ((cs.drop f.offset).take (P.cellsOf f.type)) = some x ∧ (∀ p ∈ x.2, Im p.block) ∧ ∀ n ∈ x.1.weights P f.type, n ≤ reachBytes) →
   ∃ ys, Cov w Im ys ((cs.drop o).take (m - o)) ∧ ∀ f ∈ fs, o ≤ f.offset ∧ OKC P d f.type ((ys.drop (f.offset - o)).take (P.cellsOf f.type))
 | [], o, m, hc, hm, _, _ => by
  simp [consec] at hc;subst hc;exact ⟨[], ⟨by simp, by simp⟩, by simp⟩
 | f :: fs, o, m, hc, hm, hs, hx => by
  simp only [consec] at hc
  split at hc
  ·rename_i ho;subst ho;obtain ⟨x, hx1, hx2, hx3⟩ := hx f List.mem_cons_self
   obtain ⟨ys, ⟨hl, hv⟩, hok⟩ := ih f.type _ x (hs f List.mem_cons_self) hx1 hx2 hx3
   have hle := consec_le hc
   obtain ⟨zs, ⟨hl2, hv2⟩, hok2⟩ := fields_ok ih fs _ m hc hm (fun g hg => hs g (List.mem_cons_of_mem _ hg)) (fun g hg => hx g (List.mem_cons_of_mem _ hg))
   simp only [List.length_take, List.length_drop] at hl hl2;have hy : ys.length = P.cellsOf f.type := by omega
   refine ⟨ys ++ zs, ⟨by simp only [List.length_append, List.length_take, List.length_drop]; omega, fun i y v h1 h2 => ?_⟩, fun g hg => ?_⟩
   ·by_cases hi : i < ys.length
    ·rw [List.getElem?_append_left hi] at h1;refine hv i y v h1 ?_;rw [List.getElem?_take] at h2 ⊢;rw [if_pos (by omega)] at h2 ⊢
     exact h2
    ·rw [List.getElem?_append_right (by omega)] at h1
     have hi2 : i - ys.length < zs.length := by
      rcases Nat.lt_or_ge (i - ys.length) zs.length with h | h
      ·exact h
      ·rw [List.getElem?_eq_none h] at h1; cases h1
     refine hv2 (i - ys.length) y v h1 ?_;rw [List.getElem?_take, List.getElem?_drop] at h2 ⊢;rw [if_pos (by omega)] at h2 ⊢
     rw [← h2]
     congr 1; omega
   ·rcases List.mem_cons.1 hg with rfl | hg
    ·refine ⟨Nat.le_refl _, ?_⟩;rw [Nat.sub_self, List.drop_zero, List.take_append_of_le_length (by omega), List.take_of_length_le (by omega)]
     exact hok
    ·obtain ⟨h1, h2⟩ := hok2 g hg
     refine ⟨by omega, ?_⟩
     have : (ys ++ zs).drop (g.offset - f.offset) = zs.drop (g.offset - (f.offset + P.cellsOf f.type)) := by
      rw [List.drop_append, List.drop_eq_nil_of_le (by omega), List.nil_append]
      congr 1; omega
     rw [this];exact h2
  ·cases hc
theorem Z90 {e : TypeId} : ∀ {ds : List (DataW H)} {d : DataW H}, d ∈ ds → ∀ n ∈ d.weights P e, n ∈ DataW.weightsAll P e ds
 | d0 :: ds, d, h, n, hn => by
  simp only [DataW.weightsAll, List.mem_append]
  rcases List.mem_cons.1 h with rfl | h
  ·exact .inl hn
  ·exact .inr (Z90 h n hn)
def Sized (P : Program) (t : TypeId) (d : DataW H) : Prop := ∀ n ∈ d.weights P t, n ≤ reachBytes
theorem OKC.length : ∀ {d : Nat} {t : TypeId} {ys : List FV}, supp P d t = true → OKC P d t ys → ys.length = P.cellsOf t
 | 0, t, ys, h, _ => by simp [supp] at h
 | d + 1, t, ys, h, ho => by
  unfold supp at h;unfold OKC at ho
  split at h
  all_goals (rename_i hu; simp only [hu] at ho)
  ·obtain ⟨b, rfl⟩ := ho; simp at h; simp [h]
  ·obtain ⟨b, rfl, _⟩ := ho; simp at h; simp [h]
  ·obtain ⟨b, rfl, _⟩ := ho; simp at h; simp [h]
  ·obtain ⟨b, rfl, _⟩ := ho; simp at h; simp [h]
  ·exact ho.1
theorem Z7a : ∀ (d n : Nat) (t : TypeId) (cs : List Value) (x : DataW H × List MemPlace), supp P d t = true → DataW.trod enc P w base spare held n t cs = some x → (∀ p ∈ x.2, Im p.block) → (∀ n ∈ x.1.weights P t, n ≤ reachBytes) → ∃ ys, Cov w Im ys cs ∧ OKC P d t ys
 | 0, n, t, cs, x, hs, h, hp, hw => by simp [supp] at hs
 | d + 1, n, t, cs, x, hs, h, hp, hw => by
  unfold supp at hs
  split at hs
  ·rename_i hu;cases n with
   | zero => simp [DataW.trod] at h
   | succ n =>
    simp only [DataW.trod, hu] at h
    split at h <;> simp_all
    rename_i b;exact ⟨[.bool b], Cov.one (.bool b), by simp [OKC, hu]⟩
  ·rename_i k hu;cases n with
   | zero => simp [DataW.trod] at h
   | succ n =>
    simp only [DataW.trod, hu] at h
    split at h <;> try (simp_all; done)
    rename_i k2 m he1 ;simp only [Option.some.injEq, TypeDesc.int.injEq] at he1;subst he1
    split at h
    ·rename_i k' n' hk;obtain ⟨rfl, hwf⟩ := hk
     exact ⟨[.int _ _], Cov.one (.int _ _), by simp [OKC, hu, hwf]⟩
    ·cases h
  ·rename_i hu;cases n with
   | zero => simp [DataW.trod] at h
   | succ n =>
    simp only [DataW.trod, hu] at h
    split at h <;> try (simp_all; done)
    split at h
    ·rename_i s hk;exact ⟨[.str _], Cov.one (.str _), by simp [OKC, hu, hk]⟩
    ·cases h
  ·rename_i e hu;simp only [Bool.and_eq_true, beq_iff_eq, bne_iff_ne, ne_eq] at hs
   rcases DataW.trod_slice hu h with ⟨rfl, rfl⟩ | ⟨a, len, cap, elems, rest, m, rfl, rfl, rfl, hb, hl, hm, hlen, hel, hsp, hns⟩
   ·exact ⟨[.sl []], Cov.one .nil, by simp [OKC, hu]⟩
   ·by_cases h0 : len = 0
    ·subst h0;exact ⟨[.sl []], Cov.one (.empty a cap), by simp [OKC, hu]⟩
    ·have each : ∀ i, i < len → ∃ cs' ys, w.cells? base (a.add (i * P.cellsOf e)) (P.cellsOf e) = some cs' ∧ Cov w Im ys cs' ∧ OKC P d e ys := by
      intro i hi;have h1 := hel i hi
      obtain ⟨y, hy⟩ : ∃ y, elems[i]? = some y := ⟨_, List.getElem?_eq_getElem (by omega)⟩
      rw [hy, Option.bind_eq_some_iff] at h1;obtain ⟨cs', hcs, ht⟩ := h1
      obtain ⟨ys, h2, h3⟩ := Z7a d m e cs' y hs.2 ht (fun p hpm => hp p (by
       refine List.mem_append_right _ (List.mem_flatMap.2 ⟨y, List.mem_append_left _ (List.mem_of_getElem? hy), hpm⟩))) (fun n hn => hw n (by
       simp only [DataW.weights, hu, List.mem_cons, List.mem_append];exact .inr (.inl (Z90 (List.mem_map.2 ⟨y, List.mem_of_getElem? hy, rfl⟩) n hn))))
      exact ⟨cs', ys, hcs, h2, h3⟩
     let F : Nat → List FV := fun i => if hi : i < len then (each i hi).choose_spec.choose else []
     let C : Nat → List Value := fun i => if hi : i < len then (each i hi).choose else []
     have hF : ∀ i, i < len → w.cells? base (a.add (i * P.cellsOf e)) (P.cellsOf e) = some (C i) ∧ Cov w Im (F i) (C i) ∧ OKC P d e (F i) := by
      intro i hi;simp only [F, C, dif_pos hi];exact (each i hi).choose_spec.choose_spec
     have hFl : ∀ i, i < len → (F i).length = P.cellsOf e := fun i hi => OKC.length hs.2 (hF i hi).2.2
     have hxs : ∀ y ∈ (List.range len).map F, ∃ i, i < len ∧ y = F i := fun y hy => by
      obtain ⟨i, hi, rfl⟩ := List.mem_map.1 hy
      exact ⟨i, List.mem_range.1 hi, rfl⟩
     refine ⟨[.sl ((List.range len).map F)], Cov.one ?_, ?_⟩
     ·by_cases hz : P.cellsOf e = 0
      ·exact absurd hz hs.1.2
      ·have hsp0 : a.spot = none := by
        have h1 := (World.cells?_some (hF 0 (by omega)).1).2.2 0 (by omega)
        have hl0 := (World.cells?_some (hF 0 (by omega)).1).2.1
        simp only [Nat.zero_mul, Addr.add, if_true] at h1;unfold World.cell? at h1
        split at h1
        ·split at h1
         ·have : (C 0)[0]? = none := h1.symm
          rw [List.getElem?_eq_none_iff] at this;omega
         ·rename_i hq; simpa using hq
        ·have : (C 0)[0]? = none := h1.symm
         rw [List.getElem?_eq_none_iff] at this;omega
       obtain ⟨bl, off, spot⟩ := a
       simp only at hsp0;subst hsp0;have hcov := FVR.sl (w := w) (Imm := Im) ((List.range len).map F) bl off cap (P.cellsOf e) (fun i j => (C i).getD j Go.undef) ?_ (by simpa using hl) (fun y hy => by
        obtain ⟨i, hi, rfl⟩ := hxs y hy; exact hFl i hi) (fun i j hi hj => ?_) (fun i j y x h1 h2 => ?_)
       ·simpa using hcov
       ·refine hp (.cell bl (off + 0)) (List.mem_append_left _ ?_);simp only [MemPlace.row, List.mem_map, List.mem_range];refine ⟨0, ?_, rfl⟩;exact Nat.mul_pos (by omega) (by omega)
       ·simp only [List.length_map, List.length_range] at hi;have h1 := (World.cells?_some (hF i hi).1).2.2 j hj
        have hl0 := (World.cells?_some (hF i hi).1).2.1
        have e1 : (Addr.add (Addr.add ⟨bl, off, none⟩ (i * P.cellsOf e)) j) = ⟨bl, off + i * P.cellsOf e + j, none⟩ := by
         simp only [Z3h]
        rw [e1] at h1;rw [h1, List.getElem?_eq_getElem (by omega)]
        simp [List.getD, List.getElem?_eq_getElem (show j < (C i).length by omega)]
       ·rw [List.getElem?_map, Option.map_eq_some_iff] at h1;obtain ⟨i', hi', rfl⟩ := h1
        have hi2 := List.mem_range.1 (List.mem_of_getElem? hi')
        have : i' = i := by
         rw [List.getElem?_eq_some_iff] at hi';obtain ⟨q1, q2⟩ := hi'
         simpa using q2.symm
        subst this;have hj : j < (C i').length := by
         rw [← (hF i' hi2).2.1.1]; exact (List.getElem?_eq_some_iff.1 h2).1
        refine (hF i' hi2).2.1.2 j x _ h2 ?_;rw [List.getElem?_eq_getElem hj];simp [List.getD, List.getElem?_eq_getElem hj]
     ·simp only [OKC, hu];refine ⟨_, rfl, ?_, fun y hy => ?_⟩
      ·have h1 := hw ((elems.length + rest.length) * P.bytesOf e) (by simp [DataW.weights, hu])
       refine Nat.le_trans (Nat.mul_le_mul_right _ ?_) h1
       simp; omega
      obtain ⟨i, hi, rfl⟩ := hxs y hy
      exact (hF i hi).2.2
  ·rename_i fs hu;simp only [Bool.and_eq_true, beq_iff_eq, List.all_eq_true] at hs;obtain ⟨xs, m, rfl, rfl, hl, hx, hf⟩ := DataW.trod_struct hu h
   obtain ⟨ys, hc, ho⟩ := fields_ok (cs := cs) (fun t cs x h1 h2 h3 h4 => Z7a d m t cs x h1 h2 h3 h4) fs.toList 0 (P.cellsOf t) hs.2 (by omega) hs.1 (fun f hfm => by
    obtain ⟨i, hi⟩ := List.getElem?_of_mem hfm
    have hi' : fs[i]? = some f := by simpa using hi
    have h1 := hf i f hi'
    have hlt : i < xs.length := by
     have := (Array.getElem?_eq_some_iff.1 hi').1
     omega
    rw [List.getElem?_eq_getElem hlt] at h1;exact ⟨_, h1, fun p hpm => hp p (List.mem_flatMap.2 ⟨_, List.getElem_mem hlt, hpm⟩), fun n hn => hw n (by
     simp only [DataW.weights, hu];exact DataW.weights_mem_each (j := i) (t := f.type) (d := (xs[i]).1) (by simp [hi]) (by simp [hlt]) n hn)⟩)
   rw [List.drop_zero, Nat.sub_zero, List.take_of_length_le (by omega)] at hc
   refine ⟨ys, hc, ?_⟩;simp only [OKC, hu];exact ⟨hc.1.trans hl, fun f hfm => by simpa using (ho f hfm).2⟩
  ·cases hs
end
def okI (k : IntKind) (x : Int) : Prop := k.min ≤ x ∧ x ≤ k.max
def okB (_ : Bool) : Prop := True
def okS (x : ByteArray) : Prop := x.size ≤ maxLen
def okL {α : Type} (b : Nat) (p : α → Prop) (xs : List α) : Prop := xs.length * b ≤ reachBytes ∧ ∀ x ∈ xs, p x
def Dec (P : Program) {α : Type} (t : TypeId) (c : α → List FV) (ok : α → Prop) : Prop := ∀ d ys, OKC P d t ys → ∃ x, ys = c x ∧ ok x
section
variable {P : Program} {t e : TypeId}
theorem Dec.int {k : IntKind} (h : P.underlying t = some (.int k)) : Dec P t (cI k) (okI k) := fun d ys ho => by
 cases d with
 | zero => exact ho.elim
 | succ d =>
  simp only [OKC, h] at ho;obtain ⟨m, rfl, hw⟩ := ho
  exact ⟨m, rfl, by simpa [Lit.wf, okI] using hw⟩
theorem Dec.bool (h : P.underlying t = some .bool) : Dec P t cB okB := fun d ys ho => by
 cases d with
 | zero => exact ho.elim
 | succ d =>
  simp only [OKC, h] at ho;obtain ⟨m, rfl⟩ := ho
  exact ⟨m, rfl, trivial⟩
theorem Dec.str (h : P.underlying t = some .string) : Dec P t cS okS := fun d ys ho => by
 cases d with
 | zero => exact ho.elim
 | succ d =>
  simp only [OKC, h] at ho;obtain ⟨m, rfl, hw⟩ := ho
  exact ⟨m, rfl, hw⟩
theorem Dec.sl {α : Type} {c : α → List FV} {ok : α → Prop} {b : Nat} (h : P.underlying t = some (.slice e)) (hb : P.bytesOf e = b) (he : Dec P e c ok) : Dec P t (cL c) (okL b ok) := fun d ys ho => by
 cases d with
 | zero => exact ho.elim
 | succ d =>
  simp only [OKC, h] at ho;obtain ⟨xs, rfl, hl, hx⟩ := ho
  have : ∀ xs : List (List FV), (∀ x ∈ xs, OKC P d e x) → ∃ as_ : List α, xs = as_.map c ∧ ∀ a ∈ as_, ok a := by
   intro xs
   induction xs with
   | nil => intro _; exact ⟨[], rfl, by simp⟩
   | cons x xs ih =>
    intro hx;obtain ⟨a, rfl, ha⟩ := he d x (hx x List.mem_cons_self)
    obtain ⟨as_, rfl, has⟩ := ih fun y hy => hx y (List.mem_cons_of_mem _ hy)
    exact ⟨a :: as_, rfl, fun b hb => by
     rcases List.mem_cons.1 hb with rfl | hb
     ·exact ha
     ·exact has b hb⟩
  obtain ⟨as_, rfl, has⟩ := this xs hx
  exact ⟨as_, rfl, by subst hb; simpa using hl, has⟩
theorem fld (ys : List FV) (o s : Nat) : (ys.drop o).take s ++ ys.drop (o + s) = ys.drop o := by
 rw [← List.drop_drop]; exact List.take_append_drop s (ys.drop o)
theorem fld_nil {ys : List FV} {n : Nat} (h : ys.length = n) : ys.drop n = [] := List.drop_eq_nil_of_le (by omega)
end
theorem pvr_agg {P : Program} {t : TypeId} {W : World} {base : Nat} {v : Value} {s : St} {ys : List FV} {fs : Array Field} (hu : P.underlying t = some (.struct fs)) (hval : Value.okWide P W .any base t v) (hs : s.w = W) (hc : Cov W s.imm ys v.cells.toList) : PVR s (.agg (vs ys)) v := by
 unfold Value.okWide at hval
 rw [hu] at hval
 obtain ⟨cs, rfl, _, _⟩ := hval
 obtain ⟨hl, hc⟩ := hc
 subst hs
 simp only [Value.cells, Array.length_toList] at hl hc
 have each : ∀ (i : Nat) (u : Value), cs[i]? = some u → ∃ y, ys[i]? = some y ∧ FVR s.w s.imm y u := fun i u hu => by
  have hi := (Array.getElem?_eq_some_iff.1 hu).1
  exact ⟨ys[i], List.getElem?_eq_getElem (by omega), hc i _ u (List.getElem?_eq_getElem (by omega)) (by simpa using hu)⟩
 refine .agg (by rw [Z1B]; exact hl) (fun i x hx => ?_) (fun i u hu => (each i u hu).choose_spec.2.Z4N)
 rw [vs_get, Option.map_eq_some_iff] at hx
 obtain ⟨y, hy, rfl⟩ := hx
 have hi := (List.getElem?_eq_some_iff.1 hy).1
 refine .v (hc i y _ hy ?_)
 rw [Array.getElem?_toList, Array.getElem?_eq_getElem (by omega), Array.getD_eq_getD_getElem?, Array.getElem?_eq_getElem (by omega)]
 rfl
theorem pvr_one {P : Program} {t : TypeId} {W : World} {base : Nat} {v : Value} {s : St} {y : FV} (hu : (match P.underlying t with | some .bool | some (.int _) | some .string | some (.slice _) => true | _ => false) = true) (hval : Value.okWide P W .any base t v) (hs : s.w = W) (hc : Cov W s.imm [y] v.cells.toList) : PVR s (.v y) v := by
 subst hs
 have hv : v.cells.toList = [v] := by
  unfold Value.okWide Cell.okWide Cell.ok at hval
  split at hu
  all_goals (first | (rename_i h1; rw [h1] at hval) | skip)
  ·cases v <;> first | rfl | exact hval.elim
  ·cases v <;> first | rfl | exact hval.elim
  ·cases v <;> first | rfl | exact hval.elim
  ·cases v <;> first | rfl | exact hval.elim
  ·cases hu
 rw [hv] at hc
 exact .v (hc.2 0 y v rfl rfl)
end Go.Dn

namespace Go.Dn
open Go
def cloneA (t b : TypeId) : Code := .region 0 #[{ dst := some 2, op := .assign (.const (.slice none 0 0)), type := t, pos := "slices.go:355", after := #[], guard := none }] false
def Z3j (t b : TypeId) : Array Oper := #[{ dst := some 3, op := .move (.tmp 0), type := t, pos := "slices.go:357", after := #[], guard := none },
 { dst := some 4, op := .binOp .eql t (.tmp 3) (.const (.slice none 0 0)) t, type := b, pos := "slices.go:357", after := #[{ on := 0, ground := .data }], guard := none }]
def cloneC (t : TypeId) : Code := .cond (.tmp 4) ((Code.region 2 #[{ dst := some 2, op := .assign (.const (.slice none 0 0)), type := t, pos := "slices.go:358", after := #[], guard := none }] false).seq .ret) .skip
def cloneD (t : TypeId) : Code := (Code.region 3
 #[{ dst := some 5, op := .buildSlice t 0 #[], type := t, pos := "slices.go:362", after := #[], guard := none },
  { dst := some 6, op := .move (.tmp 0), type := t, pos := "slices.go:362", after := #[], guard := none },
  { dst := some 7, op := .call { callee := .builtin .append, args := #[.tmp 5, .tmp 6], argTypes := #[t, t] }, type := t, pos := "slices.go:362", after := #[{ on := 0, ground := .data }, { on := 1, ground := .data }], guard := none },
  { dst := some 2, op := .assign (.tmp 7), type := t, pos := "slices.go:362", after := #[{ on := 2, ground := .data }, { on := 2, ground := .chain }, { on := 0, ground := .phase }, { on := 1, ground := .phase }, { on := 2, ground := .phase }], guard := none }] false).seq .ret
def cloneBody (t b : TypeId) : Code := (cloneA t b).seq (((Code.region 1 (Z3j t b) false).seq (cloneC t)).seq (cloneD t))
structure CloneT (P : Program) (t el : TypeId) (sz by_ : Nat) (zs : List PV) : Prop where
 ht : tslice P t = some el
 hs : tsize P el = some sz
 hb : tbytes P el = some by_
 hz : tzero P el = some zs
 hc : (sz != 0 && by_ != 0 && zs.length == sz) = true
variable {X : Ctx} {fn : FuncId} {t b el : TypeId} {sz by_ : Nat} {zs : List PV}
theorem cloneD_runs (hT : CloneT X.P t el sz by_ zs) {xs : List (List FV)} (hl : xs.all (fun y => y.length == sz) = true) (hroom : xs.length * by_ ≤ room) {e : Env} {σ : Heap} (h0 : e 0 = .v (.sl xs)) :
  Runs X 8 fn (cloneD t) e σ fun x e' σ' => x = .ret ∧ ∃ (lo hi : Nat) (L : List Res) (k : Nat), Has σ' lo hi L ∧ L[k]? = some (.sl (e' 2) el sz xs true) := by
 have hc := hT.hc
 simp only [Bool.and_eq_true, beq_iff_eq, bne_iff_ne, ne_eq] at hc
 have H : Hs σ [] := Has.nil (Nat.le_refl _)
 obtain ⟨e0, rfl⟩ := (show Z5 e [(0, .v (.sl xs))] from ⟨h0, trivial⟩).ex
 show Runs X 8 fn (Code.seq _ _) _ _ _
 apply Runs.then
 refine Runs.Z0 4 rfl H ?_; intro b1 σ H
 refine Ops.Z2C (zs := zs) (sz := sz) (pp := []) [] H (by omega) (by omega) hT.ht rfl hT.hs hT.hz (by simp only [Bool.and_eq_true, beq_iff_eq, bne_iff_ne, ne_eq]; exact ⟨⟨hc.2, hc.1.1⟩, by simp⟩) rfl rfl rfl rfl ?_; intro σ H
 refine Ops.move (v := .v (.sl xs)) rfl rfl ?_
 refine Ops.appendS (v := .buf (b1 + 0) 0 sz) (w := .v (.sl xs)) (xs := []) (ys := xs) H (by omega) (by omega) 0 rfl rfl rfl (.p hl) hT.ht hT.hs hT.hb hT.hz hT.hc (by simpa using hroom) nofun rfl ?_; intro w σ H
 refine Ops.assign (v := w) rfl rfl ?_
 apply Ops.nil
 apply Runs.ret
 exact ⟨rfl, _, _, _, 0, H, rfl⟩
theorem cloneOps_wp {s : St} {e : Env} {a : Act} (hX : CtxOK X) (hG : Z0T X s) (hi : Inv s) (he : EnvR s 8 e a) (hT : CloneT X.P t el sz by_ zs) {xs : List (List FV)} (h0 : e 0 = .v (.sl xs)) {Q : Exit → Act → World → Prop}
  (hQ : ∀ (o : Option Addr) (a' : Act) (w' : World) (ι' : Nat → Nat), (o = none → xs = []) → Then s 8 a (putD 8 (putD 8 e (some 3) (.v (.sl xs))) (some 4) (.v (.bool o.isNone))) ⟨s.σ.nx + 2, s.σ.ent⟩ a' w' ι' → Q .normal a' w') :
  (Code.region 1 (Z3j t b) false).wp X.P Q a s.w := by
 refine (wpIn_wide (n := 0)).1 (wpIn_region ?_)
 have hi' := Z5s hi 2
 have he' := he.mono (Z2O (s := s) 2)
 have hG' := hG.mono (Z2O (s := s) 2)
 have st : Z0v X (Z0N X) 8 (Z3j t b) s.σ.nx 0 { dst := some 3, op := .move (.tmp 0), type := t, pos := "slices.go:357", after := #[], guard := none } e (s.more 2).σ = some (putD 8 e (some 3) (.v (.sl xs)), (s.more 2).σ) := by
  simp only [Z0v, Z0J, ZE, Z2, h0, Option.map_some, Option.bind_some]
 have first := stepO_ok (m := 0) (Q := Q) (rd := none) (s := s.more 2) (a := a) (callL_ok hX) hG' hi' he' (hi.nx _ (by omega)) (by simp only [St.more]; omega) st (K := wpOpsIn (Fw none) 0 X.P (Z3j t b) Q [1]) ?_
 ·have h0' : (Z3j t b)[0]? = some { dst := some 3, op := .move (.tmp 0), type := t, pos := "slices.go:357", after := #[], guard := none } := rfl
  have hr : List.range (Z3j t b).size = [0, 1] := rfl
  rw [hr];simp only [wpOpsIn, h0'];exact first
 ·intro a1 w1 ι1 ht;have hn := ht.env
  have hw : Region.wanted ⟨some 4, .binOp .eql t (.tmp 3) (.const (.slice none 0 0)) t, b, "slices.go:357", #[{ on := 0, ground := .data }], none⟩ (yielded (Z3j t b) a1.tmps) = true := rfl
  have h1' : (Z3j t b)[1]? = some ⟨some 4, .binOp .eql t (.tmp 3) (.const (.slice none 0 0)) t, b, "slices.go:357", #[{ on := 0, ground := .data }], none⟩ := rfl
  simp only [wpOpsIn, h1'];rw [if_pos hw];have hp : PVR ⟨w1, (s.more 2).Y, (s.more 2).σ, ι1⟩ (.v (.sl xs)) (a1.eval (.tmp 3)) := by
   refine ZD (X := X) (hG.mono ((Z2O (s := s) 2).trans ht.ev)) hn ?_
   simp [Z2, putD, upd]
  obtain ⟨o, cap, hv, hcap, hf⟩ := sl_inv hp
  have hs : ∀ o4 : Oper, o4 = ⟨some 4, .binOp .eql t (.tmp 3) (.const (.slice none 0 0)) t, b, "slices.go:357", #[{ on := 0, ground := .data }], none⟩ → o4.uponIn (Fw none) 0 X.P a1 (Z5z ⟨w1, (s.more 2).Y, (s.more 2).σ, ι1⟩ a1 (some 4) (.v (.bool o.isNone)) (s.more 2).σ) Q ((o4.semAt (Fw none).round a1.eval).run X.P w1) := by
   intro o4 ho4;have hop : o4.op = .binOp .eql t (.tmp 3) (.const (.slice none 0 0)) t := by rw [ho4]
   have hd4 : o4.dst = some 4 := by rw [ho4]
   rw [Oper.semAt_eq _ _ _ (by intro c hc; rw [hop] at hc; cases hc)]
   simp only [execOp, hop];rw [← hd4];refine Z1f (s := ⟨w1, (s.more 2).Y, (s.more 2).σ, ι1⟩) ht.inv ?_
   rw [hv];have hg : (eqGuard .eql t (.tmp 3) (.const (.slice none 0 0)) (.slice o xs.length cap) (.slice none 0 0)).run X.P w1 = .ok () w1 := by simp [eqGuard]
   refine ⟨.bool o.isNone, ?_, .v (.bool _)⟩
   show (do eqGuard .eql t (.tmp 3) (.const (.slice none 0 0)) (.slice o xs.length cap) (.slice none 0 0); binOp .eql t (.slice o xs.length cap) (.slice none 0 0) : Sem Value).run X.P w1 = _
   simp only [Sem.run_bind, hg, Result.andThen_ok];exact (Z4B (eqNil 9999 (Z1C hT.ht) o xs.length cap w1) (.inr (.inr ⟨_, _, _, _, _, _, rfl, rfl⟩))).1
  refine Oper.wpIn_mono (K := Z5z ⟨w1, (s.more 2).Y, (s.more 2).σ, ι1⟩ a1 (some 4) (.v (.bool o.isNone)) (s.more 2).σ) (fun a' w' hh => ?_) ⟨fun _ _ => trivial, hs _ rfl⟩
  obtain ⟨v, rfl, ι', h2, h3, h4⟩ := hh
  refine hQ o _ w' ι' (fun ho => ?_) ⟨h2, ((Z2O (s := s) 2).trans ht.ev).trans h3, (hn.mono h3).put h4, (Z6q _ _ _).trans ht.defers⟩
  subst ho;generalize hz : Value.slice none xs.length cap = z at hf;cases hf with
  | nil => rfl
  | empty => rfl
  | sl => cases hz
theorem clone_calls (hX : CtxOK X) {f : FuncId} {fu : Func} (hf : X.P.funcs[f]? = some fu) (hb : fu.body = some (cloneBody t b)) (hn : fu.ntmps = 8) (hr : fu.results = #[.tmp 2]) (hg : ∀ g, X.glob g = none)
  (hT : CloneT X.P t el sz by_ zs) {s : St} (hi : Inv s) {xs : List (List FV)} {v : Value} (hl : xs.all (fun y => y.length == sz) = true) (hroom : xs.length * by_ ≤ room) (hv : PVR s (.v (.sl xs)) v) :
  Calls X.P f #[v] s.w fun en w' => ∃ v', en = .returned v' ∧ Post s (.v (.sl xs)) s.σ v' w' := by
 have hv1 : PVRs s.under [.v (.sl xs)] #[v] := ⟨rfl, fun i x hx => by
  cases i with
  | zero => cases hx; exact Z85 rfl hv
  | succ i => simp at hx⟩
 have hiu := Z8c hi
 have he := env_of (s := s.under) (k := 8) hv1
 have hG : ∀ s, Z0T X s := fun s g cells h => by rw [hg] at h; cases h
 refine (callsIn_wide (n := 0)).1 (callsIn_of_wp_marks hf hb trivial ?_ rfl)
 rw [hn]
 refine wpIn_wide.2 ?_
 have fin : ∀ e σ a' w ι (σ3 : Heap), Aft s.under 8 { tmps := #[v] ++ Array.replicate (8 - (#[v] : Array Value).size) undef, defers := [] } e σ a' w ι → Z1M σ (e 2) = some (.v (.sl xs), σ3) →
   bodyPostM Fence.wide 0 X.P fu (fun en w' => ∃ v', en = .returned v' ∧ Post s (.v (.sl xs)) s.σ v' w') .ret a' w := by
  intro e σ a' w ι σ3 ht h4;refine leaves_ok (X := X) (fu := fu) (xs := [e 2]) rfl ht (by rw [hr]; rfl) fun v w' hp => ⟨v, rfl, ?_⟩
  exact Z6w hi hp h4
 refine wp_seq ?_
 refine wp_mono (Z6E (X := X) (s := s.under) hX (fn := f) (hG _) hiu he (Q := fun ex e' σ' => ex = .normal ∧ e' 0 = .v (.sl xs)) ?_) ?_
 ·show Runs X 8 f (Code.region 0 (List.toArray [_]) false) _ ⟨0, fun _ => .none⟩ _
  refine Runs.region rfl ?_;refine Ops.assign (v := .nils) rfl rfl ?_
  exact Ops.nil ⟨rfl, rfl⟩
 rintro ex a1 w1 ⟨x1, e1, σ1, ι1, ⟨rfl, k0⟩, rfl, ht1⟩
 simp only [Ex.out, Exit.then]
 refine wp_seq (wp_seq ?_)
 refine cloneOps_wp (s := ⟨w1, s.under.Y, σ1, ι1⟩) hX (hG _) ht1.inv ht1.env hT k0 ?_
 intro o a2 w2 ι2 ho ht2
 have ht12 := ht1.trans ht2.aft
 simp only [Exit.then]
 generalize he2 : putD 8 (putD 8 e1 (some 3) (.v (.sl xs))) (some 4) (.v (.bool o.isNone)) = e2 at ht2 ht12
 have q0 : e2 0 = .v (.sl xs) := by rw [← he2]; simpa [putD, upd] using k0
 have q4 : e2 4 = .v (.bool o.isNone) := by rw [← he2]; simp [putD, upd]
 refine wp_mono (Z6E (X := X) (s := ⟨w2, s.under.Y, ⟨σ1.nx + 2, σ1.ent⟩, ι2⟩) hX (fn := f) (hG _) ht2.inv ht2.env (Q := fun ex e' σ' => (xs = [] ∧ ex = .ret ∧ e' 2 = .nils) ∨ (ex = .normal ∧ e' 0 = .v (.sl xs))) ?_) ?_
 ·cases o with
  | none =>
   refine Runs.yes (by simp only [Z2, q4]; rfl) ?_
   refine Runs.then ?_;refine Runs.region (l := [_]) rfl ?_
   refine Ops.assign (v := .nils) rfl rfl ?_
   refine Ops.nil ?_;refine Runs.ret ?_;exact .inl ⟨ho rfl, rfl, rfl⟩
  | some o =>
   refine Runs.no (by simp only [Z2, q4]; rfl) ?_
   exact Runs.skip (.inr ⟨rfl, q0⟩)
 rintro ex a3 w3 ⟨x3, e3, σ3, ι3, hq, rfl, ht3⟩
 have ht13 := ht12.trans ht3
 rcases hq with ⟨rfl, rfl, k2⟩ | ⟨rfl, k3⟩
 ·simp only [Ex.out, Exit.then];exact fin e3 σ3 a3 w3 ι3 σ3 ht13 (by rw [k2]; rfl)
 ·simp only [Ex.out, Exit.then];refine wp_mono (Z6E (X := X) (s := ⟨w3, s.under.Y, σ3, ι3⟩) hX (fn := f) (hG _) ht3.inv ht3.env (cloneD_runs hT hl hroom k3)) ?_
  rintro ex a4 w4 ⟨x4, e4, σ4, ι4, ⟨rfl, lo, hi4, L, k, H4, hk⟩, rfl, ht4⟩;obtain ⟨σ5, q, _⟩ := expR_ok H4 (ExpR.one (.c (.s k hk)))
  exact fin e4 σ4 a4 w4 ι4 σ5 (ht13.trans ht4) q
end Go.Dn

namespace Go.Dn
open Go
theorem Has.perm {σ : Heap} {lo hi : Nat} {L L' : List Res} (H : Has σ lo hi L) (hp : L.Perm L') : Has σ lo hi L' := by
 have mem : ∀ {A : List Res}, (∀ (k : Nat) (r : Res), A[k]? = some r → r.holds σ) ↔ ∀ r ∈ A, r.holds σ := fun {A} =>
  ⟨fun h r hr => by obtain ⟨k, hk⟩ := List.getElem?_of_mem hr; exact h k r hk, fun h k r hk => h r (List.mem_of_getElem? hk)⟩
 have pw : L.Pairwise (fun r s => ∀ id, r.owner = some id → s.owner ≠ some id) := by
  rw [List.pairwise_iff_getElem];intro i j hi' hj hij;exact H.sep i j _ _ (by omega) (List.getElem?_eq_getElem hi') (List.getElem?_eq_getElem hj)
 have pw' : L'.Pairwise (fun r s => ∀ id, r.owner = some id → s.owner ≠ some id) := (hp.pairwise_iff (fun {a b} h id h1 h2 => h id h2 h1)).1 pw
 refine ⟨mem.2 fun r hr => mem.1 H.holds r (hp.mem_iff.2 hr), fun k r hk => ?_, fun i j r s hij h1 h2 => ?_, H.le⟩
 ·obtain ⟨k', hk'⟩ := List.getElem?_of_mem (hp.mem_iff.2 (List.mem_of_getElem? hk))
  exact H.lt k' r hk'
 ·obtain ⟨hi', rfl⟩ := List.getElem?_eq_some_iff.1 h1
  obtain ⟨hj', rfl⟩ := List.getElem?_eq_some_iff.1 h2
  rw [List.pairwise_iff_getElem] at pw'
  rcases Nat.lt_or_ge i j with h | h
  ·exact pw' i j hi' hj' h
  ·intro id h3 h4;exact pw' j i hj' hi' (by omega) id h4 h3
def pdOf : Ex → Option Code
 | .normal => none
 | .exit t => some (.exit t)
 | .ret => some .ret
theorem Has.slCells {σ : Heap} {lo hi : Nat} {L : List Res} {k : Nat} {v : PV} {et : TypeId} {sz : Nat} {xs : List (List FV)} {lv : Bool} (H : Has σ lo hi L) (h : L[k]? = some (.sl v et sz xs lv)) : v.cells = some [v] := by
 rcases (H.holds k _ h).2 with ⟨rfl, _⟩ | ⟨id, rfl, _⟩ <;> rfl
theorem Runs.env {X : Ctx} {n : Nat} {fn : FuncId} {c : Code} {e : Env} {σ : Heap} {Q : Ex → Env → Heap → Prop} (l : List (Nat × PV)) (he : Z5 e l) (h : ∀ e0, Runs X n fn c (sets e0 l) σ Q) : Runs X n fn c e σ Q := by
 obtain ⟨e0, rfl⟩ := he.ex
 exact h e0
section
variable {X : Ctx}
def YldH (X : Ctx) (id : Nat) {S T : Type} (C : S → List Res → Prop) (pvT : T → List PV) (y : S → T → Option (S × Bool)) : Prop :=
 ∀ s t s' b, y s t = some (s', b) → ∀ σ lo hi O L, C s L → Has σ lo hi (O ++ L) → ∃ σ' L', Z0N X (.yld id) (pvT t) σ = some (.v (.bool b), σ') ∧ C s' L' ∧ Hs σ' (O ++ L')
def ItF (X : Ctx) (f : FuncId) (args : List PV) {S : Type} (C : S → List Res → Prop) (s s' : S) : Prop :=
 ∀ σ L, C s L → Hs σ L → ∃ σ' L', Z0N X (.fn f) args σ = some (.tup [], σ') ∧ C s' L' ∧ Hs σ' L'
structure EndsI {S : Type} (C : S → List Res → Prop) (s : S) (x : Ex) (e : Env) (σ : Heap) : Prop where
 out : (x = .normal ∨ x = .ret) ∧ ∃ L, C s L ∧ Hs σ L
theorem EndsI.H {S : Type} {C : S → List Res → Prop} {s : S} {x : Ex} {e : Env} {σ : Heap} {lo hi : Nat} {L L0 : List Res} (hx : x = .normal ∨ x = .ret) (H : Has σ lo hi L) (k : Nat) (hk : L.drop k = L0) (hC : C s L0) : EndsI C s x e σ :=
 ⟨hx, L0, hC, (hk ▸ H.drop k : Has σ lo hi L0).all⟩
theorem ItF.of {f : FuncId} {args : List PV} {S : Type} {C : S → List Res → Prop} {s s' : S} {fu : Func} {c : Code} {m : Nat} (hf : X.P.funcs[f]? = some fu) (hb : fu.body = some c) (hr : fu.results = #[]) (hi : X.intr f args = none) (hk : X.keep f = false) (ho : X.opn f = false) (hs : args.all PV.still = true)
  (hp : args.all PV.pure = false) (hm : max fu.ntmps args.length = m) (h : ∀ σ L, C s L → Hs σ L → Runs X m f c (Z5U args) σ (EndsI C s')) : ItF X f args C s s' := by
 subst hm
 intro σ L hC H
 obtain ⟨lf, x, e', σ1, h1, hE⟩ := (h σ L hC H).run
 obtain ⟨hx, L', hC', H'⟩ := hE.out
 refine ⟨σ1, L', Z2F (lf := lf) ?_, hC', H'⟩
 have hbody : Z1L X (Z0N X) lf f args σ = some (.tup [], σ1) := by
  simp only [Z1L, hf, hb, h1]
  rcases hx with rfl | rfl <;> simp [hr, Z0H, Z1b]
 simp only [Z42, hi, hk, Bool.false_eq_true, if_false, Z4W hs, ho, hp, hbody, Option.bind_some]
 rfl
section
variable {n : Nat} {dr : Bool} {fn : FuncId} {ops : Array Oper} {base i : Nat} {l : List Oper} {e : Env} {σ : Heap} {K : Env → Heap → Prop} {Q : Ex → Env → Heap → Prop}
variable {d : Nat} {t : TypeId} {p : String} {af : Array Edge} {x : Operand} {lo hi : Nat} {L : List Res}
theorem Ops.callY {S T : Type} {C : S → List Res → Prop} {pvT : T → List PV} {y : S → T → Option (S × Bool)} {id : Nat} {args : Array Operand} {ts : Array TypeId} {s s' : S} {z : T} {b : Bool} (O : List Res) (H : Has σ lo hi (O ++ L)) (hC : C s L) (hx : Z2 X e x = some (.yld id)) (ha : Zi X e args.toList = some (pvT z))
  (hy : YldH X id C pvT y) (hq : y s z = some (s', b)) (hdr : dr = false) (hd : Nat.blt d n = true)
  (hk : ∀ σ' L', C s' L' → Hs σ' (O ++ L') → Ops X n dr ops base (i + 1) l (set e d (.v (.bool b))) σ' K) :
  Ops X n dr ops base i (⟨some d, .call { callee := .value x, args := args, argTypes := ts }, t, p, af, none⟩ :: l) e σ K := by
 obtain ⟨σ', L', q1, q2, q3⟩ := hy _ _ _ _ hq σ lo hi O L hC H
 exact .plain (x := .v (.bool b)) (σ1 := σ') (by simp only [ZE, Z04, ha, hx, q1]) (fun h => by rw [hdr] at h; cases h) hd (hk σ' L' q2 q3)
end
def RangeC (id : Nat) (fn : FuncId) (e : Env) (n : Nat) (ps : List Nat) (as_ bo : Code) {S : Type} (Co : S → List Res → Prop) (pd : Nat → Option Code) : S × Nat → List Res → Prop :=
 fun s L => ∃ M, Co s.1 M ∧ L = .loop id fn e n ps as_ bo (if s.2 = 0 then .ready else .done) (pd s.2) :: M
variable {n : Nat} {fn : FuncId} {e : Env} {σ : Heap} {Q : Ex → Env → Heap → Prop}
def BodyOK (X : Ctx) (n : Nat) (fn : FuncId) (e : Env) (ps : List Nat) (as_ bo : Code) {S T : Type} (Co : S → List Res → Prop) (pvT : T → List PV) (yb : S → T → Option (S × Nat)) (pd : Nat → Option Code) : Prop :=
 ∀ (R0 R1 : Res) s t s' p, yb s t = some (s', p) → ∀ σ M O, Co s M → Hs σ (R0 :: (M ++ O)) →
  Runs X n fn as_ (Z3P e n ps (pvT t)) σ fun x e1 σ1 => x = .normal ∧ ∃ M1, Hs σ1 (R0 :: (M1 ++ O)) ∧
   ∀ σ2, Hs σ2 (R1 :: (M1 ++ O)) → Runs X n fn bo e1 σ2 fun x e2 σ3 => (pdOf x = pd p ∧ (x = .normal ↔ p = 0)) ∧ ∃ M2, Co s' M2 ∧ Hs σ3 (R1 :: (M2 ++ O))
theorem rangeY_ok {S T : Type} {ps : List Nat} {as_ bo : Code} {Co : S → List Res → Prop} {pvT : T → List PV} {yb : S → T → Option (S × Nat)} {pd : Nat → Option Code} (hpd : pd 0 = none) (hlen : ∀ t, ps.length = (pvT t).length) (hpure : ∀ t, (pvT t).all PV.pure = true)
  (hbody : BodyOK X n fn e ps as_ bo Co pvT yb pd) (id : Nat) : YldH X id (RangeC id fn e n ps as_ bo Co pd) pvT (Z2Z yb) := by
 rintro ⟨s, p⟩ t ⟨s', p'⟩ b hy σ lo hi O L ⟨M, hM, rfl⟩ H
 unfold Z2Z at hy
 simp only at hy hM
 split at hy
 ·rename_i hp0;subst hp0;rw [Option.map_eq_some_iff] at hy;obtain ⟨r, hr, he⟩ := hy
  simp only [Prod.mk.injEq] at he;obtain ⟨rfl, rfl⟩ := he
  simp only [if_true, hpd] at H;have H1 : Hs σ (.loop id fn e n ps as_ bo .ready none :: (M ++ O)) := (H.perm (by rw [← List.cons_append]; exact List.perm_append_comm)).all
  obtain ⟨l1, x1, e1, σ1, r1, rfl, M1, H2, hb⟩ := (hbody (.loop id fn e n ps as_ bo .ready none) (.loop id fn e n ps as_ bo .busy none) s t s' p' hr σ M O hM H1).run
  have hent : σ1.ent id = .loop fn e n ps as_ bo .ready none := H2.holds 0 _ rfl
  have H3 : Hs (σ1.put id (.loop fn e n ps as_ bo .busy none)) (.loop id fn e n ps as_ bo .busy none :: (M1 ++ O)) := (H2.put (k := 0) rfl rfl (r' := .loop id fn e n ps as_ bo .busy none) Z1n rfl).all
  obtain ⟨l2, x2, e2, σ3, r2, ⟨hx, hx0⟩, M2, hM2, H4⟩ := (hb _ H3).run
  have hent0 : σ.ent id = .loop fn e n ps as_ bo .ready none := H1.holds 0 _ rfl
  have fin : ∀ (st : LoopState) (pc : Option Code), Hs (σ3.put id (.loop fn e n ps as_ bo st pc)) (O ++ (.loop id fn e n ps as_ bo st pc :: M2)) := fun st pc =>
   ((H4.put (k := 0) rfl rfl (r' := .loop id fn e n ps as_ bo st pc) Z1n rfl).perm (by rw [List.set_cons_zero, ← List.cons_append]; exact List.perm_append_comm)).all
  have call : ∀ (st : LoopState) (pc : Option Code) (b : Bool), (match x2 with
    | .normal => some (PV.v (.bool true), σ3.put id (.loop fn e n ps as_ bo .ready none))
    | .exit t => some (PV.v (.bool false), σ3.put id (.loop fn e n ps as_ bo .done (some (.exit t))))
    | .ret => some (PV.v (.bool false), σ3.put id (.loop fn e n ps as_ bo .done (some .ret)))) = some (.v (.bool b), σ3.put id (.loop fn e n ps as_ bo st pc)) →
    Z0N X (.yld id) (pvT t) σ = some (.v (.bool b), σ3.put id (.loop fn e n ps as_ bo st pc)) := by
   intro st pc b hm;refine Z2F (lf := max l1 l2) ?_
   simp only [Z42, hent0, hlen t, if_true, Z2Q (hpure t), Z2H (Nat.le_max_left l1 l2) r1, hent, Z2H (Nat.le_max_right l1 l2) r2];exact hm
  cases x2 with
  | normal =>
   have hp0 := hx0.1 rfl
   subst hp0;exact ⟨_, _, call .ready none true rfl, ⟨M2, hM2, by simp [hpd]⟩, fin .ready none⟩
  | exit t' =>
   have hp0 : p' ≠ 0 := fun h => by have := hx0.2 h; cases this
   have hbeq : (p' == 0) = false := by simpa using hp0
   rw [hbeq];exact ⟨_, _, call .done (some (.exit t')) false rfl, ⟨M2, hM2, by simp only [if_neg hp0, ← hx, pdOf]⟩, fin .done _⟩
  | ret =>
   have hp0 : p' ≠ 0 := fun h => by have := hx0.2 h; cases this
   have hbeq : (p' == 0) = false := by simpa using hp0
   rw [hbeq];exact ⟨_, _, call .done (some .ret) false rfl, ⟨M2, hM2, by simp only [if_neg hp0, ← hx, pdOf]⟩, fin .done _⟩
 ·cases hy
theorem Runs.rangeH {S T : Type} {g : Operand} {ps : Array Tmp} {as_ bo : Code} {f : FuncId} {first caps : List PV} {M0 : List Res} (H : Hs σ M0) (hg : Z2 X e g = some (.clo f first caps))
  (Co : S → List Res → Prop) (pvT : T → List PV) (yb : S → T → Option (S × Nat)) (pd : Nat → Option Code) (hpd : pd 0 = none) (hjd : ∀ p, ∃ x, Z4l (pd p) = some x) {s0 : S} {r : S × Nat} (h0 : Co s0 M0) (hlen : ∀ t, ps.toList.length = (pvT t).length) (hpure : ∀ t, (pvT t).all PV.pure = true)
  (hbody : BodyOK X n fn e ps.toList as_ bo Co pvT yb pd)
  (hit : ∀ id, YldH X id (RangeC id fn e n ps.toList as_ bo Co pd) pvT (Z2Z yb) → ItF X f (first ++ [.yld id] ++ caps) (RangeC id fn e n ps.toList as_ bo Co pd) (s0, 0) r)
  (hq : ∀ x σ' M', Z4l (pd r.2) = some x → Co r.1 M' → Hs σ' M' → Q x e σ') : Runs X n fn (.rangeFunc g ps as_ bo) e σ Q := by
 obtain ⟨m, ent⟩ := σ
 let σ1 : Heap := ⟨m + 1, upd ent m (.loop fn e n ps.toList as_ bo .ready none)⟩
 have H1 : Hs σ1 (.loop m fn e n ps.toList as_ bo .ready none :: M0) := by
  have h1 : Has (⟨m + 1, ent⟩ : Heap) m (m + 1) M0 := H.enter 1
  exact (h1.push (b := m) (en := .loop fn e n ps.toList as_ bo .ready none) (Nat.le_refl _) (Nat.lt_succ_self _) (r' := .loop m fn e n ps.toList as_ bo .ready none) Z1n rfl).all
 obtain ⟨σ2, L', hc, ⟨M', hM', rfl⟩, H2⟩ := hit m (rangeY_ok hpd hlen hpure hbody m) σ1 _ ⟨M0, h0, by simp [hpd]⟩ H1
 have hent : σ2.ent m = .loop fn e n ps.toList as_ bo (if r.2 = 0 then .ready else .done) (pd r.2) := H2.holds 0 _ rfl
 have hnb : (if r.2 = 0 then LoopState.ready else LoopState.done) ≠ LoopState.busy := by split <;> simp
 have Hf : Hs (σ2.put m (.loop fn e n ps.toList as_ bo .exhausted (pd r.2))) M' := ((H2.put (k := 0) rfl rfl (r' := .loop m fn e n ps.toList as_ bo .exhausted (pd r.2)) Z1n rfl).erase 0).all
 obtain ⟨x, hx⟩ := hjd r.2
 refine ⟨0, x, e, _, ?_, hq x _ M' hx hM' Hf⟩
 simp only [ZG, hg]
 rw [show Z0N X (.fn f) (first ++ [PV.yld m] ++ caps) ⟨m + 1, upd ent m (.loop fn e n ps.toList as_ bo .ready none)⟩ = some (.tup [], σ2) from hc]
 simp only [hent, if_neg hnb, hx]
theorem callO_of {f : FuncId} {args : List PV} {fu : Func} {c : Code} {m : Nat} {σ : Heap} {Post : PV → Heap → Prop} (hf : X.P.funcs[f]? = some fu) (hb : fu.body = some c) (hi : X.intr f args = none) (hk : X.keep f = false) (ho : X.opn f = true) (hp : args.all PV.pure = true) (hm : max fu.ntmps args.length = m)
  (h : Runs X m f c (Z5U args) σ fun x e σ' => (x = .normal ∨ x = .ret) ∧ ∃ xs, Z0H X.P e σ' fu.results.toList = some xs ∧ Post (Z1b xs) σ') : ∃ r σ', Z0N X (.fn f) args σ = some (r, σ') ∧ Post r σ' := by
 subst hm
 obtain ⟨lf, x, e', σ1, h1, hx, xs, h2, h3⟩ := h.run
 refine ⟨Z1b xs, σ1, Z2F (lf := lf) ?_, h3⟩
 have hbody : Z1L X (Z0N X) lf f args σ = some (Z1b xs, σ1) := by
  simp only [Z1L, hf, hb, h1]
  rcases hx with rfl | rfl <;> simp only [h2, Option.map_some]
 simp only [Z42, hi, hk, Bool.false_eq_true, if_false, Z2Q hp, ho, if_true, hbody]
theorem Ops.callO {n : Nat} {dr : Bool} {ops : Array Oper} {base i : Nat} {l : List Oper} {e : Env} {σ : Heap} {K : Env → Heap → Prop} {d : Nat} {t : TypeId} {p : String} {af : Array Edge}
  {f : FuncId} {args : Array Operand} {ts : Array TypeId} {ys : List PV} {Post : PV → Heap → Prop} (ha : Zi X e args.toList = some ys) (hf : ∃ r σ', Z0N X (.fn f) ys σ = some (r, σ') ∧ Post r σ') (hdr : dr = true → Z34 (Region.before ops) ops i = true) (hd : Nat.blt d n = true)
  (hk : ∀ r σ', Post r σ' → Ops X n dr ops base (i + 1) l (set e d r) σ' K) :
  Ops X n dr ops base i (⟨some d, .call { callee := .value (.func f), args := args, argTypes := ts }, t, p, af, none⟩ :: l) e σ K := by
 obtain ⟨r, σ', q1, q2⟩ := hf
 exact .plain (x := r) (σ1 := σ') (by simp only [ZE, Z04, ha, Z2, q1]) (fun h => Z6G (hdr h)) hd (hk r σ' q2)
end
end Go.Dn

namespace Go.Dn
open Go
theorem Has.ZY {σ : Heap} {lo hi : Nat} {T : List Res} (A : List Res) (ks : List Nat) (hn : ks.Nodup) (hk : ks.all (Nat.blt · A.length) = true) (H : Has σ lo hi (A ++ T)) : Has σ lo hi (Dn.pick A ks ++ T) := by
 have hk' : ∀ k ∈ ks, k < A.length := fun k h => by
  have := List.all_eq_true.1 hk k h
  exact Nat.le_of_ble_eq_true this
 have h := H.pick (ks ++ (List.range T.length).map (A.length + ·)) (by
  refine List.nodup_append.2 ⟨hn, ?_, ?_⟩
  ·exact List.Pairwise.map _ (fun a b hab => by omega) List.nodup_range
  ·intro a ha b hb;obtain ⟨j, _, rfl⟩ := List.mem_map.1 hb
   have := hk' a ha
   omega)
 have fc : ∀ (f g : Nat → Option Res) (l : List Nat), (∀ k ∈ l, f k = g k) → l.filterMap f = l.filterMap g := by
  intro f g l
  induction l with
  | nil => intro _; rfl
  | cons k l ih =>
   intro h;rw [List.filterMap_cons, List.filterMap_cons, h k List.mem_cons_self, ih fun k hk => h k (List.mem_cons_of_mem _ hk)]
 have fr : ∀ (T : List Res), List.filterMap (fun j => T[j]?) (List.range T.length) = T := by
  intro T
  induction T with
  | nil => rfl
  | cons r T ih =>
   rw [List.length_cons, List.range_succ_eq_map, List.filterMap_cons, List.filterMap_map];simp only [List.getElem?_cons_zero]
   congr 1
 have e : Dn.pick (A ++ T) (ks ++ (List.range T.length).map (A.length + ·)) = Dn.pick A ks ++ T := by
  unfold Dn.pick;rw [List.filterMap_append]
  congr 1
  ·exact fc _ _ _ fun k hm => List.getElem?_append_left (hk' k hm)
  ·rw [List.filterMap_map];refine Eq.trans (fc _ _ _ fun j _ => ?_) (fr T)
   simp [Function.comp, List.getElem?_append_right]
 rw [← e]; exact h
theorem Has.mem {σ : Heap} {lo hi : Nat} {L : List Res} (H : Has σ lo hi L) : ∀ r ∈ L, r.holds σ ∧ ∀ id, r.owner = some id → (id < lo ∨ hi ≤ id) ∧ id < σ.nx := fun r hr => by
 obtain ⟨k, hk⟩ := List.getElem?_of_mem hr
 exact ⟨H.holds k r hk, H.lt k r hk⟩
abbrev Apart (r s : Res) : Prop := ∀ id, r.owner = some id → s.owner ≠ some id
theorem Has.pw {σ : Heap} {lo hi : Nat} {L : List Res} (H : Has σ lo hi L) : L.Pairwise Apart := by
 rw [List.pairwise_iff_getElem]
 intro i j hi' hj hij
 exact H.sep i j _ _ (by omega) (List.getElem?_eq_getElem hi') (List.getElem?_eq_getElem hj)
theorem Has.mk' {σ : Heap} {lo hi : Nat} {L : List Res} (hm : ∀ r ∈ L, r.holds σ ∧ ∀ id, r.owner = some id → (id < lo ∨ hi ≤ id) ∧ id < σ.nx) (hp : L.Pairwise Apart) (hle : hi ≤ σ.nx) : Has σ lo hi L := by
 refine ⟨fun k r hk => (hm r (List.mem_of_getElem? hk)).1, fun k r hk => (hm r (List.mem_of_getElem? hk)).2, fun i j r s hij h1 h2 => ?_, hle⟩
 obtain ⟨hi', rfl⟩ := List.getElem?_eq_some_iff.1 h1
 obtain ⟨hj', rfl⟩ := List.getElem?_eq_some_iff.1 h2
 rw [List.pairwise_iff_getElem] at hp
 rcases Nat.lt_or_ge i j with h | h
 ·exact hp i j hi' hj' h
 ·intro id h3 h4;exact hp j i hj' hi' (by omega) id h4 h3
def holes (lo hi : Nat) : List Res := .floor hi :: (List.range (hi - lo)).map fun j => .hole (lo + j)
theorem mem_holes {lo hi : Nat} {r : Res} (h : r ∈ holes lo hi) : r = .floor hi ∨ ∃ id, r = .hole id ∧ lo ≤ id ∧ id < hi := by
 rcases List.mem_cons.1 h with h | h
 ·exact .inl h
 ·obtain ⟨j, hj, rfl⟩ := List.mem_map.1 h
  have := List.mem_range.1 hj
  exact .inr ⟨_, rfl, by omega, by omega⟩
theorem Has.holesIn {σ : Heap} {lo hi : Nat} {L : List Res} (H : Has σ lo hi L) : Hs σ (L ++ holes lo hi) := by
 refine Has.mk' (fun r hr => ?_) ?_ (Nat.le_refl _)
 ·rcases List.mem_append.1 hr with h | h
  ·exact ⟨(H.mem r h).1, fun id ho => ⟨.inl ((H.mem r h).2 id ho).2, ((H.mem r h).2 id ho).2⟩⟩
  ·rcases mem_holes h with rfl | ⟨id, rfl, h1, h2⟩
   ·exact ⟨H.le, fun id ho => by cases ho⟩
   ·refine ⟨trivial, fun id' ho => ?_⟩
    cases ho;have := H.le
    exact ⟨.inl (by omega), by omega⟩
 ·refine List.pairwise_append.2 ⟨H.pw, ?_, ?_⟩
  ·refine List.pairwise_cons.2 ⟨fun r _ id ho => (by cases ho), ?_⟩
   refine List.Pairwise.map _ ?_ List.nodup_range;intro a b hab id h1 h2;have h1 : lo + a = id := Option.some.inj h1
   have h2 : lo + b = id := Option.some.inj h2
   omega
  ·intro r hr s hs id h1 h2;have := ((H.mem r hr).2 id h1).1
   rcases mem_holes hs with rfl | ⟨id', rfl, h3, h4⟩
   ·cases h2
   ·cases h2; omega
theorem Has.holesOut {σ : Heap} {lo hi : Nat} {A L : List Res} (H : Hs σ (A ++ (L ++ holes lo hi))) : Has σ lo hi (A ++ L) := by
 rw [← List.append_assoc] at H
 have hp := List.pairwise_append.1 H.pw
 refine Has.mk' (fun r hr => ?_) hp.1 ?_
 ·have h1 := H.mem r (List.mem_append_left _ hr)
  refine ⟨h1.1, fun id ho => ⟨?_, (h1.2 id ho).2⟩⟩
  rcases Nat.lt_or_ge id lo with h | h
  ·exact .inl h
  ·rcases Nat.lt_or_ge id hi with h' | h'
   ·exact absurd rfl (hp.2.2 r hr (.hole id) (List.mem_cons_of_mem _ (List.mem_map.2 ⟨id - lo, List.mem_range.2 (by omega), by congr 1; omega⟩)) id ho)
   ·exact .inr h'
 ·exact (H.mem (.floor hi) (List.mem_append_right _ List.mem_cons_self)).1
section
variable {X : Ctx} {f : FuncId} {fu : Func} {c : Code} {m : Nat} {σ : Heap} {cv : PV} {ys args : List PV} {L : List Res} {PostA : PV → List Res → Prop}
def CallI (X : Ctx) (cv : PV) (ys : List PV) (σ : Heap) (T : List Res) (PostA : PV → List Res → Prop) : Prop := ∃ r σ' A, callV X cv ys σ = some (r, σ') ∧ PostA r A ∧ Hs σ' (A ++ T)
theorem callI_of (hf : X.P.funcs[f]? = some fu) (hb : fu.body = some c) (hcv : ∀ σ, callV X cv ys σ = Z0N X (.fn f) args σ) (hi : X.intr f args = none) (hk : X.keep f = true) (ho : X.opn f = true) (hm : max fu.ntmps args.length = m) {T : List Res}
  (h : Runs X m f c (Z5U args) σ fun x e σ' => (x = .normal ∨ x = .ret) ∧ ∃ xs, Z0H X.P e σ' fu.results.toList = some xs ∧ ∃ A, PostA (Z1b xs) A ∧ Hs σ' (A ++ T)) : CallI X cv ys σ T PostA := by
 subst hm
 obtain ⟨lf, x, e', σ1, h1, hx, xs, h2, A, h3, h4⟩ := h.run
 refine ⟨Z1b xs, σ1, A, ?_, h3, h4⟩
 rw [hcv]
 refine Z2F (lf := lf) ?_
 have hbody : Z1L X (Z0N X) lf f args σ = some (Z1b xs, σ1) := by
  simp only [Z1L, hf, hb, h1]
  rcases hx with rfl | rfl <;> simp only [h2, Option.map_some]
 simp only [Z42, hi, hk, if_true, ho, hbody]
theorem callIO_of (hf : X.P.funcs[f]? = some fu) (hb : fu.body = some c) (hcv : ∀ σ, callV X cv ys σ = Z0N X (.fn f) args σ) (hi : X.intr f args = none) (hk : X.keep f = false) (ho : X.opn f = true) (hp : args.all PV.pure = true) (hm : max fu.ntmps args.length = m) {T : List Res}
  (h : Runs X m f c (Z5U args) σ fun x e σ' => (x = .normal ∨ x = .ret) ∧ ∃ xs, Z0H X.P e σ' fu.results.toList = some xs ∧ ∃ A, PostA (Z1b xs) A ∧ Hs σ' (A ++ T)) : CallI X cv ys σ T PostA := by
 obtain ⟨r, σ', h1, A, h2, h3⟩ := callO_of (Post := fun r σ' => ∃ A, PostA r A ∧ Hs σ' (A ++ T)) hf hb hi hk ho hp hm h
 exact ⟨r, σ', A, by rw [hcv]; exact h1, h2, h3⟩
end
section
variable {X : Ctx} {n : Nat} {dr : Bool} {fn : FuncId} {ops : Array Oper} {base i : Nat} {l : List Oper} {e : Env} {σ : Heap} {K : Env → Heap → Prop}
variable {d : Nat} {t t1 : TypeId} {p : String} {af : Array Edge} {x : Operand} {lo hi : Nat} {L : List Res}
theorem callV_step {cv : PV} {args : List PV} {r : PV} {σ' : Heap} {c : Call} {id0 : Nat} (hc : c.callee = .value x) (hx : Z2 X e x = some cv) (ha : Zi X e c.args.toList = some args) (h : Dn.callV X cv args σ = some (r, σ')) : Z04 X (Z0N X) e σ id0 c = some (r, σ') := by
 simp only [Z04, ha, hc, hx]
 unfold Dn.callV at h
 split at h
 ·exact h
 ·exact h
 ·cases h
theorem Sub.more {C L M : List Res} (h : Sub C L) : Sub C (L ++ M) := by
 induction h with
 | nil => exact .nil
 | cons k h t ih =>
  refine .cons k ?_ ih;rw [List.getElem?_append_left (List.getElem?_eq_some_iff.1 h).1, h]
theorem callI_back {cv : PV} {ys : List PV} {PostA : PV → List Res → Prop} (A : List Res) (H : Has σ lo hi (A ++ L)) (hf : ∀ T, (∀ C, Sub C L → Sub C T) → Hs σ (A ++ T) → CallI X cv ys σ T PostA) :
  ∃ r σ' A', Dn.callV X cv ys σ = some (r, σ') ∧ PostA r A' ∧ Has σ' lo hi (A' ++ L) := by
 have hsub : ∀ C, Sub C L → Sub C (L ++ holes lo hi) := fun C h => h.more
 have H1 := H.holesIn
 rw [List.append_assoc] at H1
 obtain ⟨r, σ', A', h1, h2, h3⟩ := hf (L ++ holes lo hi) hsub H1
 exact ⟨r, σ', A', h1, h2, h3.holesOut⟩
theorem Ops.callI {cv : PV} {args : Array Operand} {ts : Array TypeId} {ys : List PV} {PostA : PV → List Res → Prop} (A : List Res) (H : Has σ lo hi (A ++ L)) (hx : Z2 X e x = some cv) (ha : Zi X e args.toList = some ys) (hf : ∀ T, (∀ C, Sub C L → Sub C T) → Hs σ (A ++ T) → CallI X cv ys σ T PostA) (hdr : dr = true → Z34 (Region.before ops) ops i = true) (hd : Nat.blt d n = true)
  (hk : ∀ r A' σ', PostA r A' → Has σ' lo hi (A' ++ L) → Ops X n dr ops base (i + 1) l (set e d r) σ' K) :
  Ops X n dr ops base i (⟨some d, .call { callee := .value x, args := args, argTypes := ts }, t, p, af, none⟩ :: l) e σ K := by
 obtain ⟨r, σ', A', q1, q2, q3⟩ := callI_back A H hf
 exact .plain (x := r) (σ1 := σ') (by simp only [ZE]; exact callV_step rfl hx ha q1) (fun h => Z6G (hdr h)) hd (hk r A' σ' q2 q3)
def FnO (X : Ctx) (f : FuncId) (args : List PV) (PostA : PV → List Res → Prop) : Prop := ∀ σ T, Hs σ T → CallI X (.v (.fn f)) args σ T PostA
theorem FnO.of {f : FuncId} {fu : Func} {c : Code} {m : Nat} {args : List PV} {PostA : PV → List Res → Prop} (hf : X.P.funcs[f]? = some fu) (hb : fu.body = some c) (hi : X.intr f args = none) (hk : X.keep f = false) (ho : X.opn f = true) (hp : args.all PV.pure = true) (hm : max fu.ntmps args.length = m)
  (h : ∀ σ T, Hs σ T → Runs X m f c (Z5U args) σ fun x e σ' => (x = .normal ∨ x = .ret) ∧ ∃ xs, Z0H X.P e σ' fu.results.toList = some xs ∧ ∃ A, PostA (Z1b xs) A ∧ Hs σ' (A ++ T)) : FnO X f args PostA :=
 fun σ T H => callIO_of hf hb (fun _ => rfl) hi hk ho hp hm (h σ T H)
theorem Ops.callFO {f : FuncId} {args : Array Operand} {ts : Array TypeId} {ys : List PV} {PostA : PV → List Res → Prop} (H : Has σ lo hi L) (ha : Zi X e args.toList = some ys) (hf : FnO X f ys PostA) (hdr : dr = true → Z34 (Region.before ops) ops i = true) (hd : Nat.blt d n = true)
  (hk : ∀ r A' σ', PostA r A' → Has σ' lo hi (A' ++ L) → Ops X n dr ops base (i + 1) l (set e d r) σ' K) :
  Ops X n dr ops base i (⟨some d, .call { callee := .value (.func f), args := args, argTypes := ts }, t, p, af, none⟩ :: l) e σ K :=
 Ops.callI [] H rfl ha (fun T _ H => hf σ T H) hdr hd hk
inductive ExpP : List Res → List (Nat × PV) → List (Nat × PV) → List Res → Prop
 | nil {L : List Res} : ExpP L [] [] L
 | keep {L L' : List Res} {j : Nat} {x : PV} {ps qs : List (Nat × PV)} (h : Z5W x = false) (t : ExpP L ps qs L') : ExpP L ((j, x) :: ps) ((j, x) :: qs) L'
 | exp {L L1 L2 : List Res} {j : Nat} {x y : PV} {ps qs : List (Nat × PV)} (h : ExpV L x y L1) (t : ExpP L1 ps qs L2) : ExpP L ((j, x) :: ps) ((j, y) :: qs) L2
theorem Z9T {x : PV} {y : FV} {L' : List Res} (H : Has σ lo hi L) (h : ExpC L x y L') (hr : isRef x = false) : x = .v y ∧ L' = L := by
 cases h with
 | v y => exact ⟨rfl, rfl⟩
 | n => cases hr
 | ro h =>
  rcases h with ⟨rfl, rfl⟩ | rfl
  ·cases hr
  ·exact ⟨rfl, rfl⟩
 | s k h =>
  rcases (H.sl h).2 with ⟨rfl, _⟩ | ⟨id, rfl, _⟩ <;> cases hr
theorem Z8u : ∀ {xs : List PV} {ys : List FV} {L L' : List Res}, Has σ lo hi L → ExpCs L xs ys L' → xs.any isRef = false → xs = vs ys ∧ L' = L
 | [], ys, L, L', H, h, _ => by cases h; exact ⟨rfl, rfl⟩
 | x :: xs, ys, L, L', H, h, hr => by
  simp only [List.any_cons, Bool.or_eq_false_iff] at hr;cases h with
  | cons h t =>
   obtain ⟨rfl, rfl⟩ := Z9T H h hr.1
   obtain ⟨rfl, rfl⟩ := Z8u H t hr.2
   exact ⟨rfl, rfl⟩
theorem expV_noref {x y : PV} {L' : List Res} (H : Has σ lo hi L) (h : ExpV L x y L') (hr : Z5W x = false) : y = x ∧ L' = L := by
 cases h with
 | c h =>
  have : isRef x = false := by cases x <;> first | rfl | exact hr
  obtain ⟨rfl, rfl⟩ := Z9T H h this
  exact ⟨rfl, rfl⟩
 | a h =>
  obtain ⟨rfl, rfl⟩ := Z8u H h hr
  exact ⟨rfl, rfl⟩
 | p h => exact ⟨rfl, rfl⟩
theorem fvsOf_vs (l : List FV) : fvsOf (vs l) = some l := by
 induction l with
 | nil => rfl
 | cons x l ih => show (fvsOf (vs l)).map (x :: ·) = _; rw [ih]; rfl
theorem frzC_ok {x : PV} {y : FV} {L' : List Res} (H : Has σ lo hi L) (h : ExpC L x y L') : ∃ σ', Z2w σ x = some (.v y, σ') ∧ Has σ' lo hi L' ∧ σ'.nx = σ.nx := by
 cases h with
 | v y => exact ⟨σ, rfl, H, rfl⟩
 | n => exact ⟨σ, rfl, H, rfl⟩
 | ro h => rcases h with ⟨rfl, rfl⟩ | rfl <;> exact ⟨σ, rfl, H, rfl⟩
 | @s _ et sz xs lv k h =>
  obtain ⟨hs, hv⟩ := H.sl h
  rcases hv with ⟨rfl, rfl⟩ | ⟨id, rfl, hb⟩
  ·exact ⟨σ, rfl, H.say h ⟨by simp, .inl ⟨rfl, rfl⟩⟩ rfl, rfl⟩
  ·refine ⟨σ.put id (.blk et (vs xs.flatten) false), ?_, H.put h rfl (r' := .sl (.buf id xs.length sz) et sz xs false) ⟨hs, .inr ⟨id, rfl, Z1n⟩⟩ rfl, rfl⟩
   simp only [Z2w, hb];rw [if_pos (by rw [Z1B, Z0e hs]), fvsOf_vs, Option.map_some, Z78 hs]
theorem frzCs_ok : ∀ {xs : List PV} {σ : Heap} {L L' : List Res} {ys : List FV}, Has σ lo hi L → ExpCs L xs ys L' → ∃ σ', Z2B σ xs = some (vs ys, σ') ∧ Has σ' lo hi L' ∧ σ'.nx = σ.nx
 | [], σ, L, L', ys, H, h => by cases h; exact ⟨σ, rfl, H, rfl⟩
 | x :: xs, σ, L, L', ys, H, h => by
  cases h with
  | cons h t =>
   obtain ⟨σ1, q1, q2, q3⟩ := frzC_ok H h
   obtain ⟨σ2, p1, p2, p3⟩ := frzCs_ok q2 t
   exact ⟨σ2, by simp only [Z2B, q1, Option.bind_some, p1]; rfl, p2, p3.trans q3⟩
theorem frzV_ok {x y : PV} {L' : List Res} (H : Has σ lo hi L) (h : ExpV L x y L') (hn : Z5W x = true) : ∃ σ', Z2Y σ x = some (y, σ') ∧ Has σ' lo hi L' ∧ σ'.nx = σ.nx := by
 cases h with
 | c h =>
  obtain ⟨σ', q1, q2, q3⟩ := frzC_ok H h
  refine ⟨σ', ?_, q2, q3⟩;cases h with
  | v y => cases hn
  | n => simp only [Z2Y, q1]
  | ro h =>
   rcases h with ⟨rfl, rfl⟩ | rfl
   ·simp only [Z2Y, q1]
   ·cases hn
  | s k h =>
   obtain ⟨_, ⟨rfl, rfl⟩ | ⟨id, rfl, hb⟩⟩ := H.sl h
   ·simp only [Z2Y, q1]
   ·simp only [Z2Y, q1]
 | a h =>
  obtain ⟨σ', q1, q2, q3⟩ := frzCs_ok H h
  exact ⟨σ', by simp only [Z2Y, q1, Option.bind_some], q2, q3⟩
 | p h =>
  exfalso
  cases x <;> simp [PV.pure] at h <;> simp [Z5W] at hn
  obtain ⟨z, hz, hz2⟩ := hn
  have := h z hz
  cases z <;> simp [PV.isV] at this
  simp [isRef] at hz2
theorem expP_ok : ∀ {ps qs : List (Nat × PV)} {σ : Heap} {L L' : List Res}, Has σ lo hi L → ExpP L ps qs L' → ∃ σ', Z0U σ ps = some (qs, σ') ∧ Has σ' lo hi L' ∧ σ'.nx = σ.nx
 | [], qs, σ, L, L', H, h => by cases h; exact ⟨σ, rfl, H, rfl⟩
 | p :: ps, qs, σ, L, L', H, h => by
  cases h with
  | keep h t =>
   obtain ⟨σ1, q1, q2, q3⟩ := expP_ok H t
   exact ⟨σ1, by simp only [Z0U, h, Bool.false_eq_true, if_false, q1, Option.bind_some], q2, q3⟩
  | @exp _ L1 _ j x y ps qs h t =>
   by_cases hr : Z5W x = true
   ·obtain ⟨σ1, q1, q2, q3⟩ := frzV_ok H h hr
    obtain ⟨σ2, p1, p2, p3⟩ := expP_ok q2 t
    exact ⟨σ2, by simp only [Z0U, hr, if_true, q1, Option.bind_some, p1], p2, p3.trans q3⟩
   ·have hr : Z5W x = false := by simpa using hr
    obtain ⟨rfl, rfl⟩ := expV_noref H h hr
    obtain ⟨σ2, p1, p2, p3⟩ := expP_ok H t
    exact ⟨σ2, by simp only [Z0U, hr, Bool.false_eq_true, if_false, Option.bind_some, p1], p2, p3⟩
def FrzOK (ops : Array Oper) (base i : Nat) (pp : List (Nat × PV)) : Prop :=
 Z34 (Region.before ops) ops i = true ∨ ∃ ms : List Nat, (pp.flatMap fun p => Z4g p.2) = ms.map (base + ·) ∧
  (ms.all fun m => Nat.blt m ops.size && ((Region.before ops).getD i 0).testBit m && (List.range ops.size).all fun j => !(unord (Region.before ops) i j && ((Region.before ops).getD j 0).testBit m)) = true
theorem ask_frz {parts : Array (Nat × Operand)} {len : Nat} {pp : List (Nat × PV)} (hp : Z35 X e parts.toList = some pp) (h : FrzOK ops base i pp) : Zu X ops base i ⟨some d, .buildSlice t1 len parts, t, p, af, none⟩ e = true := by
 rcases h with h | ⟨ms, h1, h2⟩
 ·exact Z6G h
 ·refine ask0 ?_;have hf : frozen X e (.buildSlice t1 len parts) = ms.map (base + ·) := by simp only [frozen, hp, h1]
  simp only [Zl, Z01, hf];refine List.all_eq_true.2 fun k hk => ?_
  obtain ⟨m, hm, rfl⟩ := List.mem_map.1 hk
  have := List.all_eq_true.1 h2 m hm
  simp only [Bool.and_eq_true] at this;simp only [Nat.add_sub_cancel_left, Bool.and_eq_true, decide_eq_true_eq];exact ⟨⟨⟨Nat.le_add_right _ _, by have := blt_lt this.1.1; omega⟩, this.1.2⟩, this.2⟩
theorem Ops.Z7d {parts : Array (Nat × Operand)} {len sz : Nat} {el : TypeId} {zs : List PV} {pp qq : List (Nat × PV)} {L' : List Res} (xs : List (List FV)) (H : Has σ lo hi L) (hlo : lo ≤ base + i) (hhi : base + i < hi)
  (ht : tslice X.P t1 = some el) (hp : Z35 X e parts.toList = some pp) (hE : ExpP L pp qq L') (hs : tsize X.P el = some sz) (hz : tzero X.P el = some zs) (hc : (zs.length == sz && sz != 0 && Nat.ble (len * sz) 1000000) = true)
  (hf : Z5Z (fun i => some (i * sz, sz)) (List.replicate len zs).flatten qq = some (vs xs.flatten)) (hl : xs.length = len) (hx : xs.all (fun y => y.length == sz) = true) (hd : Nat.blt d n = true) (hdr : dr = true → FrzOK ops base i pp)
  (hk : ∀ σ', Has σ' (base + i + 1) hi (.sl (.buf (base + i) len sz) el sz xs true :: L') → Ops X n dr ops base (i + 1) l (set e d (.buf (base + i) len sz)) σ' K) (hlit : X.lit = false := by rfl) :
  Ops X n dr ops base i (⟨some d, .buildSlice t1 len parts, t, p, af, none⟩ :: l) e σ K := by
 simp only [Bool.and_eq_true, beq_iff_eq, bne_iff_ne, ne_eq, Nat.ble_eq] at hc
 obtain ⟨σ1, q1, H1, q3⟩ := expP_ok H hE
 have hl0 : (X.lit && len != 0) = false := by rw [hlit]; rfl
 refine .plain (x := .buf (base + i) len sz) (σ1 := σ1.put (base + i) (.blk el (vs xs.flatten) true)) ?_ (fun h => ask_frz hp (hdr h)) hd (hk _ (H1.push hlo hhi (r' := .sl (.buf (base + i) len sz) el sz xs true) ?_ rfl))
 ·simp only [ZE, Z17, hp, Option.bind_some, q1, Z1k, ht, hs, hz];rw [if_pos ⟨hc.1.1, hc.1.2, hc.2⟩, hf]; simp only [litR, hl0]; rfl
 ·exact ⟨fun y hy => by have := List.all_eq_true.1 hx y hy; simpa using this, .inr ⟨base + i, by rw [hl], Z1n⟩⟩
end
end Go.Dn

namespace Go.Dn
open Go
section
variable {X : Ctx} {n : Nat} {fn : FuncId} {ops : Array Oper} {base i : Nat} {l : List Oper} {e : Env} {σ : Heap} {K : Env → Heap → Prop}
variable {d : Nat} {t t1 : TypeId} {p : String} {af : Array Edge} {x y z : Operand} {lo hi k : Nat} {L : List Res}
end
theorem Ops.nila {X : Ctx} {n : Nat} {dr : Bool} {ops : Array Oper} {base i : Nat} {e : Env} {σ : Heap} {K : Env → Heap → Prop} {lo hi : Nat} {L : List Res} (H : Has σ lo hi L) (h : Hs σ L → K e σ) : Ops X n dr ops base i [] e σ K := .nil (h H.all)
section
variable {X : Ctx} {n : Nat} {dr : Bool} {ops : Array Oper} {base i : Nat} {l : List Oper} {e : Env} {σ : Heap} {K : Env → Heap → Prop}
variable {d : Nat} {t t1 : TypeId} {p : String} {af : Array Edge} {x y z : Operand} {lo hi k : Nat} {L : List Res}
end
end Go.Dn

namespace Go.Dn
open Go
def Res.solid : Res → Bool
 | .hole _ => false
 | _ => true
def star (σ : Heap) : Res → Res
 | .hole id => .fix id (σ.ent id)
 | r => r
theorem Z9z {σ : Heap} {r : Res} : (star σ r).owner = r.owner := by cases r <;> rfl
theorem star_holds {σ : Heap} {r : Res} (h : r.holds σ) : (star σ r).holds σ := by cases r <;> first | exact h | exact rfl
theorem solid_star {σ : Heap} {r : Res} (h : r.solid = true) : star σ r = r := by cases r <;> first | rfl | cases h
section
variable {σ : Heap} {lo hi : Nat} {L C : List Res}
theorem Has.star (H : Has σ lo hi L) : Has σ σ.nx σ.nx (L.map (star σ)) := by
 refine ⟨fun k r h => ?_, fun k r h id ho => ?_, fun j k r s hjk h1 h2 id ho => ?_, Nat.le_refl _⟩
 ·rw [List.getElem?_map, Option.map_eq_some_iff] at h;obtain ⟨q, hq, rfl⟩ := h
  exact star_holds (H.holds k q hq)
 ·rw [List.getElem?_map, Option.map_eq_some_iff] at h;obtain ⟨q, hq, rfl⟩ := h
  rw [Z9z] at ho;have := (H.lt k q hq id ho).2
  exact ⟨.inl this, this⟩
 ·rw [List.getElem?_map, Option.map_eq_some_iff] at h1 h2;obtain ⟨q, hq, rfl⟩ := h1
  obtain ⟨q', hq', rfl⟩ := h2
  rw [Z9z] at ho ⊢;exact H.sep j k q q' hjk hq hq' id ho
theorem Has.add (H : Has σ σ.nx σ.nx L) {id : Nat} (hl : id < σ.nx) (hn : ∀ r ∈ L, r.owner ≠ some id) : Has σ σ.nx σ.nx (.fix id (σ.ent id) :: L) := by
 refine ⟨fun j s h => ?_, fun j s h id' ho2 => ?_, fun i j s t hij h1 h2 id' hs => ?_, H.le⟩
 ·cases j with
  | zero => cases h; exact rfl
  | succ j => exact H.holds j s h
 ·cases j with
  | zero => cases h; cases ho2; exact ⟨.inl hl, hl⟩
  | succ j => exact H.lt j s h id' ho2
 ·cases i with
  | zero =>
   cases h1;cases hs;cases j with
   | zero => exact absurd rfl hij
   | succ j => exact hn t (List.mem_of_getElem? h2)
  | succ i =>
   cases j with
   | zero =>
    cases h2;intro e;cases e;exact hn s (List.mem_of_getElem? h1) hs
   | succ j => exact H.sep i j s t (fun e => hij (by rw [e])) h1 h2 id' hs
def fixL (σ : Heap) (L : List Res) : Nat → List Res
 | 0 => L.map (star σ)
 | k + 1 => if (fixL σ L k).any (fun r => r.owner == some k) then fixL σ L k else .fix k (σ.ent k) :: fixL σ L k
theorem Sub.star {C L : List Res} (h : Sub C L) : C.all Res.solid = true → Sub C (L.map (star σ)) := by
 induction h with
 | nil => intro _; exact .nil
 | cons k h t ih =>
  intro hs;simp only [List.all_cons, Bool.and_eq_true] at hs;exact .cons k (by rw [List.getElem?_map, h, Option.map_some, solid_star hs.1]) (ih hs.2)
end
section
variable {X : Ctx} {n : Nat} {dr : Bool} {fn : FuncId} {ops : Array Oper} {base i : Nat} {l : List Oper} {e : Env} {σ : Heap} {K : Env → Heap → Prop}
variable {d : Nat} {t : TypeId} {p : String} {af : Array Edge} {x : Operand} {lo hi : Nat} {L C : List Res}
end
inductive FzC (L : List Res) : PV → FV → Prop
 | v (y : FV) : FzC L (.v y) y
 | n : FzC L .nils (.sl [])
 | ro {v : PV} {xs : List (List FV)} (h : RO v xs) : FzC L v (.sl xs)
 | s {v : PV} {et : TypeId} {sz : Nat} {xs : List (List FV)} (k : Nat) (h : L[k]? = some (.sl v et sz xs false)) : FzC L v (.sl xs)
inductive FzCs (L : List Res) : List PV → List FV → Prop
 | nil : FzCs L [] []
 | cons {x : PV} {y : FV} {xs : List PV} {ys : List FV} (h : FzC L x y) (t : FzCs L xs ys) : FzCs L (x :: xs) (y :: ys)
inductive FzV (L : List Res) : PV → PV → Prop
 | c {x : PV} {y : FV} (h : FzC L x y) : FzV L x (.v y)
 | a {xs : List PV} {ys : List FV} (h : FzCs L xs ys) : FzV L (.agg xs) (.agg (vs ys))
 | p {x : PV} (h : x.pure = true) : FzV L x x
inductive FzVs (L : List Res) : List PV → List PV → Prop
 | nil : FzVs L [] []
 | cons {x y : PV} {xs ys : List PV} (h : FzV L x y) (t : FzVs L xs ys) : FzVs L (x :: xs) (y :: ys)
section
variable {σ : Heap} {lo hi : Nat} {L : List Res}
end
def PV.one : PV → Bool
 | .v _ => true
 | .fptr _ => true
 | .ptr _ _ _ => true
 | .clo _ _ _ => true
 | .yld _ => true
 | _ => false
theorem Z3D {x : PV} (h : x.one = true) : x.still = true := by cases x <;> first | rfl | cases h
theorem one_cells {x : PV} (h : x.one = true) : x.cells = some [x] := by cases x <;> first | rfl | cases h
end Go.Dn

namespace Go.Dn
open Go
def cF (n : Nat) : List FV := [.fn n]
def tailsOK (ops : Array Oper) : Nat → List Oper → Bool
 | _, [] => true
 | k, o :: l => (o.after.all fun e => !Region.binds .any e || decide (e.on < k)) && (l.all fun oj => oj.after.any (fun e => Region.binds .any e && e.on == k) || o.apart ops oj) && tailsOK ops (k + 1) l
section
variable {X : Ctx} {n : Nat} {dr : Bool} {ops : Array Oper} {base i : Nat} {l : List Oper} {e : Env} {σ : Heap} {K : Env → Heap → Prop}
variable {d : Nat} {t t1 : TypeId} {p : String} {af : Array Edge} {x y : Operand} {lo hi : Nat} {L : List Res}
theorem Ops.appendNt {α : Type} {c : α → List FV} {ys r : List α} {el : TypeId} {sz by_ : Nat} {w : PV} {zs : List PV} (H : Has σ lo hi L) (hlo : lo ≤ base + i) (hhi : base + i < hi) (k : Nat) (hk : L[k]? = some (.sl .nils el sz (([] : List α).map c) true))
  (hx : Z2 X e x = some .nils) (hy : Z2 X e y = some w) (hb : Bring L sz w (ys.map c)) (hr : app? by_ [] ys = some r) (ht : tslice X.P t1 = some el) (hs : tsize X.P el = some sz) (hby : tbytes X.P el = some by_) (hz : tzero X.P el = some zs)
  (hc : (sz != 0 && by_ != 0 && zs.length == sz) = true)
  (ha : dr = true → ∀ id, w.owner = some id → Seen ops base i id true) (hd : Nat.blt d n = true)
  (hk' : ∀ v' σ', (v' = .nils ∨ ∃ m, v' = .buf (base + i) m sz) → Has σ' (base + i + 1) hi (L.set k (.sl v' el sz (r.map c) true)) → Ops X n dr ops base (i + 1) l (set e d v') σ' K) :
  Ops X n dr ops base i (⟨some d, .call { callee := .builtin .append, args := #[x, y], argTypes := #[t1, t1] }, t, p, af, none⟩ :: l) e σ K := by
 unfold app? at hr
 split at hr
 case isFalse => cases hr
 rename_i hroom
 cases hr
 simp only [Bool.and_eq_true, beq_iff_eq, bne_iff_ne, ne_eq] at hc
 obtain ⟨hb1, hb2⟩ := brought H hb
 obtain ⟨hsz, hv⟩ := H.sl hk
 have hn : ¬(sz = 0 ∨ by_ = 0 ∨ (some zs).map List.length ≠ some sz) := by
  rintro (h | h | h)
  ·exact hc.1.1 h
  ·exact hc.1.2 h
  ·exact h (by rw [Option.map_some, hc.2])
 have ask : dr = true → Zu X ops base i ⟨some d, .call { callee := .builtin .append, args := #[x, y], argTypes := #[t1, t1] }, t, p, af, none⟩ e = true := fun h =>
  Z7J (ids := vids .nils ++ vids w) rfl (by simp only [touched, Zh, List.flatMap_cons, List.flatMap_nil, hx, hy, List.append_nil]) (fun id hid => by
   rcases List.mem_append.1 hid with hid | hid
   ·cases hid
   ·exact ha h id (Z7I hid (Z8k H hb)))
 have start : ZE X (Z0N X) e σ (base + i) (.call { callee := .builtin .append, args := #[x, y], argTypes := #[t1, t1] }) = Z14 X.P σ (base + i) t1 .nils w := by
  simp only [ZE, Z04, Zi, hx, hy, Option.bind_some, Z0L, if_true]
 by_cases h0 : ys = []
 ·subst h0;refine .plain (x := .nils) (σ1 := σ) ?_ ask hd (hk' _ _ (.inl rfl) ((H.weak (Nat.le_trans hlo (Nat.le_succ _)) (Nat.le_refl _)).say hk (r' := .sl .nils el sz (([] ++ [] : List α).map c) true) ⟨by simp, .inl ⟨rfl, rfl⟩⟩ rfl))
  rw [start];simp only [Z14, ht, hs, hby, hb1, hz, if_neg hn, List.map_nil, List.length_nil, if_true]
 ·have hl : (ys.map c).length ≠ 0 := fun h => h0 (List.map_eq_nil_iff.1 (List.length_eq_zero_iff.1 h))
  have hroom' : (ys.map c).length * by_ ≤ room := by simpa using hroom
  refine .plain (x := .buf (base + i) (ys.map c).length sz) (σ1 := σ.put (base + i) (.blk el (vs (ys.map c).flatten) true)) ?_ ask hd
   (hk' _ _ (.inr ⟨_, rfl⟩) (H.renew hk hlo hhi (r' := .sl (.buf (base + i) (ys.map c).length sz) el sz (([] ++ ys).map c) true) ⟨hb2, .inr ⟨base + i, rfl, Z1n⟩⟩ rfl))
  rw [start];simp only [Z14, ht, hs, hby, hb1, hz, if_neg hn, if_neg hl, if_pos hroom']
theorem frz_one {ops : Array Oper} {base i j : Nat} {pp : List (Nat × PV)} {w : PV} {sz : Nat} (hw : w = .nils ∨ ∃ m, w = .buf (base + j) m sz) (hp : (pp.flatMap fun p => Z4g p.2) = (bufId w ++ []) ++ [])
  (hj : ([j].all fun m => Nat.blt m ops.size && ((Region.before ops).getD i 0).testBit m && (List.range ops.size).all fun k => !(unord (Region.before ops) i k && ((Region.before ops).getD k 0).testBit m)) = true) : FrzOK ops base i pp := by
 right
 rcases hw with rfl | ⟨m, rfl⟩
 ·exact ⟨[], by rw [hp]; rfl, rfl⟩
 ·exact ⟨[j], by rw [hp]; rfl, hj⟩
end
end Go.Dn

namespace Go.Dn
open Go Go.Proofs
def cloneV (sz by_ : Nat) : List PV → Option PV
 | [.v (.sl xs)] => if (xs.all fun y => y.length == sz) = true ∧ xs.length * by_ ≤ room then some (.v (.sl xs)) else none
 | _ => none
def gcdV : List PV → Option PV
 | [.v (.int .u64 a), .v (.int .u64 b)] => if (0 ≤ a ∧ a ≤ 18446744073709551615) ∧ 0 ≤ b ∧ b ≤ 18446744073709551615 then some (.v (.int .u64 (Int.gcd a b))) else none
 | _ => none
noncomputable def CA : Ctx := { P := Try.prog, glob := fun _ => none, intr := fun f args => if f = 78 then gcdV args else if f = 38 then cloneV 2 16 args else none, opn := fun f => f == 54 || f == 63 || f == 65 || f == 95, keep := fun f => false, lit := true }
noncomputable def C0 : Ctx := { P := Try.prog, glob := fun _ => none, intr := fun _ _ => none, opn := fun _ => false, keep := fun _ => false }
theorem prog_ok : ProgOK Try.prog := by
 refine ⟨fun f fn h => ?_, by kernel_rfl⟩
 have hall : Try.prog.funcs.all (fun fn => !(fn.name == "runtime.NumGoroutine")) = true := by kernel_rfl
 have := Array.all_eq_true_iff_forall_mem.1 hall fn (Array.mem_of_getElem? h)
 simpa using this
theorem c0_ok : CtxOK C0 := ⟨prog_ok, fun f args r h => by cases h⟩
theorem prog_call (f : FuncId) (fu : Func) (vs : Array Value) (w : World) (hf : Try.prog.funcs[f]? = some fu) (hb : fu.body.isSome = true) : (callFunc f vs).run Try.prog w = .ok (.enter f vs) w := by
 have hp : (program).run Try.prog w = .ok Try.prog w := rfl
 simp only [callFunc, Sem.run_bind, hp, Result.andThen_ok, hf, prog_ok.names f fu hf]
 cases hc : fu.body with
 | none => rw [hc] at hb; cases hb
 | some c => simp
def InUg (a : Int) : Prop := 0 ≤ a ∧ a ≤ 18446744073709551615
abbrev u64v (a : Int) : PV := .v (.int .u64 a)
def uOf : Value → Nat | .int _ q => q.toNat | _ => 0
def gcdJ (s0 : St) (a0 : Act) (g : Nat) (a : Act) (w : World) : Prop := ∃ (e : Env) (σ : Heap) (ι : Nat → Nat) (x y : Int), Aft s0 12 a0 (set (set e 0 (u64v x)) 1 (u64v y)) σ a w ι ∧ InUg x ∧ InUg y ∧ Int.gcd x y = g
theorem gcd_step {x y : Int} (hx : 0 ≤ x) (hy : 0 ≤ y) : Int.gcd y (x.tmod y) = Int.gcd x y := by
 obtain ⟨m, rfl⟩ := Int.eq_ofNat_of_zero_le hx
 obtain ⟨k, rfl⟩ := Int.eq_ofNat_of_zero_le hy
 have : ((m : Int).tmod (k : Int)) = ((m % k : Nat) : Int) := rfl
 rw [this]
 show Nat.gcd k (m % k) = Nat.gcd m k
 rw [Nat.gcd_comm m k, Nat.gcd_rec k m, Nat.gcd_comm]
theorem gcd_loop {s0 : St} {a0 : Act} {g : Nat} {A B : Code} {Q : Exit → Act → World → Prop}
  (hA : ∀ (e : Env) (x y : Int) (m : Nat) (ent : Nat → Ent), Runs C0 12 78 A (set (set e 0 (u64v x)) 1 (u64v y)) ⟨m, ent⟩ fun ex e' σ' => (y = 0 ∧ ex = .ret ∧ e' 4 = u64v x) ∨ (y ≠ 0 ∧ ex = .normal ∧ e' 0 = u64v x ∧ e' 1 = u64v y))
  (hB : ∀ (e : Env) (x y : Int) (m : Nat) (ent : Nat → Ent), y ≠ 0 → Runs C0 12 78 B (set (set e 0 (u64v x)) 1 (u64v y)) ⟨m, ent⟩ fun ex e' σ' => ex = .normal ∧ e' 0 = u64v y ∧ e' 1 = u64v (x.tmod y))
  (hQ : ∀ e σ a w ι, Aft s0 12 a0 e σ a w ι → e 4 = u64v g → Q .ret a w) :
  ∀ a w, gcdJ s0 a0 g a w → (Code.seq A (.seq B (.goto 0))).wp Try.prog (Exit.jump 0 (fun a' w' => gcdJ s0 a0 g a' w' ∧ uOf (a'.tmps.getD 1 Go.undef) < uOf (a.tmps.getD 1 Go.undef)) Q) a w := by
 rintro a w ⟨e, σ, ι, x, y, h0, hx, hy, hg⟩
 refine wp_seq ?_
 have hG : Z0T C0 ⟨w, s0.Y, σ, ι⟩ := fun g cells hg => by cases hg
 have h1 := Z6E c0_ok (fn := 78) hG h0.inv h0.env (c := A) (hA e x y σ.nx σ.ent)
 refine wp_mono h1 fun ex a1 w1 hh => ?_
 obtain ⟨x1, e1, σ1, ι1, hq, rfl, ht⟩ := hh
 have ht1 := h0.trans ht
 rcases hq with ⟨rfl, rfl, h4⟩ | ⟨hy0, rfl, k0, k1⟩
 ·refine hQ e1 σ1 a1 w1 ι1 ht1 ?_
  rw [h4, ← hg]
  have : ((Int.gcd x 0 : Nat) : Int) = x := by rw [Int.gcd_zero_right]; have := hx.1; omega
  rw [this]
 ·simp only [Ex.out, Exit.then]
  refine wp_seq ?_
  have he1 : EnvR ⟨w1, s0.Y, σ1, ι1⟩ 12 (set (set e1 0 (u64v x)) 1 (u64v y)) a1 := by
   rw [← Z4t k0, ← Z4t k1]
   exact ht.env
  have hG1 : Z0T C0 ⟨w1, s0.Y, σ1, ι1⟩ := fun g cells hg => by cases hg
  have h2 := Z6E c0_ok (fn := 78) hG1 ht.inv he1 (c := B) (hB e1 x y σ1.nx σ1.ent hy0)
  refine wp_mono h2 fun ex a2 w2 hh => ?_
  obtain ⟨x2, e2, σ2, ι2, ⟨rfl, j0, j1⟩, rfl, ht2⟩ := hh
  have ht3 := ht1.trans ht2
  have hm1 : 0 ≤ x.tmod y := Int.tmod_nonneg y hx.1
  have hm2 : x.tmod y < y := Int.tmod_lt_of_pos x (by have := hy.1; omega)
  simp only [Ex.out, Exit.then]
  refine wp_goto ⟨rfl, ⟨e2, σ2, ι2, y, x.tmod y, ?_, hy, ⟨hm1, by have := hy.2; omega⟩, ?_⟩, ?_⟩
  ·rw [← Z4t j0, ← Z4t j1]
   exact ht3
  ·rw [← hg]
   exact gcd_step hx.1 hy.1
  ·have u1 := ht2.env.2 1
   rw [j1] at u1
   have u2 := h0.env.2 1
   rw [int_val u1, int_val u2]
   simp only [uOf]
   omega
set_option maxRecDepth 100000 in
theorem gcd_calls {s : St} (hi : Inv s) {a b : Int} (ha : InUg a) (hb : InUg b) : Calls Try.prog 78 #[.int .u64 a, .int .u64 b] s.w fun en w' => ∃ v, en = .returned v ∧ ∃ σ', Post s.under (u64v (Int.gcd a b)) σ' v w' := by
 have hv : PVRs s.under [u64v a, u64v b] #[.int .u64 a, .int .u64 b] := by
  refine ⟨rfl, fun i x hx => ?_⟩
  match i with
  | 0 => simp at hx; subst hx; exact .v (.int _ _)
  | 1 => simp at hx; subst hx; exact .v (.int _ _)
  | i + 2 => simp at hx
 have he := env_of (s := s.under) (k := 12) hv
 have hiu := Z8c hi
 have hG : Z0T C0 s.under := fun g cells hg => by cases hg
 refine (callsIn_wide (n := 0)).1 (callsIn_of_wp_marks Try.func78 rfl trivial ?_ rfl)
 refine wpIn_wide.2 ?_
 have hQ : ∀ e σ a' w ι, Aft s.under 12 { tmps := #[Value.int .u64 a, Value.int .u64 b] ++ Array.replicate (12 - 2) undef, defers := [] } e σ a' w ι → e 4 = u64v (Int.gcd a b) →
   bodyPostM Fence.wide 0 Try.prog Try.f78 (fun en w' => ∃ v, en = .returned v ∧ ∃ σ', Post s.under (u64v (Int.gcd a b)) σ' v w') .ret a' w := by
  intro e σ a' w ι ht h4
  exact leaves_ok (X := C0) (fu := Try.f78) (xs := [e 4]) rfl ht rfl fun v w' hp => ⟨v, rfl, σ, by rw [← h4]; exact hp⟩
 refine wp_seq ?_
 refine wp_mono (Z6E (X := C0) (s := s.under) c0_ok (fn := 78) hG hiu he (Q := fun ex e' σ' => ex = .normal ∧ e' 0 = u64v a ∧ e' 1 = u64v b) ?_) ?_
 ·show Runs C0 12 78 _ _ ⟨0, fun _ => .none⟩ _
  repeat' first
   | (apply Ops.moveV; exact rfl; exact rfl)
   | (apply Ops.int; exact rfl; exact rfl; exact rfl; exact rfl; exact rfl)
   | (apply Ops.Z7l; exact rfl; exact rfl)
   | apply Runs.then
   | (apply Runs.region; exact rfl)
   | apply Ops.nil
   | (apply Ops.extract; exact rfl; exact rfl; exact rfl)
   | (apply Ops.moveT; exact rfl; exact rfl)
   | (apply Ops.moveA; exact rfl; exact rfl)
   | (apply Ops.Z7x; exact rfl; exact rfl)
   | (apply Ops.not; exact rfl; exact rfl)
   | (apply Ops.neg; exact rfl; exact rfl)
   | (apply Ops.conv; exact rfl; exact rfl; exact rfl; exact rfl)
   | (apply Ops.shr; exact rfl; exact rfl; decide; exact rfl)
   | (apply Ops.shl; exact rfl; exact rfl; decide; exact rfl)
   | (apply Ops.neB; exact rfl; exact rfl; exact rfl; exact rfl)
   | (apply Ops.eqB; exact rfl; exact rfl; exact rfl; exact rfl)
   | (apply Ops.pickTV; exact rfl; exact rfl; exact rfl)
   | (apply Ops.pickFV; exact rfl; exact rfl; exact rfl)
   | (apply Ops.want; exact rfl; exact rfl)
   | (apply Ops.pass; exact rfl; exact rfl; exact rfl)
   | (apply Ops.Z0j; exact rfl; exact rfl; exact rfl)
   | (apply Runs.drawn; kernel_rfl; exact rfl)
   | apply Runs.inBlock
   | (apply Ops.knownT; exact rfl; exact rfl; assumption)
   | (apply Ops.knownF; exact rfl; exact rfl; assumption)
   | (refine Ops.split rfl rfl ?_ ?_ <;> intro _)
   | (apply Runs.yes; exact rfl)
   | (apply Runs.no; exact rfl)
   | (apply Runs.yesB; exact rfl; assumption)
   | (apply Runs.noB; exact rfl; assumption)
   | (refine Runs.whether rfl ?_ ?_ <;> intro _)
   | apply Runs.skip
   | apply Runs.ret
   | apply Runs.exit
   | (apply Ends.ret; exact rfl; exact rfl)
   | (apply Ends.normal; exact rfl; exact rfl)
  all_goals exact ⟨rfl, rfl, rfl⟩
 rintro ex a1 w1 ⟨x1, e1, σ1, ι1, ⟨rfl, k0, k1⟩, rfl, ht⟩
 have ht' : Aft s.under 12 { tmps := #[Value.int .u64 a, Value.int .u64 b] ++ Array.replicate (12 - 2) undef, defers := [] } (set (set e1 0 (u64v a)) 1 (u64v b)) σ1 a1 w1 ι1 := by
  rw [← Z4t k0, ← Z4t k1]
  exact ht
 simp only [Ex.out, Exit.then]
 refine wp_scope_jumps 0 (gcdJ s.under { tmps := #[Value.int .u64 a, Value.int .u64 b] ++ Array.replicate (12 - 2) undef, defers := [] } (Int.gcd a b)) (fun a' _ => uOf (a'.tmps.getD 1 Go.undef)) rfl ?_ ?_
 ·refine wp_seq (wp_label ?_)
  refine wp_mono (gcd_loop ?_ ?_ hQ a1 w1 ⟨e1, σ1, ι1, a, b, ht', ha, hb, rfl⟩) fun ex a2 w2 hh => ?_
  ·intro e x y m ent
   repeat' first
    | (apply Ops.moveV; exact rfl; exact rfl)
    | (apply Ops.int; exact rfl; exact rfl; exact rfl; exact rfl; exact rfl)
    | (apply Ops.Z7l; exact rfl; exact rfl)
    | apply Runs.then
    | (apply Runs.region; exact rfl)
    | apply Ops.nil
    | (apply Ops.extract; exact rfl; exact rfl; exact rfl)
    | (apply Ops.moveT; exact rfl; exact rfl)
    | (apply Ops.moveA; exact rfl; exact rfl)
    | (apply Ops.Z7x; exact rfl; exact rfl)
    | (apply Ops.not; exact rfl; exact rfl)
    | (apply Ops.neg; exact rfl; exact rfl)
    | (apply Ops.conv; exact rfl; exact rfl; exact rfl; exact rfl)
    | (apply Ops.shr; exact rfl; exact rfl; decide; exact rfl)
    | (apply Ops.shl; exact rfl; exact rfl; decide; exact rfl)
    | (apply Ops.neB; exact rfl; exact rfl; exact rfl; exact rfl)
    | (apply Ops.eqB; exact rfl; exact rfl; exact rfl; exact rfl)
    | (apply Ops.pickTV; exact rfl; exact rfl; exact rfl)
    | (apply Ops.pickFV; exact rfl; exact rfl; exact rfl)
    | (apply Ops.want; exact rfl; exact rfl)
    | (apply Ops.pass; exact rfl; exact rfl; exact rfl)
    | (apply Ops.Z0j; exact rfl; exact rfl; exact rfl)
    | (apply Runs.drawn; kernel_rfl; exact rfl)
    | apply Runs.inBlock
    | (apply Ops.knownT; exact rfl; exact rfl; assumption)
    | (apply Ops.knownF; exact rfl; exact rfl; assumption)
    | (refine Ops.split rfl rfl ?_ ?_ <;> intro _)
    | (apply Runs.yes; exact rfl)
    | (apply Runs.no; exact rfl)
    | (apply Runs.yesB; exact rfl; assumption)
    | (apply Runs.noB; exact rfl; assumption)
    | (refine Runs.whether rfl ?_ ?_ <;> intro _)
    | apply Runs.skip
    | apply Runs.ret
    | apply Runs.exit
    | (apply Ends.ret; exact rfl; exact rfl)
    | (apply Ends.normal; exact rfl; exact rfl)
   ·rename_i h
    exact .inl ⟨eq_of_beq h, rfl, rfl⟩
   ·rename_i h
    exact .inr ⟨ne_of_beq_false h, rfl, rfl, rfl⟩
  ·intro e x y m ent hy
   repeat' first
    | (apply Ops.moveV; exact rfl; exact rfl)
    | (apply Ops.int; exact rfl; exact rfl; exact rfl; exact rfl; exact rfl)
    | (apply Ops.Z7l; exact rfl; exact rfl)
    | apply Runs.then
    | (apply Runs.region; exact rfl)
    | apply Ops.nil
    | (apply Ops.extract; exact rfl; exact rfl; exact rfl)
    | (apply Ops.moveT; exact rfl; exact rfl)
    | (apply Ops.moveA; exact rfl; exact rfl)
    | (apply Ops.Z7x; exact rfl; exact rfl)
    | (apply Ops.not; exact rfl; exact rfl)
    | (apply Ops.neg; exact rfl; exact rfl)
    | (apply Ops.conv; exact rfl; exact rfl; exact rfl; exact rfl)
    | (apply Ops.shr; exact rfl; exact rfl; decide; exact rfl)
    | (apply Ops.shl; exact rfl; exact rfl; decide; exact rfl)
    | (apply Ops.neB; exact rfl; exact rfl; exact rfl; exact rfl)
    | (apply Ops.eqB; exact rfl; exact rfl; exact rfl; exact rfl)
    | (apply Ops.pickTV; exact rfl; exact rfl; exact rfl)
    | (apply Ops.pickFV; exact rfl; exact rfl; exact rfl)
    | (apply Ops.want; exact rfl; exact rfl)
    | (apply Ops.pass; exact rfl; exact rfl; exact rfl)
    | (apply Ops.Z0j; exact rfl; exact rfl; exact rfl)
    | (apply Runs.drawn; kernel_rfl; exact rfl)
    | apply Runs.inBlock
    | refine Ops.rem rfl rfl hy rfl ?_
    | (apply Ops.knownT; exact rfl; exact rfl; assumption)
    | (apply Ops.knownF; exact rfl; exact rfl; assumption)
    | (refine Ops.split rfl rfl ?_ ?_ <;> intro _)
    | (apply Runs.yes; exact rfl)
    | (apply Runs.no; exact rfl)
    | (apply Runs.yesB; exact rfl; assumption)
    | (apply Runs.noB; exact rfl; assumption)
    | (refine Runs.whether rfl ?_ ?_ <;> intro _)
    | apply Runs.skip
    | apply Runs.ret
    | apply Runs.exit
    | (apply Ends.ret; exact rfl; exact rfl)
    | (apply Ends.normal; exact rfl; exact rfl)
   all_goals exact ⟨rfl, rfl, rfl⟩
  ·cases ex <;> first | exact hh | exact ⟨hh.1, hh.2.1⟩
 ·intro a2 w2 hj
  refine wp_seq (wp_skip ?_)
  refine gcd_loop ?_ ?_ hQ a2 w2 hj
  ·intro e x y m ent
   repeat' first
    | (apply Ops.moveV; exact rfl; exact rfl)
    | (apply Ops.int; exact rfl; exact rfl; exact rfl; exact rfl; exact rfl)
    | (apply Ops.Z7l; exact rfl; exact rfl)
    | apply Runs.then
    | (apply Runs.region; exact rfl)
    | apply Ops.nil
    | (apply Ops.extract; exact rfl; exact rfl; exact rfl)
    | (apply Ops.moveT; exact rfl; exact rfl)
    | (apply Ops.moveA; exact rfl; exact rfl)
    | (apply Ops.Z7x; exact rfl; exact rfl)
    | (apply Ops.not; exact rfl; exact rfl)
    | (apply Ops.neg; exact rfl; exact rfl)
    | (apply Ops.conv; exact rfl; exact rfl; exact rfl; exact rfl)
    | (apply Ops.shr; exact rfl; exact rfl; decide; exact rfl)
    | (apply Ops.shl; exact rfl; exact rfl; decide; exact rfl)
    | (apply Ops.neB; exact rfl; exact rfl; exact rfl; exact rfl)
    | (apply Ops.eqB; exact rfl; exact rfl; exact rfl; exact rfl)
    | (apply Ops.pickTV; exact rfl; exact rfl; exact rfl)
    | (apply Ops.pickFV; exact rfl; exact rfl; exact rfl)
    | (apply Ops.want; exact rfl; exact rfl)
    | (apply Ops.pass; exact rfl; exact rfl; exact rfl)
    | (apply Ops.Z0j; exact rfl; exact rfl; exact rfl)
    | (apply Runs.drawn; kernel_rfl; exact rfl)
    | apply Runs.inBlock
    | (apply Ops.knownT; exact rfl; exact rfl; assumption)
    | (apply Ops.knownF; exact rfl; exact rfl; assumption)
    | (refine Ops.split rfl rfl ?_ ?_ <;> intro _)
    | (apply Runs.yes; exact rfl)
    | (apply Runs.no; exact rfl)
    | (apply Runs.yesB; exact rfl; assumption)
    | (apply Runs.noB; exact rfl; assumption)
    | (refine Runs.whether rfl ?_ ?_ <;> intro _)
    | apply Runs.skip
    | apply Runs.ret
    | apply Runs.exit
    | (apply Ends.ret; exact rfl; exact rfl)
    | (apply Ends.normal; exact rfl; exact rfl)
   ·rename_i h
    exact .inl ⟨eq_of_beq h, rfl, rfl⟩
   ·rename_i h
    exact .inr ⟨ne_of_beq_false h, rfl, rfl, rfl⟩
  ·intro e x y m ent hy
   repeat' first
    | (apply Ops.moveV; exact rfl; exact rfl)
    | (apply Ops.int; exact rfl; exact rfl; exact rfl; exact rfl; exact rfl)
    | (apply Ops.Z7l; exact rfl; exact rfl)
    | apply Runs.then
    | (apply Runs.region; exact rfl)
    | apply Ops.nil
    | (apply Ops.extract; exact rfl; exact rfl; exact rfl)
    | (apply Ops.moveT; exact rfl; exact rfl)
    | (apply Ops.moveA; exact rfl; exact rfl)
    | (apply Ops.Z7x; exact rfl; exact rfl)
    | (apply Ops.not; exact rfl; exact rfl)
    | (apply Ops.neg; exact rfl; exact rfl)
    | (apply Ops.conv; exact rfl; exact rfl; exact rfl; exact rfl)
    | (apply Ops.shr; exact rfl; exact rfl; decide; exact rfl)
    | (apply Ops.shl; exact rfl; exact rfl; decide; exact rfl)
    | (apply Ops.neB; exact rfl; exact rfl; exact rfl; exact rfl)
    | (apply Ops.eqB; exact rfl; exact rfl; exact rfl; exact rfl)
    | (apply Ops.pickTV; exact rfl; exact rfl; exact rfl)
    | (apply Ops.pickFV; exact rfl; exact rfl; exact rfl)
    | (apply Ops.want; exact rfl; exact rfl)
    | (apply Ops.pass; exact rfl; exact rfl; exact rfl)
    | (apply Ops.Z0j; exact rfl; exact rfl; exact rfl)
    | (apply Runs.drawn; kernel_rfl; exact rfl)
    | apply Runs.inBlock
    | refine Ops.rem rfl rfl hy rfl ?_
    | (apply Ops.knownT; exact rfl; exact rfl; assumption)
    | (apply Ops.knownF; exact rfl; exact rfl; assumption)
    | (refine Ops.split rfl rfl ?_ ?_ <;> intro _)
    | (apply Runs.yes; exact rfl)
    | (apply Runs.no; exact rfl)
    | (apply Runs.yesB; exact rfl; assumption)
    | (apply Runs.noB; exact rfl; assumption)
    | (refine Runs.whether rfl ?_ ?_ <;> intro _)
    | apply Runs.skip
    | apply Runs.ret
    | apply Runs.exit
    | (apply Ends.ret; exact rfl; exact rfl)
    | (apply Ends.normal; exact rfl; exact rfl)
   all_goals exact ⟨rfl, rfl, rfl⟩
set_option maxRecDepth 100000 in
theorem cloneT38 : CloneT Try.prog 37 59 2 16 [.v (.int .i64 0), .v (.int .i64 0)] := ⟨rfl, rfl, rfl, rfl, rfl⟩
theorem pvrs_one' {s : St} {x : PV} {vs : Array Value} (h : PVRs s [x] vs) : ∃ v, vs = #[v] ∧ PVR s x v := by
 obtain ⟨hl, hx⟩ := h
 have : vs.size = 1 := hl.symm
 refine ⟨vs.getD 0 Go.undef, ?_, hx 0 x rfl⟩
 apply Array.ext
 ·simpa using this
 ·intro i h1 h2
  have : i = 0 := by simp at h2; omega
  subst this
  simp [Array.getD, h1]
theorem ca_ok : CtxOK CA := by
 refine ⟨prog_ok, fun f args r h s hi hG vs hv hp => ?_⟩
 simp only [CA] at h
 split at h
 ·rename_i hf
  subst hf
  refine ⟨prog_call 78 _ _ _ Try.func78 rfl, ?_⟩
  unfold gcdV at h
  split at h
  ·rename_i a b
   split at h
   ·rename_i hab
    cases h
    obtain ⟨v0, v1, rfl, h0, h1⟩ := pvrs_two hv
    obtain rfl := Z1m h0
    obtain rfl := Z1m h1
    exact intr_under hi rfl (gcd_calls hi hab.1 hab.2)
   ·cases h
  ·cases h
 split at h
 ·rename_i hf
  subst hf
  refine ⟨prog_call 38 _ _ _ Try.func38 rfl, ?_⟩
  unfold cloneV at h
  split at h
  ·split at h
   ·rename_i xs hx
    cases h
    obtain ⟨v, rfl, hv1⟩ := pvrs_one' hv
    exact clone_calls (X := C0) (b := 4) c0_ok Try.func38 rfl rfl rfl (fun _ => rfl) cloneT38 hi hx.1 hx.2 hv1
   ·cases h
  ·cases h
 cases h
noncomputable def CX : Ctx := { P := Try.prog, glob := fun _ => none, intr := fun f args => CA.intr f args, opn := fun f => f == 31 || f == 54 || f == 63 || f == 65 || f == 95, keep := fun f => f == 63 }
theorem cx_ok : CtxOK CX := by
 refine ⟨prog_ok, fun f args r h s hi hG vs hv hp => ?_⟩
 simp only [CX] at h
 exact ca_ok.intr f args r h s hi hG vs hv hp
theorem cx_intr38 (args : List PV) : CX.intr 38 args = cloneV 2 16 args := rfl
theorem cx_intr78 (args : List PV) : CX.intr 78 args = gcdV args := rfl
end Go.Dn

namespace Go.Dn
open Go
noncomputable section
structure Span where
 From : Int
 To : Int
 deriving DecidableEq
def Span.cs (x : Span) : List FV := [(.int .i64 x.From), (.int .i64 x.To)]
def Span.ok (x : Span) : Prop := okI .i64 x.From ∧ okI .i64 x.To
structure Granule where
 Index : Int
 Ticks : (List Span)
 deriving DecidableEq
def Granule.cs (x : Granule) : List FV := [(.int .i64 x.Index), (.sl (x.Ticks.map Span.cs))]
def Granule.ok (x : Granule) : Prop := okI .i64 x.Index ∧ okL 16 Span.ok x.Ticks
structure Form where
 Period : Int
 Count : Int
 Core : (List (List Span))
 Odd : (List Granule)
 deriving DecidableEq
def Form.cs (x : Form) : List FV := [(.int .i64 x.Period), (.int .i64 x.Count), (.sl (x.Core.map (cL Span.cs))), (.sl (x.Odd.map Granule.cs))]
def Form.ok (x : Form) : Prop := okI .i64 x.Period ∧ okI .i64 x.Count ∧ okL 24 (okL 16 Span.ok) x.Core ∧ okL 32 Granule.ok x.Odd
def Z05.s0 (f : Form) (s1 : Int × Int) : Option ((Int × Int) ⊕ (Int)) :=
 (bif (decide (s1.2 < (f.Core.length : Int))) then
  (at? f.Core s1.2).bind fun x1 =>
  some (.inl ((w64 (s1.1 + (x1.length : Int))), (w64 (s1.2 + 1))))
 else
  some (.inr s1.1))
def Z05.s1 (f : Form) (s2 : Int × Int) : Option ((Int × Int) ⊕ (Int)) :=
 (bif (decide (s2.2 < (f.Odd.length : Int))) then
  (at? f.Odd s2.2).bind fun x2 =>
  some (.inl ((w64 (s2.1 + (x2.Ticks.length : Int))), (w64 (s2.2 + 1))))
 else
  some (.inr s2.1))
def Z05 (f : Form) : Option (Int) :=
 (ZN (Z05.s0 f) (0, 0)).bind fun (y1 : Int) =>
 (ZN (Z05.s1 f) (y1, 0)).bind fun (y2 : Int) =>
 some y2
def Z0p (f : Form) : Option (Bool) :=
 (
  (bif ((decide ((f.Core.length : Int) ≤ 12)) && (decide ((f.Odd.length : Int) ≤ 8))) then
   (Z05 f).bind fun x1 =>
   some (decide (x1 ≤ 60))
  else
   some false)).bind fun (y1 : Bool) =>
 some y1
def ZX (t : Int) : Bool :=
 ((decide (t ≥ (-1099511627776))) && (decide (t ≤ 1099511627776)))
def Z07.s0 (l : (List Span)) (s1 : Int) : Option ((Int) ⊕ (Jx (Unit) (Bool))) :=
 (bif (decide (s1 < (l.length : Int))) then
  (at? l s1).bind fun x1 =>
  (
   (bif (((!(ZX x1.From)) || (!(ZX x1.To))) || (decide (x1.From > x1.To))) then
    some true
   else
    (
     (bif (decide (s1 > 0)) then
      (at? l (w64 (s1 - 1))).bind fun x2 =>
      some (decide (x1.From < (w64 (x2.To + 2))))
     else
      some false)).bind fun (y3 : Bool) =>
    some y3)).bind fun (y2 : Bool) =>
  (bif y2 then
   some (.inr (.ret false))
  else
   some (.inl (w64 (s1 + 1))))
 else
  some (.inr (.go ())))
def Z07 (l : (List Span)) : Option (Bool) :=
 (ZN (Z07.s0 l) 0).bind fun (y1 : Jx (Unit) (Bool)) =>
 y1.elim (fun r' =>
   some r') fun a2 =>
 some true
def Zn (i : Int) : Bool :=
 ((decide (i ≥ (-1099511627776))) && (decide (i ≤ 1099511627776)))
def Zj.s0 (f : Form) (s1 : Int) : Option ((Int) ⊕ (Jx (Unit) (Bool))) :=
 (bif (decide (s1 < (f.Core.length : Int))) then
  (at? f.Core s1).bind fun x1 =>
  (Z07 x1).bind fun x2 =>
  (bif (!x2) then
   some (.inr (.ret false))
  else
   some (.inl (w64 (s1 + 1))))
 else
  some (.inr (.go ())))
def Zj.s1 (f : Form) (s2 : Int) : Option ((Int) ⊕ (Jx (Unit) (Bool))) :=
 (bif (decide (s2 < (f.Odd.length : Int))) then
  (at? f.Odd s2).bind fun x3 =>
  (Z07 x3.Ticks).bind fun x4 =>
  (
   (bif ((!x4) || (!(Zn x3.Index))) then
    some true
   else
    (
     (bif (decide (s2 > 0)) then
      (at? f.Odd (w64 (s2 - 1))).bind fun x5 =>
      some (decide (x3.Index ≤ x5.Index))
     else
      some false)).bind fun (y4 : Bool) =>
    some y4)).bind fun (y3 : Bool) =>
  (bif y3 then
   some (.inr (.ret false))
  else
   some (.inl (w64 (s2 + 1))))
 else
  some (.inr (.go ())))
def Zj (f : Form) : Option (Bool) :=
 (bif ((((f.Count != (f.Core.length : Int)) || ((f.Count == 0) != (f.Period == 0))) || (decide (f.Period < 0))) || (decide (f.Period > 1099511627776))) then
  some false
 else
  (ZN (Zj.s0 f) 0).bind fun (y1 : Jx (Unit) (Bool)) =>
  y1.elim (fun r' =>
    some r') fun a2 =>
  (ZN (Zj.s1 f) 0).bind fun (y2 : Jx (Unit) (Bool)) =>
  y2.elim (fun r' =>
    some r') fun a4 =>
  some true)
def Z08.s0 (f : Form) (s2 : Int × (List (List Span))) : Option ((Int × (List (List Span))) ⊕ ((List (List Span)))) :=
 (bif (decide (s2.1 < (f.Core.length : Int))) then
  (
   (
    (at? f.Core s2.1).bind fun x1 =>
    (bif (decide ((x1.length : Int) > 0)) then
     (app? 24 s2.2 [x1]).bind fun x2 =>
     some x2
    else
     some s2.2)).bind fun (y3 : (List (List Span))) =>
   some y3).bind fun (y2 : (List (List Span))) =>
  some (.inl ((w64 (s2.1 + 1)), y2))
 else
  some (.inr s2.2))
def Z08.s1 (f : Form) (y1 : (List (List Span))) (s3 : Int) : Option ((Int) ⊕ (Jx (Unit) (Bool))) :=
 (bif (decide (s3 < (y1.length : Int))) then
  (
   (
    (at? y1 s3).bind fun x3 =>
    (nz? (y1.length : Int)).bind fun u1 =>
    (at? y1 ((w64 (s3 + 1)).tmod (y1.length : Int))).bind fun x4 =>
    (
     (bif ((w64 (s3 + 1)) == (y1.length : Int)) then
      some f.Period
     else
      some 0)).bind fun (y7 : Int) =>
    (at? x3 (w64 ((x3.length : Int) - 1))).bind fun x5 =>
    (at? x4 0).bind fun x6 =>
    (bif (decide (x5.To ≥ (w64 (x6.From + y7)))) then
     some (.ret false)
    else
     some (.go ()))).bind fun (y6 : Jx (Unit) (Bool)) =>
   y6.elim (fun r' =>
     some (.ret r')) fun a4 =>
   some (.go ())).bind fun (y5 : Jx (Unit) (Bool)) =>
  y5.elim (fun r' =>
    some (.inr (.ret r'))) fun a5 =>
  some (.inl (w64 (s3 + 1)))
 else
  some (.inr (.go ())))
def Z08 (f : Form) : Option (Bool) :=
 (ZN (Z08.s0 f) (0, [])).bind fun (y1 : (List (List Span))) =>
 (ZN (Z08.s1 f y1) 0).bind fun (y4 : Jx (Unit) (Bool)) =>
 y4.elim (fun r' =>
   some r') fun a6 =>
 some true
def Z6.s0 (x' : (List Granule)) (target : Int) (cmp : Granule → Int → Option Int) (s1 : Int × Int) : Option ((Int × Int) ⊕ (Int)) :=
 (bif (decide (s1.1 < s1.2)) then
  (
   (at? x' (w64 ((IntKind.u64.wrap (w64 (s1.1 + s1.2))).fdiv (2 ^ 1)))).bind fun x1 =>
   (cmp x1 target).bind fun x2 =>
   (bif (decide (x2 < 0)) then
    some ((w64 ((w64 ((IntKind.u64.wrap (w64 (s1.1 + s1.2))).fdiv (2 ^ 1))) + 1)), s1.2)
   else
    some (s1.1, (w64 ((IntKind.u64.wrap (w64 (s1.1 + s1.2))).fdiv (2 ^ 1)))))).bind fun (y2 : Int × Int) =>
  some (.inl (y2.1, y2.2))
 else
  some (.inr s1.1))
def Z6 (x' : (List Granule)) (target : Int) (cmp : Granule → Int → Option Int) : Option (Int × Bool) :=
 (ZN (Z6.s0 x' target cmp) (0, (x'.length : Int))).bind fun (y1 : Int) =>
 (
  (bif (decide (y1 < (x'.length : Int))) then
   (at? x' y1).bind fun x3 =>
   (cmp x3 target).bind fun x4 =>
   some (x4 == 0)
  else
   some false)).bind fun (y3 : Bool) =>
 some (y1, y3)
def Zw (x' : Int) : Bool :=
 (x' != x')
def Z0V (x' : Int) (y : Int) : Int :=
 (bif (Zw x') then
  (bif (Zw y) then
   0
  else
   (-1))
 else
  (bif (Zw y) then
   1
  else
   (bif (decide (x' < y)) then
    (-1)
   else
    (bif (decide (x' > y)) then
     1
    else
     0))))
def Z2o (g : Granule) (i : Int) : Int :=
 (Z0V g.Index i)
def Z3b (f : Form) (i : Int) : Option (Int × Bool) :=
 (Z6 f.Odd i (fun z0 z1 => some (Z2o z0 z1))).bind fun x1 =>
 some (x1.1, x1.2)
def Z0l (a : Int) (b : Int) : Option (Int × Int × Int) :=
 (bif (b == 0) then
  some (0, 0, 11)
 else
  (bif ((b == (-1)) && (a == (-9223372036854775808))) then
   some (0, 0, 10)
  else
   (nz? b).bind fun u1 =>
   (nz? b).bind fun u2 =>
   (
    (bif (((a.tmod b) != 0) && ((decide ((a.tmod b) < 0)) != (decide (b < 0)))) then
     some ((w64 ((w64 (a.tdiv b)) - 1)), (w64 ((a.tmod b) + b)))
    else
     some ((w64 (a.tdiv b)), (a.tmod b)))).bind fun (y1 : Int × Int) =>
   some (y1.1, y1.2, 0)))
def Z3 (a : Int) : Int :=
 (bif (decide (a < 0)) then
  (IntKind.u64.wrap (0 - (IntKind.u64.wrap a)))
 else
  (IntKind.u64.wrap a))
def Z4 (x' : Int) (y : Int) : Int × Int :=
 ((IntKind.u64.wrap ((IntKind.u64.wrap ((IntKind.u64.wrap ((x'.fdiv (2 ^ 32)) * (y.fdiv (2 ^ 32)))) + ((IntKind.u64.wrap ((IntKind.u64.wrap ((x'.fdiv (2 ^ 32)) * (iAnd .u64 y 4294967295))) + ((IntKind.u64.wrap ((iAnd .u64 x' 4294967295) * (iAnd .u64 y 4294967295))).fdiv (2 ^ 32)))).fdiv (2 ^ 32)))) + ((IntKind.u64.wrap ((iAnd .u64 (IntKind.u64.wrap ((IntKind.u64.wrap ((x'.fdiv (2 ^ 32)) * (iAnd .u64 y 4294967295))) + ((IntKind.u64.wrap ((iAnd .u64 x' 4294967295) * (iAnd .u64 y 4294967295))).fdiv (2 ^ 32)))) 4294967295) + (IntKind.u64.wrap ((iAnd .u64 x' 4294967295) * (y.fdiv (2 ^ 32)))))).fdiv (2 ^ 32)))), (IntKind.u64.wrap (x' * y)))
def Zb (n : Int) (minus : Bool) : Int × Int :=
 (bif (minus && (decide (n ≤ 9223372036854775808))) then
  ((w64 (IntKind.u64.wrap (0 - n))), 0)
 else
  (bif ((!minus) && (decide (n ≤ 9223372036854775807))) then
   ((w64 n), 0)
  else
   (0, 10)))
def ZB (a : Int) (b : Int) : Int × Int :=
 (bif (((Z4 (Z3 a) (Z3 b)).1) != 0) then
  (0, 10)
 else
  ((Zb ((Z4 (Z3 a) (Z3 b)).2) ((decide (a < 0)) != (decide (b < 0)))).1, (Zb ((Z4 (Z3 a) (Z3 b)).2) ((decide (a < 0)) != (decide (b < 0)))).2))
def Z1x (f : Form) (i : Int) : Option ((List Span) × Int × Int) :=
 (Z3b f i).bind fun x1 =>
 (bif x1.2 then
  (at? f.Odd x1.1).bind fun x2 =>
  some (x2.Ticks, 0, 0)
 else
  (bif (f.Count == 0) then
   some ([], 0, 0)
  else
   (Z0l i f.Count).bind fun x3 =>
   (at? f.Core x3.2.1).bind fun x4 =>
   some (x4, (ZB x3.1 f.Period).1, (ZB x3.1 f.Period).2)))
def ZC (a : Int) (b : Int) : Int × Int :=
 (bif (((decide ((w64 (a + b)) > a)) != (decide (b > 0))) && (b != 0)) then
  (0, 10)
 else
  ((w64 (a + b)), 0))
def Z0A.s0 (l : (List Span)) (by' : Int) (s2 : Int × (List Span)) : Option ((Int × (List Span)) ⊕ (Jx ((List Span)) ((List Span) × Int))) :=
 (bif (decide (s2.1 < (l.length : Int))) then
  (at? l s2.1).bind fun x1 =>
  (bif ((((((ZC x1.From by').2) != 0) || (((ZC x1.To by').2) != 0)) || (!(ZX ((ZC x1.From by').1)))) || (!(ZX ((ZC x1.To by').1)))) then
   some (.inr (.ret ([], 20)))
  else
   (app? 16 s2.2 [(Span.mk ((ZC x1.From by').1) ((ZC x1.To by').1))]).bind fun x2 =>
   some (.inl ((w64 (s2.1 + 1)), x2)))
 else
  some (.inr (.go s2.2)))
def Z0A (l : (List Span)) (by' : Int) : Option ((List Span) × Int) :=
 (ZN (Z0A.s0 l by') (0, [])).bind fun (y1 : Jx ((List Span)) ((List Span) × Int)) =>
 y1.elim (fun r' =>
   some r') fun a2 =>
 some (a2, 0)
def Z0B (f : Form) (i : Int) : Option ((List Span) × Int) :=
 (bif (!(Zn i)) then
  some ([], 20)
 else
  (Z1x f i).bind fun x1 =>
  (bif ((x1.1.length : Int) == 0) then
   some ([], 0)
  else
   (bif (x1.2.2 != 0) then
    some ([], 20)
   else
    (Z0A x1.1 x1.2.1).bind fun x2 =>
    some (x2.1, x2.2))))
def ZF.s0 (s : (List (List Span))) (f : (List Span) → Option Bool) (s1 : Int) : Option ((Int) ⊕ (Jx (Unit) (Int))) :=
 (bif (decide (s1 < (s.length : Int))) then
  (at? s s1).bind fun x1 =>
  (f x1).bind fun x2 =>
  (bif x2 then
   some (.inr (.ret s1))
  else
   some (.inl (w64 (s1 + 1))))
 else
  some (.inr (.go ())))
def ZF (s : (List (List Span))) (f : (List Span) → Option Bool) : Option (Int) :=
 (ZN (ZF.s0 s f) 0).bind fun (y1 : Jx (Unit) (Int)) =>
 y1.elim (fun r' =>
   some r') fun a2 =>
 some (-1)
def ZZ (s : (List (List Span))) (f : (List Span) → Option Bool) : Option (Bool) :=
 (ZF s f).bind fun x1 =>
 some (decide (x1 ≥ 0))
def Z3Y (l : (List Span)) : Bool :=
 (decide ((l.length : Int) > 0))
def Z2V (f : Form) : Option (Bool) :=
 (ZZ f.Core (fun z0 => some (Z3Y z0))).bind fun x1 =>
 some (!x1)
def Z3B (f : Form) (i : Int) : Option (Bool) :=
 (Z1x f i).bind fun x1 =>
 some (decide ((x1.1.length : Int) > 0))
def Zs.s0 (f : Form) (by' : Int) (s1 : Int) : Option ((Int) ⊕ (Jx (Unit) (Int × Bool))) :=
 (bif ((decide (s1 ≥ 0)) && (decide (s1 < (f.Odd.length : Int)))) then
  (at? f.Odd s1).bind fun x3 =>
  (bif (decide ((x3.Ticks.length : Int) > 0)) then
   (at? f.Odd s1).bind fun x4 =>
   some (.inr (.ret (x4.Index, true)))
  else
   some (.inl (w64 (s1 + by'))))
 else
  some (.inr (.go ())))
def Zs.s1 (f : Form) (by' : Int) (s2 : Int) : Option ((Int) ⊕ (Jx (Unit) (Int × Bool))) :=
 (bif (Zn s2) then
  (Z3B f s2).bind fun x5 =>
  (bif x5 then
   some (.inr (.ret (s2, true)))
  else
   some (.inl (w64 (s2 + by'))))
 else
  some (.inr (.go ())))
def Zs (f : Form) (from' : Int) (by' : Int) : Option (Int × Bool) :=
 (Z2V f).bind fun x1 =>
 (bif x1 then
  (Z3b f from').bind fun x2 =>
  (
   (bif ((decide (by' < 0)) && (!x2.2)) then
    some (w64 (x2.1 - 1))
   else
    some x2.1)).bind fun (y1 : Int) =>
  (ZN (Zs.s0 f by') y1).bind fun (y2 : Jx (Unit) (Int × Bool)) =>
  y2.elim (fun r' =>
    some r') fun a2 =>
  some (0, false)
 else
  (ZN (Zs.s1 f by') from').bind fun (y3 : Jx (Unit) (Int × Bool)) =>
  y3.elim (fun r' =>
    some r') fun a4 =>
  some (0, false))
def Z15 (f : Form) (i : Int) : Option (Int × Bool) :=
 (bif (decide (i ≤ (-1099511627776))) then
  some (0, false)
 else
  (Zs f (iMin (w64 (i - 1)) 1099511627776) (-1)).bind fun x1 =>
  some (x1.1, x1.2))
def Z0t (f : Form) (i : Int) : Option (Int × Bool) :=
 (bif (decide (i ≥ 1099511627776)) then
  some (0, false)
 else
  (Zs f (iMax (w64 (i + 1)) (-1099511627776)) 1).bind fun x1 =>
  some (x1.1, x1.2))
def Z0R (a : (List Span)) (b : (List Span)) : Option (Bool) :=
 (
  (bif (((a.length : Int) == 0) || ((b.length : Int) == 0)) then
   some true
  else
   (at? a (w64 ((a.length : Int) - 1))).bind fun x1 =>
   (at? b 0).bind fun x2 =>
   some (decide (x1.To < x2.From)))).bind fun (y1 : Bool) =>
 some y1
def Z1S (f : Form) (i : Int) : Option (Bool) :=
 (Z0B f i).bind fun x1 =>
 (bif (x1.2 != 0) then
  some false
 else
  (Z15 f i).bind fun x2 =>
  (Z0t f i).bind fun x3 =>
  (
   (bif x2.2 then
    (Z0B f x2.1).bind fun x4 =>
    (bif (x4.2 != 0) then
     some (.ret false)
    else
     some (.go x4.1))
   else
    some (.go []))).bind fun (y1 : Jx ((List Span)) (Bool)) =>
  y1.elim (fun r' =>
    some r') fun a2 =>
  (
   (bif x3.2 then
    (Z0B f x3.1).bind fun x5 =>
    (bif (x5.2 != 0) then
     some (.ret false)
    else
     some (.go x5.1))
   else
    some (.go []))).bind fun (y2 : Jx ((List Span)) (Bool)) =>
  y2.elim (fun r' =>
    some r') fun a4 =>
  (Z0R a2 x1.1).bind fun x6 =>
  (
   (bif x6 then
    (Z0R x1.1 a4).bind fun x7 =>
    some x7
   else
    some false)).bind fun (y3 : Bool) =>
  (
   (bif y3 then
    (Z0R a2 a4).bind fun x8 =>
    some x8
   else
    some false)).bind fun (y4 : Bool) =>
  some y4)
def Z03.s0 (f : Form) (s1 : Int) : Option ((Int) ⊕ (Jx (Unit) (Int))) :=
 (bif (decide (s1 < (f.Odd.length : Int))) then
  (at? f.Odd s1).bind fun x4 =>
  (Z1S f x4.Index).bind fun x5 =>
  (bif (!x5) then
   some (.inr (.ret 50))
  else
   some (.inl (w64 (s1 + 1))))
 else
  some (.inr (.go ())))
def Z03 (f : Form) : Option (Int) :=
 (
  (bif ((decide ((f.Core.length : Int) > 6000)) || (decide ((f.Odd.length : Int) > 6000))) then
   some true
  else
   (Z05 f).bind fun x1 =>
   some (decide (x1 > 60000)))).bind fun (y1 : Bool) =>
 (bif y1 then
  some 3
 else
  (Zj f).bind fun x2 =>
  (
   (bif (!x2) then
    some true
   else
    (Z08 f).bind fun x3 =>
    some (!x3))).bind fun (y2 : Bool) =>
  (bif y2 then
   some 50
  else
   (ZN (Z03.s0 f) 0).bind fun (y3 : Jx (Unit) (Int)) =>
   y3.elim (fun r' =>
     some r') fun a2 =>
   some 0))
def Z3K (f : Form) : Option (Bool) :=
 (Z0p f).bind fun x1 =>
 (
  (bif x1 then
   (Z03 f).bind fun x2 =>
   some (x2 == 0)
  else
   some false)).bind fun (y1 : Bool) =>
 some y1
def Z0Y : Bool := true
def ZT.s0 (s1' : (List Span)) (s2' : (List Span)) (s1 : Int) : Option ((Int) ⊕ (Jx (Unit) (Bool))) :=
 (bif (decide (s1 < (s1'.length : Int))) then
  (at? s1' s1).bind fun x1 =>
  (at? s2' s1).bind fun x2 =>
  (bif (!((x1.From == x2.From) && ((x1.To == x2.To) && true))) then
   some (.inr (.ret false))
  else
   some (.inl (w64 (s1 + 1))))
 else
  some (.inr (.go ())))
def ZT (s1' : (List Span)) (s2' : (List Span)) : Option (Bool) :=
 (bif ((s1'.length : Int) != (s2'.length : Int)) then
  some false
 else
  (ZN (ZT.s0 s1' s2') 0).bind fun (y1 : Jx (Unit) (Bool)) =>
  y1.elim (fun r' =>
    some r') fun a2 =>
  some true)
def Z0K (a : (List Span)) (b : (List Span)) : Option (Bool) :=
 (ZT a b).bind fun x1 =>
 some x1
def epactlaw05_FormOrder (f : Form) (i : Int) (k : Int) : Option (Bool) :=
 (Z3K f).bind fun x1 =>
 (bif (!x1) then
  some Z0Y
 else
  (Z0B f (iMin i k)).bind fun x2 =>
  (Z0B f (iMax i k)).bind fun x3 =>
  (bif ((x2.2 != 0) || (x3.2 != 0)) then
   some ((((x2.2 == 0) || ((x2.2 == 20) && ((x2.1.length : Int) == 0))) && ((x3.2 == 0) || ((x3.2 == 20) && ((x3.1.length : Int) == 0)))) && Z0Y)
  else
   (Z07 x2.1).bind fun x4 =>
   (
    (bif x4 then
     (Z07 x3.1).bind fun x5 =>
     some x5
    else
     some false)).bind fun (y1 : Bool) =>
   (
    (bif y1 then
     (
      (bif ((iMin i k) == (iMax i k)) then
       (Z0K x2.1 x3.1).bind fun x6 =>
       some x6
      else
       some false)).bind fun (y3 : Bool) =>
     (
      (bif y3 then
       some true
      else
       (
        (bif (decide ((iMin i k) < (iMax i k))) then
         (Z0R x2.1 x3.1).bind fun x7 =>
         some x7
        else
         some false)).bind fun (y5 : Bool) =>
       some y5)).bind fun (y4 : Bool) =>
     some y4
    else
     some false)).bind fun (y2 : Bool) =>
   some (y2 && Z0Y)))
def Z2v.s0 (f : Form) (i : Int) (s1 : Int) : Option ((Int) ⊕ (Jx (Unit) (Bool))) :=
 (bif (decide (s1 < (f.Odd.length : Int))) then
  (at? f.Odd s1).bind fun x1 =>
  (bif (x1.Index == i) then
   some (.inr (.ret true))
  else
   some (.inl (w64 (s1 + 1))))
 else
  some (.inr (.go ())))
def Z2v (f : Form) (i : Int) : Option (Bool) :=
 (ZN (Z2v.s0 f i) 0).bind fun (y1 : Jx (Unit) (Bool)) =>
 y1.elim (fun r' =>
   some r') fun a2 =>
 some false
def epactlaw05_FormTurns (f : Form) (i : Int) : Option (Bool) :=
 (Z3K f).bind fun x1 =>
 (
  (bif ((!x1) || (f.Count == 0)) then
   some true
  else
   (Z2v f ((w64 i).tmod 1048576)).bind fun x2 =>
   some x2)).bind fun (y1 : Bool) =>
 (
  (bif y1 then
   some true
  else
   (Z2v f (w64 (((w64 i).tmod 1048576) + f.Count))).bind fun x3 =>
   some x3)).bind fun (y2 : Bool) =>
 (bif y2 then
  some Z0Y
 else
  (Z0B f ((w64 i).tmod 1048576)).bind fun x4 =>
  (Z0B f (w64 (((w64 i).tmod 1048576) + f.Count))).bind fun x5 =>
  (bif ((x4.2 != 0) || (x5.2 != 0)) then
   some Z0Y
  else
   (Z0A x4.1 f.Period).bind fun x6 =>
   (
    (bif (x6.2 == 0) then
     (Z0K x6.1 x5.1).bind fun x7 =>
     some x7
    else
     some false)).bind fun (y3 : Bool) =>
   some (y3 && Z0Y)))
def Z1d.s0 (f : Form) (i : Int) (x2 : Int × Bool) (s1 : Int) : Option ((Int) ⊕ (Jx (Int) (Bool))) :=
 (bif ((x2.2 && (decide (s1 < x2.1))) && (decide (s1 < (w64 (((w64 i).fdiv (2 ^ 1)) + 40))))) then
  (Z0B f s1).bind fun x4 =>
  (bif ((x4.2 == 0) && (decide ((x4.1.length : Int) > 0))) then
   some (.inr (.ret false))
  else
   some (.inl (w64 (s1 + 1))))
 else
  some (.inr (.go ((w64 i).fdiv (2 ^ 1)))))
def Z1d.s1 (f : Form) (x3 : Int × Bool) (a2 : Int) (s2 : Int) : Option ((Int) ⊕ (Jx (Unit) (Bool))) :=
 (bif ((x3.2 && (decide (s2 > x3.1))) && (decide (s2 > (w64 (a2 - 40))))) then
  (Z0B f s2).bind fun x5 =>
  (bif ((x5.2 == 0) && (decide ((x5.1.length : Int) > 0))) then
   some (.inr (.ret false))
  else
   some (.inl (w64 (s2 - 1))))
 else
  some (.inr (.go ())))
def Z1d (f : Form) (i : Int) : Option (Bool) :=
 (Z3K f).bind fun x1 =>
 (bif (!x1) then
  some Z0Y
 else
  (Z0t f ((w64 i).fdiv (2 ^ 1))).bind fun x2 =>
  (Z15 f ((w64 i).fdiv (2 ^ 1))).bind fun x3 =>
  (bif ((x2.2 && (decide (x2.1 ≤ ((w64 i).fdiv (2 ^ 1))))) || (x3.2 && (decide (x3.1 ≥ ((w64 i).fdiv (2 ^ 1)))))) then
   some false
  else
   (ZN (Z1d.s0 f i x2) (w64 (((w64 i).fdiv (2 ^ 1)) + 1))).bind fun (y1 : Jx (Int) (Bool)) =>
   y1.elim (fun r' =>
     some r') fun a2 =>
   (ZN (Z1d.s1 f x3 a2) (w64 (a2 - 1))).bind fun (y2 : Jx (Unit) (Bool)) =>
   y2.elim (fun r' =>
     some r') fun a4 =>
   (
    (bif x2.2 then
     (Z15 f x2.1).bind fun x6 =>
     (bif ((x6.2 && (decide (x6.1 > a2))) || (x3.2 && ((!x6.2) || (decide (x6.1 < x3.1))))) then
      some (.ret false)
     else
      some (.go ()))
    else
     some (.go ()))).bind fun (y3 : Jx (Unit) (Bool)) =>
   y3.elim (fun r' =>
     some r') fun a6 =>
   some Z0Y))
def ZA.s0 (s1' : (List Span)) (s2' : (List Span)) (eq : Span → Span → Option Bool) (s1 : Int) : Option ((Int) ⊕ (Jx (Unit) (Bool))) :=
 (bif (decide (s1 < (s1'.length : Int))) then
  (at? s1' s1).bind fun x1 =>
  (at? s2' s1).bind fun x2 =>
  (eq x1 x2).bind fun x3 =>
  (bif (!x3) then
   some (.inr (.ret false))
  else
   some (.inl (w64 (s1 + 1))))
 else
  some (.inr (.go ())))
def ZA (s1' : (List Span)) (s2' : (List Span)) (eq : Span → Span → Option Bool) : Option (Bool) :=
 (bif ((s1'.length : Int) != (s2'.length : Int)) then
  some false
 else
  (ZN (ZA.s0 s1' s2' eq) 0).bind fun (y1 : Jx (Unit) (Bool)) =>
  y1.elim (fun r' =>
    some r') fun a2 =>
  some true)
def ZH.s0 (s1' : (List (List Span))) (s2' : (List (List Span))) (eq : (List Span) → (List Span) → Option Bool) (s1 : Int) : Option ((Int) ⊕ (Jx (Unit) (Bool))) :=
 (bif (decide (s1 < (s1'.length : Int))) then
  (at? s1' s1).bind fun x1 =>
  (at? s2' s1).bind fun x2 =>
  (eq x1 x2).bind fun x3 =>
  (bif (!x3) then
   some (.inr (.ret false))
  else
   some (.inl (w64 (s1 + 1))))
 else
  some (.inr (.go ())))
def ZH (s1' : (List (List Span))) (s2' : (List (List Span))) (eq : (List Span) → (List Span) → Option Bool) : Option (Bool) :=
 (bif ((s1'.length : Int) != (s2'.length : Int)) then
  some false
 else
  (ZN (ZH.s0 s1' s2' eq) 0).bind fun (y1 : Jx (Unit) (Bool)) =>
  y1.elim (fun r' =>
    some r') fun a2 =>
  some true)
def Z9.s0 (s1' : (List Granule)) (s2' : (List Granule)) (eq : Granule → Granule → Option Bool) (s1 : Int) : Option ((Int) ⊕ (Jx (Unit) (Bool))) :=
 (bif (decide (s1 < (s1'.length : Int))) then
  (at? s1' s1).bind fun x1 =>
  (at? s2' s1).bind fun x2 =>
  (eq x1 x2).bind fun x3 =>
  (bif (!x3) then
   some (.inr (.ret false))
  else
   some (.inl (w64 (s1 + 1))))
 else
  some (.inr (.go ())))
def Z9 (s1' : (List Granule)) (s2' : (List Granule)) (eq : Granule → Granule → Option Bool) : Option (Bool) :=
 (bif ((s1'.length : Int) != (s2'.length : Int)) then
  some false
 else
  (ZN (Z9.s0 s1' s2' eq) 0).bind fun (y1 : Jx (Unit) (Bool)) =>
  y1.elim (fun r' =>
    some r') fun a2 =>
  some true)
def Zg.s0 (a : (List Span)) (b : (List Span)) (s1 : Int) : Option ((Int) ⊕ (Jx (Unit) (Bool))) :=
 (bif (decide (s1 < (a.length : Int))) then
  (at? a s1).bind fun x1 =>
  (at? b s1).bind fun x2 =>
  (bif (!((x2.From == x1.From) && ((x2.To == x1.To) && true))) then
   some (.inr (.ret false))
  else
   some (.inl (w64 (s1 + 1))))
 else
  some (.inr (.go ())))
def Zg (a : (List Span)) (b : (List Span)) : Option (Bool) :=
 (bif ((a.length : Int) != (b.length : Int)) then
  some false
 else
  (ZN (Zg.s0 a b) 0).bind fun (y1 : Jx (Unit) (Bool)) =>
  y1.elim (fun r' =>
    some r') fun a2 =>
  some true)
def ZU.s0 (a : Form) (b : Form) (s1 : Int) : Option ((Int) ⊕ (Jx (Unit) (Bool))) :=
 (bif (decide (s1 < (a.Core.length : Int))) then
  (at? a.Core s1).bind fun x1 =>
  (at? b.Core s1).bind fun x2 =>
  (Zg x1 x2).bind fun x3 =>
  (bif (!x3) then
   some (.inr (.ret false))
  else
   some (.inl (w64 (s1 + 1))))
 else
  some (.inr (.go ())))
def ZU.s1 (a : Form) (b : Form) (s2 : Int) : Option ((Int) ⊕ (Jx (Unit) (Bool))) :=
 (bif (decide (s2 < (a.Odd.length : Int))) then
  (at? a.Odd s2).bind fun x4 =>
  (at? b.Odd s2).bind fun x5 =>
  (
   (bif (x4.Index != x5.Index) then
    some true
   else
    (at? b.Odd s2).bind fun x6 =>
    (Zg x4.Ticks x6.Ticks).bind fun x7 =>
    some (!x7))).bind fun (y3 : Bool) =>
  (bif y3 then
   some (.inr (.ret false))
  else
   some (.inl (w64 (s2 + 1))))
 else
  some (.inr (.go ())))
def ZU (a : Form) (b : Form) : Option (Bool) :=
 (bif ((((a.Period != b.Period) || (a.Count != b.Count)) || ((a.Core.length : Int) != (b.Core.length : Int))) || ((a.Odd.length : Int) != (b.Odd.length : Int))) then
  some false
 else
  (ZN (ZU.s0 a b) 0).bind fun (y1 : Jx (Unit) (Bool)) =>
  y1.elim (fun r' =>
    some r') fun a2 =>
  (ZN (ZU.s1 a b) 0).bind fun (y2 : Jx (Unit) (Bool)) =>
  y2.elim (fun r' =>
    some r') fun a4 =>
  some true)
def Z3M (f : Form) : Option (Bool) :=
 (Z0p f).bind fun x1 =>
 (
  (bif x1 then
   (Z03 f).bind fun x2 =>
   some (x2 == 0)
  else
   some false)).bind fun (y1 : Bool) =>
 some y1
def Z2k.s0 (f : Form) (most : Int) (s1 : Int) : Option ((Int) ⊕ (Jx (Unit) (Bool))) :=
 (bif (decide (s1 < (f.Odd.length : Int))) then
  (at? f.Odd s1).bind fun x1 =>
  (bif ((decide (x1.Index < (w64 (0 - most)))) || (decide (x1.Index > most))) then
   some (.inr (.ret false))
  else
   some (.inl (w64 (s1 + 1))))
 else
  some (.inr (.go ())))
def Z2k (f : Form) (most : Int) : Option (Bool) :=
 (ZN (Z2k.s0 f most) 0).bind fun (y1 : Jx (Unit) (Bool)) =>
 y1.elim (fun r' =>
   some r') fun a2 =>
 some true
def Z1e : Bool := true
def Z3t (l : (List Span)) : Bool :=
 (decide ((l.length : Int) > 0))
def Z2r (f : Form) : Option (Bool) :=
 (ZZ f.Core (fun z0 => some (Z3t z0))).bind fun x1 =>
 some (!x1)
def Zt.s0 (p1' : Int) {S : Type} (yield : S → Int → Option (S × Bool)) (s1 : Int × S) : Option ((Int × S) ⊕ (Jx (S) (S))) :=
 (bif (decide (s1.1 ≤ p1')) then
  (nz? s1.1).bind fun u1 =>
  (
   (bif ((p1'.tmod s1.1) == 0) then
    (yield s1.2 s1.1).bind fun x1 =>
    some ((!x1.2), x1.1)
   else
    some (false, s1.2))).bind fun (y2 : Bool × S) =>
  (bif y2.1 then
   some (.inr (.ret y2.2))
  else
   some (.inl ((w64 (s1.1 + 1)), y2.2)))
 else
  some (.inr (.go s1.2)))
def Zt {S : Type} (p1' : Int) (yield : S → Int → Option (S × Bool)) (st' : S) : Option (S) :=
 (ZN (Zt.s0 p1' yield) (1, st')).bind fun (y1 : Jx (S) (S)) =>
 y1.elim (fun r' =>
   some r') fun a2 =>
 some a2
def Z0y (x' : Span) (y : Span) (p2' : Int) : Bool :=
 (((w64 (y.From - x'.From)) == p2') && ((w64 (y.To - x'.To)) == p2'))
def Z1W (a : (List Span)) (b : (List Span)) (by' : Int) : Option (Bool) :=
 (ZA a b (fun z0 z1 => some (Z0y z0 z1 by'))).bind fun x1 =>
 some x1
def Z0W.s0 (f : Form) (d : Int) (by' : Int) (s1 : Int) : Option ((Int) ⊕ (Jx (Unit) (Bool))) :=
 (bif (decide (s1 < (f.Core.length : Int))) then
  (
   (
    (at? f.Core s1).bind fun x1 =>
    (
     (bif (decide ((w64 (s1 + d)) ≥ f.Count)) then
      some ((w64 ((w64 (s1 + d)) - f.Count)), f.Period)
     else
      some ((w64 (s1 + d)), 0))).bind fun (y4 : Int × Int) =>
    (at? f.Core y4.1).bind fun x2 =>
    (Z1W x1 x2 (w64 (by' - y4.2))).bind fun x3 =>
    (bif (!x3) then
     some (.ret false)
    else
     some (.go ()))).bind fun (y3 : Jx (Unit) (Bool)) =>
   y3.elim (fun r' =>
     some (.ret r')) fun a4 =>
   some (.go ())).bind fun (y2 : Jx (Unit) (Bool)) =>
  y2.elim (fun r' =>
    some (.inr (.ret r'))) fun a5 =>
  some (.inl (w64 (s1 + 1)))
 else
  some (.inr (.go ())))
def Z0W (f : Form) (d : Int) (by' : Int) : Option (Bool) :=
 (ZN (Z0W.s0 f d by') 0).bind fun (y1 : Jx (Unit) (Bool)) =>
 y1.elim (fun r' =>
   some r') fun a6 =>
 some true
def Zo.s1 (x4 : (List (List Span))) (s3 : Int × (List (List Span))) : Option ((Int × (List (List Span))) ⊕ ((List (List Span)))) :=
 (bif (decide (s3.1 < (x4.length : Int))) then
  (at? x4 s3.1).bind fun x5 =>
  (clone? 16 x5).bind fun x6 =>
  (app? 24 s3.2 [x6]).bind fun x7 =>
  some (.inl ((w64 (s3.1 + 1)), x7))
 else
  some (.inr s3.2))
def Zo.b0 (f : Form) (s2 : (List (List Span)) × Int × Int) (z2 : Int) : Option (((List (List Span)) × Int × Int) × Nat) :=
 (nz? z2).bind fun u1 =>
 (Z0l f.Period (w64 (f.Count.tdiv z2))).bind fun x2 =>
 (
  (bif (x2.2.1 != 0) then
   some true
  else
   (Z0W f z2 x2.1).bind fun x3 =>
   some (!x3))).bind fun (y3 : Bool) =>
 (bif y3 then
  some ((s2.1, s2.2.1, s2.2.2), 0)
 else
  (cut? f.Core 0 z2).bind fun x4 =>
  (ZN (Zo.s1 x4) (0, s2.1)).bind fun (y4 : (List (List Span))) =>
  some ((y4, x2.1, z2), 1))
def Zo (f : Form) : Option (Form) :=
 (Z2r f).bind fun x1 =>
 (bif x1 then
  some (Form.mk 0 0 [] [])
 else
  (
   (Zt f.Count (Z2Z (Zo.b0 f)) (([], 0, 0), 0)).bind fun (y2 : ((List (List Span)) × Int × Int) × Nat) =>
   (bif (y2.2 == 0) then
    some (y2.1.1, y2.1.2.1, y2.1.2.2)
   else
    some (y2.1.1, y2.1.2.1, y2.1.2.2))).bind fun (y1 : (List (List Span)) × Int × Int) =>
  some (Form.mk y1.2.1 y1.2.2 y1.1 []))
def Z2D (f : Form) (g : Granule) : Option (Bool) :=
 (Z0B f g.Index).bind fun x1 =>
 (
  (bif (x1.2 == 0) then
   (Z0K x1.1 g.Ticks).bind fun x2 =>
   some x2
  else
   some false)).bind fun (y1 : Bool) =>
 some y1
def Ze.s0 (f : Form) (x1 : Form) (s2 : Int × (List Granule)) : Option ((Int × (List Granule)) ⊕ ((List Granule))) :=
 (bif (decide (s2.1 < (f.Odd.length : Int))) then
  (
   (
    (at? f.Odd s2.1).bind fun x2 =>
    (Z2D x1 x2).bind fun x3 =>
    (bif (!x3) then
     (clone? 16 x2.Ticks).bind fun x4 =>
     (app? 32 s2.2 [(Granule.mk x2.Index x4)]).bind fun x5 =>
     some x5
    else
     some s2.2)).bind fun (y3 : (List Granule)) =>
   some y3).bind fun (y2 : (List Granule)) =>
  some (.inl ((w64 (s2.1 + 1)), y2))
 else
  some (.inr s2.2))
def Ze (f : Form) : Option (Form) :=
 (Zo f).bind fun x1 =>
 (ZN (Ze.s0 f x1) (0, [])).bind fun (y1 : (List Granule)) =>
 some (Form.mk x1.Period x1.Count x1.Core y1)
def Z16 (x' : Granule) (y : Granule) : Option (Bool) :=
 (
  (bif (x'.Index == y.Index) then
   (Z0K x'.Ticks y.Ticks).bind fun x1 =>
   some x1
  else
   some false)).bind fun (y1 : Bool) =>
 some y1
def Z2t (a : Form) (b : Form) : Option (Bool) :=
 (
  (bif ((a.Period == b.Period) && (a.Count == b.Count)) then
   (ZH a.Core b.Core (fun z0 z1 => Z0K z0 z1)).bind fun x1 =>
   some x1
  else
   some false)).bind fun (y1 : Bool) =>
 (
  (bif y1 then
   (Z9 a.Odd b.Odd (fun z0 z1 => Z16 z0 z1)).bind fun x2 =>
   some x2
  else
   some false)).bind fun (y2 : Bool) =>
 some y2
def Z9K (f : Form) (g : Form) : Option (Bool) :=
 (Ze f).bind fun x1 =>
 (Ze g).bind fun x2 =>
 (Z2t x1 x2).bind fun x3 =>
 some x3
def Z3c.s0 (f : Form) (g : Form) (s1 : Int) : Option ((Int) ⊕ (Jx (Bool) (Bool))) :=
 (bif (decide (s1 ≤ 2000)) then
  (Z0B f s1).bind fun x5 =>
  (Z0B g s1).bind fun x6 =>
  (bif ((x5.2 != 0) || (x6.2 != 0)) then
   some (.inr (.ret Z1e))
  else
   (Z0K x5.1 x6.1).bind fun x7 =>
   (bif (!x7) then
    some (.inr (.go false))
   else
    some (.inl (w64 (s1 + 1)))))
 else
  some (.inr (.go true)))
def Z3c (f : Form) (g : Form) : Option (Bool) :=
 (Z3M f).bind fun x1 =>
 (
  (bif (!x1) then
   some true
  else
   (Z3M g).bind fun x2 =>
   some (!x2))).bind fun (y1 : Bool) =>
 (
  (bif y1 then
   some true
  else
   (Z2k f 200).bind fun x3 =>
   some (!x3))).bind fun (y2 : Bool) =>
 (
  (bif y2 then
   some true
  else
   (Z2k g 200).bind fun x4 =>
   some (!x4))).bind fun (y3 : Bool) =>
 (bif ((y3 || (decide (f.Period > 32768))) || (decide (g.Period > 32768))) then
  some Z1e
 else
  (ZN (Z3c.s0 f g) (-2000)).bind fun (y4 : Jx (Bool) (Bool)) =>
  y4.elim (fun r' =>
    some r') fun a2 =>
  (Z9K f g).bind fun x8 =>
  (
   (bif (x8 == a2) then
    (Ze f).bind fun x9 =>
    (Ze g).bind fun x10 =>
    (ZU x9 x10).bind fun x11 =>
    some (x11 == a2)
   else
    some false)).bind fun (y5 : Bool) =>
  some (y5 && Z1e))
def Z4y (f : Form) : Option (Bool) :=
 (Ze f).bind fun x1 =>
 (Z2t f x1).bind fun x2 =>
 some x2
def Z39.s0 (f : Form) (i : Int) (x2 : Form) (s1 : Int) : Option ((Int) ⊕ (Jx (Unit) (Bool))) :=
 (bif (decide (s1 < ([i, 0, 1, (-1), (w64 ((i.tmod 50) - 25))].length : Int))) then
  (at? [i, 0, 1, (-1), (w64 ((i.tmod 50) - 25))] s1).bind fun x9 =>
  (Z0B f x9).bind fun x10 =>
  (Z0B x2 x9).bind fun x11 =>
  (
   (bif (x10.2 != x11.2) then
    some true
   else
    (Z0K x10.1 x11.1).bind fun x12 =>
    some (!x12))).bind fun (y5 : Bool) =>
  (bif y5 then
   some (.inr (.ret false))
  else
   some (.inl (w64 (s1 + 1))))
 else
  some (.inr (.go ())))
def Z39 (f : Form) (i : Int) : Option (Bool) :=
 (Z3M f).bind fun x1 =>
 (bif (!x1) then
  some Z1e
 else
  (Ze f).bind fun x2 =>
  (Z03 x2).bind fun x3 =>
  (
   (bif (x3 != 0) then
    some true
   else
    (Z4y x2).bind fun x4 =>
    some (!x4))).bind fun (y1 : Bool) =>
  (
   (bif y1 then
    some true
   else
    (Ze x2).bind fun x5 =>
    (ZU x5 x2).bind fun x6 =>
    some (!x6))).bind fun (y2 : Bool) =>
  (
   (bif (((y2 || (decide (x2.Count > f.Count))) || (decide (x2.Period > f.Period))) || (decide ((x2.Odd.length : Int) > (f.Odd.length : Int)))) then
    some true
   else
    (Z05 x2).bind fun x7 =>
    (Z05 f).bind fun x8 =>
    some (decide (x7 > x8)))).bind fun (y3 : Bool) =>
  (bif y3 then
   some false
  else
   (ZN (Z39.s0 f i x2) 0).bind fun (y4 : Jx (Unit) (Bool)) =>
   y4.elim (fun r' =>
     some r') fun a2 =>
   (Z9K f x2).bind fun x13 =>
   some (x13 && Z1e)))
def Z1g (f : Form) : Option (Bool) :=
 (Z0p f).bind fun x1 =>
 (
  (bif x1 then
   (Z03 f).bind fun x2 =>
   some (x2 == 0)
  else
   some false)).bind fun (y1 : Bool) =>
 some y1
def safe_Lcm (a : Int) (b : Int) : Option (Int × Int) :=
 (bif (((Z3 a) == 0) || ((Z3 b) == 0)) then
  some (0, 0)
 else
  (gcd? (Z3 a) (Z3 b)).bind fun x1 =>
  (nz? x1).bind fun u1 =>
  (bif (((Z4 (IntKind.u64.wrap ((Z3 a).tdiv x1)) (Z3 b)).1) != 0) then
   some (0, 10)
  else
   some ((Zb ((Z4 (IntKind.u64.wrap ((Z3 a).tdiv x1)) (Z3 b)).2) false).1, (Zb ((Z4 (IntKind.u64.wrap ((Z3 a).tdiv x1)) (Z3 b)).2) false).2)))
def ZM : Form :=
 (Form.mk 7 1 [[(Span.mk 0 4)]] [])
def ZQ : Form :=
 (Form.mk 1 1 [[(Span.mk 0 0)]] [])
def Z3X (f : Form) (m : Int) : Option (Int × Int) :=
 (bif (f.Count == 0) then
  some (0, 0)
 else
  (safe_Lcm f.Count m).bind fun x1 =>
  (nz? m).bind fun u1 =>
  some ((w64 (x1.1.tdiv m)), x1.1))
def Z0a.s0 {S : Type} (p1' : Int) (p2' : Int → Option ((List Span) × Int)) (p3' : Int) (yield : S → ((List Span) × Int) → Option (S × Bool)) (s1 : Int × S) : Option ((Int × S) ⊕ (Jx (S) (S))) :=
 (bif (decide (s1.1 < p1')) then
  (p2' (w64 (p3' + s1.1))).bind fun x1 =>
  (yield s1.2 (x1.1, x1.2)).bind fun x2 =>
  (bif (!x2.2) then
   some (.inr (.ret x2.1))
  else
   some (.inl ((w64 (s1.1 + 1)), x2.1)))
 else
  some (.inr (.go s1.2)))
def Z0a {S : Type} (p1' : Int) (p2' : Int → Option ((List Span) × Int)) (p3' : Int) (yield : S → ((List Span) × Int) → Option (S × Bool)) (st' : S) : Option (S) :=
 (ZN (Z0a.s0 p1' p2' p3' yield) (0, st')).bind fun (y1 : Jx (S) (S)) =>
 y1.elim (fun r' =>
   some r') fun a2 =>
 some a2
def Z0G.b0 (s2 : (List Span) × Int) (z2 : (List Span) × Int) : Option (((List Span) × Int) × Nat) :=
 (
  (
   (bif (z2.2 != 0) then
    some (.ret ())
   else
    (
     (
      (bif ((decide ((s2.1.length : Int) > 0)) && (decide ((z2.1.length : Int) > 0))) then
       (at? z2.1 0).bind fun x1 =>
       (at? s2.1 (w64 ((s2.1.length : Int) - 1))).bind fun x2 =>
       some (x1.From == (w64 (x2.To + 1)))
      else
       some false)).bind fun (y6 : Bool) =>
     (bif y6 then
      (at? z2.1 0).bind fun x3 =>
      (at? s2.1 (w64 ((s2.1.length : Int) - 1))).bind fun x4 =>
      (cut? z2.1 1 (z2.1.length : Int)).bind fun x5 =>
      some (x5, (s2.1.set ((w64 ((s2.1.length : Int) - 1))).toNat (Span.mk x4.From x3.To)))
     else
      some (z2.1, s2.1))).bind fun (y5 : (List Span) × (List Span)) =>
    (app? 16 y5.2 y5.1).bind fun x6 =>
    some (.go x6))).bind fun (y4 : Jx ((List Span)) (Unit)) =>
  y4.elim (fun a6 =>
    some (.ret ())) fun a5 =>
  some (.go a5)).bind fun (y3 : Jx ((List Span)) (Unit)) =>
 y3.elim (fun a8 =>
   some ((s2.1, z2.2), 1)) fun a7 =>
 some ((a7, s2.2), 0)
def Z0G (tell : Int → Option ((List Span) × Int)) (from' : Int) (many : Int) : Option ((List Span) × Int) :=
 (
  some ()).bind fun (y1 : Unit) =>
 (Z0a many tell from' (Z2Z Z0G.b0) (([], 0), 0)).bind fun (y2 : ((List Span) × Int) × Nat) =>
 (bif (y2.2 == 0) then
  some (y2.1.1, 0)
 else
  some ([], y2.1.2))
def Z1q (f : Form) (i : Int) : Option ((List Span) × Int) :=
 (bif (f.Count == 0) then
  some ([], 0)
 else
  (Z0l i f.Count).bind fun x1 =>
  (at? f.Core x1.2.1).bind fun x2 =>
  (bif ((x2.length : Int) == 0) then
   some ([], 0)
  else
   (bif ((x1.2.2 != 0) || (((ZB x1.1 f.Period).2) != 0)) then
    some ([], 20)
   else
    (at? f.Core x1.2.1).bind fun x3 =>
    (Z0A x3 ((ZB x1.1 f.Period).1)).bind fun x4 =>
    some (x4.1, x4.2))))
def Z2L (i : Int) (p1' : Form) : Option ((List Span) × Int) :=
 (Z1q p1' i).bind fun x1 =>
 some (x1.1, x1.2)
def Z0I.s0 (f : Form) (s1 : Int × Int) : Option ((Int × Int) ⊕ (Int)) :=
 (bif (decide (s1.2 < (f.Core.length : Int))) then
  (at? f.Core s1.2).bind fun x2 =>
  some (.inl ((w64 (s1.1 + (x2.length : Int))), (w64 (s1.2 + 1))))
 else
  some (.inr s1.1))
def Z0I.s1 (f : Form) (m : Int) (x1 : Int × Int) (s3 : Int × (List (List Span))) : Option ((Int × (List (List Span))) ⊕ (Jx ((List (List Span)) × Int) (Int))) :=
 (bif (decide (s3.1 < x1.1)) then
  (Z0G (fun z0 => Z2L z0 f) (w64 (s3.1 * m)) m).bind fun x3 =>
  (bif (x3.2 != 0) then
   some (.inr (.ret x3.2))
  else
   (app? 24 s3.2 [x3.1]).bind fun x4 =>
   some (.inl ((w64 (s3.1 + 1)), x4)))
 else
  some (.inr (.go (s3.2, (ZB f.Period (w64 (x1.2.tdiv f.Count))).1))))
def Z0I (f : Form) (m : Int) : Option (Form × Int) :=
 (Z3X f m).bind fun x1 =>
 (bif (x1.1 == 0) then
  some ((Form.mk 0 0 [] []), 0)
 else
  (ZN (Z0I.s0 f) (0, 0)).bind fun (y1 : Int) =>
  (nz? f.Count).bind fun u1 =>
  (bif (decide ((w64 (y1 * (w64 (x1.2.tdiv f.Count)))) > 60000)) then
   some ((Form.mk 0 0 [] []), 3)
  else
   (nz? f.Count).bind fun u2 =>
   (bif ((((ZB f.Period (w64 (x1.2.tdiv f.Count))).2) != 0) || (decide (((ZB f.Period (w64 (x1.2.tdiv f.Count))).1) > 1099511627776))) then
    some ((Form.mk 0 0 [] []), 20)
   else
    (ZN (Z0I.s1 f m x1) (0, [])).bind fun (y2 : Jx ((List (List Span)) × Int) (Int)) =>
    y2.elim (fun a4 =>
      some ((Form.mk 0 0 [] []), a4)) fun a3 =>
    some ((Form.mk a3.2 x1.1 a3.1 []), 0))))
def Z1l (f : Form) : Option (Form × Int) :=
 (Z03 f).bind fun x1 =>
 (bif (x1 == 0) then
  (Ze f).bind fun x2 =>
  some (x2, 0)
 else
  (bif (x1 == 3) then
   some ((Form.mk 0 0 [] []), 3)
  else
   some ((Form.mk 0 0 [] []), 20)))
def Z2J (i : Int) (p1' : Form) : Option ((List Span) × Int) :=
 (Z0B p1' i).bind fun x1 =>
 some (x1.1, x1.2)
def Z0O.s0 (f : Form) (m : Int) (s2 : Int × (List Granule)) : Option ((Int × (List Granule)) ⊕ (Jx ((List Granule)) (Form × Int))) :=
 (bif (decide (s2.1 < (f.Odd.length : Int))) then
  (
   (at? f.Odd s2.1).bind fun x2 =>
   (Z0l x2.Index m).bind fun x3 =>
   (
    (bif (decide ((s2.2.length : Int) > 0)) then
     (at? s2.2 (w64 ((s2.2.length : Int) - 1))).bind fun x4 =>
     some (x4.Index == x3.1)
    else
     some false)).bind fun (y3 : Bool) =>
   (bif y3 then
    some (.go s2.2)
   else
    (Z0G (fun z0 => Z2J z0 f) (w64 (x3.1 * m)) m).bind fun x5 =>
    (bif (x5.2 != 0) then
     some (.ret ((Form.mk 0 0 [] []), 20))
    else
     (app? 32 s2.2 [(Granule.mk x3.1 x5.1)]).bind fun x6 =>
     some (.go x6)))).bind fun (y2 : Jx ((List Granule)) (Form × Int)) =>
  y2.elim (fun r' =>
    some (.inr (.ret r'))) fun a3 =>
  some (.inl ((w64 (s2.1 + 1)), a3))
 else
  some (.inr (.go s2.2)))
def Z0O (f : Form) (m : Int) : Option (Form × Int) :=
 (bif ((decide (m < 1)) || (decide (m > 6000))) then
  some ((Form.mk 0 0 [] []), 2)
 else
  (Z0I f m).bind fun x1 =>
  (bif (x1.2 != 0) then
   some ((Form.mk 0 0 [] []), x1.2)
  else
   (ZN (Z0O.s0 f m) (0, [])).bind fun (y1 : Jx ((List Granule)) (Form × Int)) =>
   y1.elim (fun r' =>
     some r') fun a4 =>
   (Z1l (Form.mk x1.1.Period x1.1.Count x1.1.Core a4)).bind fun x7 =>
   some (x7.1, x7.2)))
def ZJ (i : Int) : Bool :=
 ((decide (i ≥ (-1099511627776))) && (decide (i ≤ 1099511627776)))
def ZP.s0 (f : Form) (m : Int) (s2 : Int × (List (List Span))) : Option ((Int × (List (List Span))) ⊕ (Jx ((List (List Span))) (Form × Int))) :=
 (bif (decide (s2.1 < f.Count)) then
  (Z1q f (w64 (s2.1 - m))).bind fun x1 =>
  (bif (x1.2 != 0) then
   some (.inr (.ret ((Form.mk 0 0 [] []), x1.2)))
  else
   (app? 24 s2.2 [x1.1]).bind fun x2 =>
   some (.inl ((w64 (s2.1 + 1)), x2)))
 else
  some (.inr (.go s2.2)))
def ZP.s1 (f : Form) (m : Int) (s4 : Int × (List Granule)) : Option ((Int × (List Granule)) ⊕ (Jx ((List Granule)) (Form × Int))) :=
 (bif (decide (s4.1 < (f.Odd.length : Int))) then
  (at? f.Odd s4.1).bind fun x3 =>
  (bif (!(ZJ (w64 (x3.Index + m)))) then
   some (.inr (.ret ((Form.mk 0 0 [] []), 20)))
  else
   (app? 16 [] x3.Ticks).bind fun x4 =>
   (app? 32 s4.2 [(Granule.mk (w64 (x3.Index + m)) x4)]).bind fun x5 =>
   some (.inl ((w64 (s4.1 + 1)), x5)))
 else
  some (.inr (.go s4.2)))
def ZP (f : Form) (m : Int) : Option (Form × Int) :=
 (bif (!(ZJ m)) then
  some ((Form.mk 0 0 [] []), 2)
 else
  (ZN (ZP.s0 f m) (0, [])).bind fun (y1 : Jx ((List (List Span))) (Form × Int)) =>
  y1.elim (fun r' =>
    some r') fun a2 =>
  (ZN (ZP.s1 f m) (0, [])).bind fun (y2 : Jx ((List Granule)) (Form × Int)) =>
  y2.elim (fun r' =>
    some r') fun a4 =>
  (Z1l (Form.mk f.Period f.Count a2 a4)).bind fun x6 =>
  some (x6.1, x6.2))
def Z2R (f : Form) (i : Int) : Option (Bool × (List Span) × Int) :=
 (Z0B f i).bind fun x1 =>
 some (((decide ((x1.1.length : Int) > 0)) || (x1.2 != 0)), x1.1, x1.2)
def Zx.s0 (f : Form) (n : Int) (s2 : Int × Bool × (List Int)) : Option ((Int × Bool × (List Int)) ⊕ (Jx ((List Int)) (Form × Int))) :=
 (bif (s2.2.1 && (decide (s2.1 ≤ n))) then
  (app? 8 s2.2.2 [s2.1]).bind fun x3 =>
  (bif (decide ((x3.length : Int) > 6000)) then
   some (.inr (.ret ((Form.mk 0 0 [] []), 3)))
  else
   (Z0t f s2.1).bind fun x4 =>
   some (.inl (x4.1, x4.2, x3)))
 else
  some (.inr (.go s2.2.2)))
def Zx.s1 (f : Form) (a2 : (List Int)) (s4 : Int × (List Granule)) : Option ((Int × (List Granule)) ⊕ (Jx ((List Granule)) (Form × Int))) :=
 (bif (decide (s4.1 < (a2.length : Int))) then
  (at? a2 s4.1).bind fun x5 =>
  (Z2R f x5).bind fun x6 =>
  (bif (x6.2.2 != 0) then
   some (.inr (.ret ((Form.mk 0 0 [] []), 20)))
  else
   (app? 32 s4.2 [(Granule.mk x5 x6.2.1)]).bind fun x7 =>
   some (.inl ((w64 (s4.1 + 1)), x7)))
 else
  some (.inr (.go s4.2)))
def Zx (f : Form) (m : Int) (n : Int) : Option (Form × Int) :=
 (bif (((!(ZJ m)) || (!(ZJ n))) || (decide (m > n))) then
  some ((Form.mk 0 0 [] []), 2)
 else
  (
   (Z2R f m).bind fun x1 =>
   (bif (!x1.1) then
    (Z0t f m).bind fun x2 =>
    some (x2.1, x2.2)
   else
    some (m, true))).bind fun (y1 : Int × Bool) =>
  (ZN (Zx.s0 f n) (y1.1, y1.2, [])).bind fun (y2 : Jx ((List Int)) (Form × Int)) =>
  y2.elim (fun r' =>
    some r') fun a2 =>
  (ZN (Zx.s1 f a2) (0, [])).bind fun (y3 : Jx ((List Granule)) (Form × Int)) =>
  y3.elim (fun r' =>
    some r') fun a4 =>
  (Z1l (Form.mk 0 0 [] a4)).bind fun x8 =>
  some (x8.1, x8.2))
def Z1N : Option (Bool) :=
 (Z0O ZQ 7).bind fun x1 =>
 (ZP ZQ 3).bind fun x2 =>
 (Zx ZQ 2 4).bind fun x3 =>
 (Z0O (Form.mk ZM.Period ZM.Count ZM.Core [(Granule.mk 1 [(Span.mk 8 11)])]) 2).bind fun x4 =>
 (Z0B x2.1 0).bind fun x5 =>
 (Z0O ZQ 0).bind fun x6 =>
 (Zx ZQ 2 1).bind fun x7 =>
 (Z0O (Form.mk 549755813888 1 [[(Span.mk 0 0)]] []) 4).bind fun x8 =>
 (
  (bif (((((((((((x1.2 == 0) && (x2.2 == 0)) && (x3.2 == 0)) && (x4.2 == 0)) && (x5.2 == 0)) && (x6.2 == 2)) && (x7.2 == 2)) && (x8.2 == 20)) && (x1.1.Period == 7)) && (x1.1.Count == 1)) && ((x1.1.Core.length : Int) == 1)) then
   (at? x1.1.Core 0).bind fun x9 =>
   (Zg x9 [(Span.mk 0 6)]).bind fun x10 =>
   some x10
  else
   some false)).bind fun (y1 : Bool) =>
 (
  (bif y1 then
   (Zg x5.1 [(Span.mk (-3) (-3))]).bind fun x11 =>
   some x11
  else
   some false)).bind fun (y2 : Bool) =>
 (
  (bif (y2 && ((x3.1.Odd.length : Int) == 3)) then
   (at? x3.1.Odd 0).bind fun x12 =>
   some (x12.Index == 2)
  else
   some false)).bind fun (y3 : Bool) =>
 (
  (bif ((y3 && (x3.1.Count == 0)) && ((x4.1.Odd.length : Int) == 1)) then
   (at? x4.1.Odd 0).bind fun x13 =>
   some (x13.Index == 0)
  else
   some false)).bind fun (y4 : Bool) =>
 some y4
def ZS : Bool := true
def Zk.s0 (f : Form) (m : Int) (at' : Int) (x2 : Form × Int) (s1 : Int) : Option ((Int) ⊕ (Jx (Unit) (Bool))) :=
 (bif (decide (s1 < ([((w64 at').fdiv (2 ^ 1)), m, (w64 (m + 1)), 0].length : Int))) then
  (at? [((w64 at').fdiv (2 ^ 1)), m, (w64 (m + 1)), 0] s1).bind fun x3 =>
  (Z0B f (w64 (x3 - m))).bind fun x4 =>
  (Z0B x2.1 x3).bind fun x5 =>
  (
   (bif ((x4.2 == 0) && (x5.2 == 0)) then
    (Z0K x5.1 x4.1).bind fun x6 =>
    some (!x6)
   else
    some false)).bind fun (y2 : Bool) =>
  (bif (y2 || ((((x4.2 == 0) && (x5.2 != 0)) && (decide (x3 ≥ (-1099511627776)))) && (decide (x3 ≤ 1099511627776)))) then
   some (.inr (.ret false))
  else
   some (.inl (w64 (s1 + 1))))
 else
  some (.inr (.go ())))
def Zk (f : Form) (m : Int) (at' : Int) : Option (Bool) :=
 (Z1g f).bind fun x1 =>
 (bif (!x1) then
  some ZS
 else
  (ZP f m).bind fun x2 =>
  (bif (x2.2 != 0) then
   some ((((x2.2 == 2) == ((decide (m < (-1099511627776))) || (decide (m > 1099511627776)))) && ((x2.2 == 2) || (x2.2 == 20))) && ZS)
  else
   (ZN (Zk.s0 f m at' x2) 0).bind fun (y1 : Jx (Unit) (Bool)) =>
   y1.elim (fun r' =>
     some r') fun a2 =>
   (ZP x2.1 (w64 (0 - m))).bind fun x7 =>
   (Z4y x2.1).bind fun x8 =>
   (
    (bif x8 then
     (
      (bif (x7.2 != 0) then
       some true
      else
       (Ze f).bind fun x9 =>
       (ZU x7.1 x9).bind fun x10 =>
       some x10)).bind fun (y4 : Bool) =>
     some y4
    else
     some false)).bind fun (y3 : Bool) =>
   some (y3 && ZS)))
end
end Go.Dn

namespace Go.Dn
open Go
noncomputable section
def Le {α : Type} (a b : Option α) : Prop := ∀ r, a = some r → b = some r
theorem Le.refl {α : Type} (a : Option α) : Le a a := fun _ h => h
theorem Le.bind {α β : Type} {a b : Option α} {f g : α → Option β} (h : Le a b) (hf : ∀ x, Le (f x) (g x)) : Le (a.bind f) (b.bind g) := fun r hr => by
 cases ha : a with
 | none => rw [ha] at hr; cases hr
 | some x => rw [ha] at hr; rw [h x ha]; exact hf x r hr
theorem Le.cond {α : Type} {c : Bool} {a b a' b' : Option α} (h : Le a a') (h' : Le b b') : Le (bif c then a else b) (bif c then a' else b') := by
 cases c
 ·exact h'
 ·exact h
theorem Le.elim {A B C : Type} {y : Jx A B} {f f' : B → Option C} {g g' : A → Option C} (h : ∀ r, Le (f r) (f' r)) (h' : ∀ a, Le (g a) (g' a)) : Le (y.elim f g) (y.elim f' g') := by
 cases y
 ·exact h' _
 ·exact h _
theorem Le.Z2Z {S T : Type} {f g : S → T → Option (S × Nat)} (h : ∀ s t, Le (f s t) (g s t)) (s : S × Nat) (t : T) : Le (Z2Z f s t) (Z2Z g s t) := fun r hr => by
 unfold Go.Dn.Z2Z at hr ⊢
 split at hr
 ·rename_i h0;rw [if_pos h0];cases ha : f s.1 t with
  | none => rw [ha] at hr; cases hr
  | some x => rw [ha] at hr; rw [h _ _ x ha]; exact hr
 ·cases hr
def Z1T {S R : Type} (step : S → Option (S ⊕ R)) (s : S) : Option R := Z38 step 1000000 s
theorem iterO_le {S R : Type} {step step' : S → Option (S ⊕ R)} (h : ∀ s, Le (step s) (step' s)) : ∀ (n : Nat) (s : S), Le (Z38 step n s) (Z38 step' n s)
 | 0, s => fun r hr => by cases hr
 | n + 1, s => fun r hr => by
  simp only [Z38] at hr ⊢;cases hs : step s with
  | none => rw [hs] at hr; cases hr
  | some x =>
   rw [hs] at hr;rw [h s x hs];cases x with
   | inl s' => exact iterO_le h n s' r hr
   | inr r' => exact hr
theorem Le.loop {S R : Type} {step step' : S → Option (S ⊕ R)} {s : S} (h : ∀ s, Le (step s) (step' s)) : Le (Z1T step s) (ZN step' s) := fun r hr => ZW.2 ⟨1000000, iterO_le h _ s r hr⟩
def Z5A (f : Form) : Option (Int) :=
 (Z1T (Z05.s0 f) (0, 0)).bind fun (y1 : Int) =>
 (Z1T (Z05.s1 f) (y1, 0)).bind fun (y2 : Int) =>
 some y2
theorem Z9o {f : Form} : Le (Z5A f) (Z05 f) := by
 unfold Z5A Z05
 repeat' (with_reducible (first | exact Le.refl _ | apply Le.bind | apply Le.loop | intro _))
def Z2z (l : (List Span)) : Option (Bool) :=
 (Z1T (Z07.s0 l) 0).bind fun (y1 : Jx (Unit) (Bool)) =>
 y1.elim (fun r' =>
   some r') fun a2 =>
 some true
theorem Z4r {l : (List Span)} : Le (Z2z l) (Z07 l) := by
 unfold Z2z Z07
 repeat' (with_reducible (first | exact Le.refl _ | apply Le.bind | apply Le.elim | apply Le.loop | intro _))
def Z0S.s0 (f : Form) (s1 : Int) : Option ((Int) ⊕ (Jx (Unit) (Bool))) :=
 (bif (decide (s1 < (f.Core.length : Int))) then
  (at? f.Core s1).bind fun x1 =>
  (Z2z x1).bind fun x2 =>
  (bif (!x2) then
   some (.inr (.ret false))
  else
   some (.inl (w64 (s1 + 1))))
 else
  some (.inr (.go ())))
theorem Z6l {f : Form} {s1 : Int} : Le (Z0S.s0 f s1) (Zj.s0 f s1) := by
 unfold Z0S.s0 Zj.s0
 repeat' (with_reducible (first | exact Le.refl _ | apply Le.bind | apply Le.cond | apply Z4r | intro _))
def Z0S.s1 (f : Form) (s2 : Int) : Option ((Int) ⊕ (Jx (Unit) (Bool))) :=
 (bif (decide (s2 < (f.Odd.length : Int))) then
  (at? f.Odd s2).bind fun x3 =>
  (Z2z x3.Ticks).bind fun x4 =>
  (
   (bif ((!x4) || (!(Zn x3.Index))) then
    some true
   else
    (
     (bif (decide (s2 > 0)) then
      (at? f.Odd (w64 (s2 - 1))).bind fun x5 =>
      some (decide (x3.Index ≤ x5.Index))
     else
      some false)).bind fun (y4 : Bool) =>
    some y4)).bind fun (y3 : Bool) =>
  (bif y3 then
   some (.inr (.ret false))
  else
   some (.inl (w64 (s2 + 1))))
 else
  some (.inr (.go ())))
theorem Z6s {f : Form} {s2 : Int} : Le (Z0S.s1 f s2) (Zj.s1 f s2) := by
 unfold Z0S.s1 Zj.s1
 repeat' (with_reducible (first | exact Le.refl _ | apply Le.bind | apply Le.cond | apply Z4r | intro _))
def Z0S (f : Form) : Option (Bool) :=
 (bif ((((f.Count != (f.Core.length : Int)) || ((f.Count == 0) != (f.Period == 0))) || (decide (f.Period < 0))) || (decide (f.Period > 1099511627776))) then
  some false
 else
  (Z1T (Z0S.s0 f) 0).bind fun (y1 : Jx (Unit) (Bool)) =>
  y1.elim (fun r' =>
    some r') fun a2 =>
  (Z1T (Z0S.s1 f) 0).bind fun (y2 : Jx (Unit) (Bool)) =>
  y2.elim (fun r' =>
    some r') fun a4 =>
  some true)
theorem Z96 {f : Form} : Le (Z0S f) (Zj f) := by
 unfold Z0S Zj
 repeat' (with_reducible (first | exact Le.refl _ | apply Le.bind | apply Le.cond | apply Le.elim | apply Le.loop | apply Z6l | apply Z6s | intro _))
def Z4e (f : Form) : Option (Bool) :=
 (Z1T (Z08.s0 f) (0, [])).bind fun (y1 : (List (List Span))) =>
 (Z1T (Z08.s1 f y1) 0).bind fun (y4 : Jx (Unit) (Bool)) =>
 y4.elim (fun r' =>
   some r') fun a6 =>
 some true
theorem Z9E {f : Form} : Le (Z4e f) (Z08 f) := by
 unfold Z4e Z08
 repeat' (with_reducible (first | exact Le.refl _ | apply Le.bind | apply Le.elim | apply Le.loop | intro _))
def ZL.s0 (x' : (List Granule)) (target : Int) (cmp : Granule → Int → Option Int) (s1 : Int × Int) : Option ((Int × Int) ⊕ (Int)) :=
 (bif (decide (s1.1 < s1.2)) then
  (
   (at? x' (w64 ((IntKind.u64.wrap (w64 (s1.1 + s1.2))).fdiv (2 ^ 1)))).bind fun x1 =>
   (cmp x1 target).bind fun x2 =>
   (bif (decide (x2 < 0)) then
    some ((w64 ((w64 ((IntKind.u64.wrap (w64 (s1.1 + s1.2))).fdiv (2 ^ 1))) + 1)), s1.2)
   else
    some (s1.1, (w64 ((IntKind.u64.wrap (w64 (s1.1 + s1.2))).fdiv (2 ^ 1)))))).bind fun (y2 : Int × Int) =>
  some (.inl (y2.1, y2.2))
 else
  some (.inr s1.1))
theorem Z13 {x' : (List Granule)} {target : Int} {cmp cmp_ : Granule → Int → Option Int} {s1 : Int × Int} (h_cmp : ∀ z0 z1, Le (cmp z0 z1) (cmp_ z0 z1)) : Le (ZL.s0 x' target cmp s1) (Z6.s0 x' target cmp_ s1) := by
 unfold ZL.s0 Z6.s0
 repeat' (with_reducible (first | exact Le.refl _ | exact h_cmp _ _ | exact h_cmp | apply Le.bind | apply Le.cond | intro _))
def ZL (x' : (List Granule)) (target : Int) (cmp : Granule → Int → Option Int) : Option (Int × Bool) :=
 (Z1T (ZL.s0 x' target cmp) (0, (x'.length : Int))).bind fun (y1 : Int) =>
 (
  (bif (decide (y1 < (x'.length : Int))) then
   (at? x' y1).bind fun x3 =>
   (cmp x3 target).bind fun x4 =>
   some (x4 == 0)
  else
   some false)).bind fun (y3 : Bool) =>
 some (y1, y3)
theorem Z1K {x' : (List Granule)} {target : Int} {cmp cmp_ : Granule → Int → Option Int} (h_cmp : ∀ z0 z1, Le (cmp z0 z1) (cmp_ z0 z1)) : Le (ZL x' target cmp) (Z6 x' target cmp_) := by
 unfold ZL Z6
 repeat' (with_reducible (first | exact Le.refl _ | exact h_cmp _ _ | exact h_cmp | apply Le.bind | apply Le.cond | apply Le.loop | apply Z13 | intro _))
def Z4L (f : Form) (i : Int) : Option (Int × Bool) :=
 (ZL f.Odd i (fun z0 z1 => some (Z2o z0 z1))).bind fun x1 =>
 some (x1.1, x1.2)
theorem Z6e {f : Form} {i : Int} : Le (Z4L f i) (Z3b f i) := by
 unfold Z4L Z3b
 repeat' (with_reducible (first | exact Le.refl _ | apply Le.bind | apply Z1K | intro _))
def Z3u (f : Form) (i : Int) : Option ((List Span) × Int × Int) :=
 (Z4L f i).bind fun x1 =>
 (bif x1.2 then
  (at? f.Odd x1.1).bind fun x2 =>
  some (x2.Ticks, 0, 0)
 else
  (bif (f.Count == 0) then
   some ([], 0, 0)
  else
   (Z0l i f.Count).bind fun x3 =>
   (at? f.Core x3.2.1).bind fun x4 =>
   some (x4, (ZB x3.1 f.Period).1, (ZB x3.1 f.Period).2)))
theorem Z5n {f : Form} {i : Int} : Le (Z3u f i) (Z1x f i) := by
 unfold Z3u Z1x
 repeat' (with_reducible (first | exact Le.refl _ | apply Le.bind | apply Le.cond | apply Z6e | intro _))
def Z3W (l : (List Span)) (by' : Int) : Option ((List Span) × Int) :=
 (Z1T (Z0A.s0 l by') (0, [])).bind fun (y1 : Jx ((List Span)) ((List Span) × Int)) =>
 y1.elim (fun r' =>
   some r') fun a2 =>
 some (a2, 0)
theorem Z5X {l : (List Span)} {by' : Int} : Le (Z3W l by') (Z0A l by') := by
 unfold Z3W Z0A
 repeat' (with_reducible (first | exact Le.refl _ | apply Le.bind | apply Le.elim | apply Le.loop | intro _))
def Z1P (f : Form) (i : Int) : Option ((List Span) × Int) :=
 (bif (!(Zn i)) then
  some ([], 20)
 else
  (Z3u f i).bind fun x1 =>
  (bif ((x1.1.length : Int) == 0) then
   some ([], 0)
  else
   (bif (x1.2.2 != 0) then
    some ([], 20)
   else
    (Z3W x1.1 x1.2.1).bind fun x2 =>
    some (x2.1, x2.2))))
theorem Z2b {f : Form} {i : Int} : Le (Z1P f i) (Z0B f i) := by
 unfold Z1P Z0B
 repeat' (with_reducible (first | exact Le.refl _ | apply Le.bind | apply Le.cond | apply Z5n | apply Z5X | intro _))
def Zf.s0 (s : (List (List Span))) (f : (List Span) → Option Bool) (s1 : Int) : Option ((Int) ⊕ (Jx (Unit) (Int))) :=
 (bif (decide (s1 < (s.length : Int))) then
  (at? s s1).bind fun x1 =>
  (f x1).bind fun x2 =>
  (bif x2 then
   some (.inr (.ret s1))
  else
   some (.inl (w64 (s1 + 1))))
 else
  some (.inr (.go ())))
theorem Z2P {s : (List (List Span))} {f f_ : (List Span) → Option Bool} {s1 : Int} (h_f : ∀ z0, Le (f z0) (f_ z0)) : Le (Zf.s0 s f s1) (ZF.s0 s f_ s1) := by
 unfold Zf.s0 ZF.s0
 repeat' (with_reducible (first | exact Le.refl _ | exact h_f _ | exact h_f | apply Le.bind | apply Le.cond | intro _))
def Zf (s : (List (List Span))) (f : (List Span) → Option Bool) : Option (Int) :=
 (Z1T (Zf.s0 s f) 0).bind fun (y1 : Jx (Unit) (Int)) =>
 y1.elim (fun r' =>
   some r') fun a2 =>
 some (-1)
theorem Z2q {s : (List (List Span))} {f f_ : (List Span) → Option Bool} (h_f : ∀ z0, Le (f z0) (f_ z0)) : Le (Zf s f) (ZF s f_) := by
 unfold Zf ZF
 repeat' (with_reducible (first | exact Le.refl _ | exact h_f _ | exact h_f | apply Le.bind | apply Le.elim | apply Le.loop | apply Z2P | intro _))
def Z0C (s : (List (List Span))) (f : (List Span) → Option Bool) : Option (Bool) :=
 (Zf s f).bind fun x1 =>
 some (decide (x1 ≥ 0))
theorem Z0u {s : (List (List Span))} {f f_ : (List Span) → Option Bool} (h_f : ∀ z0, Le (f z0) (f_ z0)) : Le (Z0C s f) (ZZ s f_) := by
 unfold Z0C ZZ
 repeat' (with_reducible (first | exact Le.refl _ | exact h_f _ | exact h_f | apply Le.bind | apply Z2q | intro _))
def Z5C (f : Form) : Option (Bool) :=
 (Z0C f.Core (fun z0 => some (Z3Y z0))).bind fun x1 =>
 some (!x1)
theorem ZA0 {f : Form} : Le (Z5C f) (Z2V f) := by
 unfold Z5C Z2V
 repeat' (with_reducible (first | exact Le.refl _ | apply Le.bind | apply Z0u | intro _))
def Z5R (f : Form) (i : Int) : Option (Bool) :=
 (Z3u f i).bind fun x1 =>
 some (decide ((x1.1.length : Int) > 0))
theorem Z9v {f : Form} {i : Int} : Le (Z5R f i) (Z3B f i) := by
 unfold Z5R Z3B
 repeat' (with_reducible (first | exact Le.refl _ | apply Le.bind | apply Z5n | intro _))
def Z1O.s1 (f : Form) (by' : Int) (s2 : Int) : Option ((Int) ⊕ (Jx (Unit) (Int × Bool))) :=
 (bif (Zn s2) then
  (Z5R f s2).bind fun x5 =>
  (bif x5 then
   some (.inr (.ret (s2, true)))
  else
   some (.inl (w64 (s2 + by'))))
 else
  some (.inr (.go ())))
theorem Z7Z {f : Form} {by' : Int} {s2 : Int} : Le (Z1O.s1 f by' s2) (Zs.s1 f by' s2) := by
 unfold Z1O.s1 Zs.s1
 repeat' (with_reducible (first | exact Le.refl _ | apply Le.bind | apply Le.cond | apply Z9v | intro _))
def Z1O (f : Form) (from' : Int) (by' : Int) : Option (Int × Bool) :=
 (Z5C f).bind fun x1 =>
 (bif x1 then
  (Z4L f from').bind fun x2 =>
  (
   (bif ((decide (by' < 0)) && (!x2.2)) then
    some (w64 (x2.1 - 1))
   else
    some x2.1)).bind fun (y1 : Int) =>
  (Z1T (Zs.s0 f by') y1).bind fun (y2 : Jx (Unit) (Int × Bool)) =>
  y2.elim (fun r' =>
    some r') fun a2 =>
  some (0, false)
 else
  (Z1T (Z1O.s1 f by') from').bind fun (y3 : Jx (Unit) (Int × Bool)) =>
  y3.elim (fun r' =>
    some r') fun a4 =>
  some (0, false))
theorem Z5g {f : Form} {from' : Int} {by' : Int} : Le (Z1O f from' by') (Zs f from' by') := by
 unfold Z1O Zs
 repeat' (with_reducible (first | exact Le.refl _ | apply Le.bind | apply Le.cond | apply Le.elim | apply Le.loop | apply ZA0 | apply Z6e | apply Z7Z | intro _))
def Z4G (f : Form) (i : Int) : Option (Int × Bool) :=
 (bif (decide (i ≤ (-1099511627776))) then
  some (0, false)
 else
  (Z1O f (iMin (w64 (i - 1)) 1099511627776) (-1)).bind fun x1 =>
  some (x1.1, x1.2))
theorem Z8O {f : Form} {i : Int} : Le (Z4G f i) (Z15 f i) := by
 unfold Z4G Z15
 repeat' (with_reducible (first | exact Le.refl _ | apply Le.bind | apply Le.cond | apply Z5g | intro _))
def Z27 (f : Form) (i : Int) : Option (Int × Bool) :=
 (bif (decide (i ≥ 1099511627776)) then
  some (0, false)
 else
  (Z1O f (iMax (w64 (i + 1)) (-1099511627776)) 1).bind fun x1 =>
  some (x1.1, x1.2))
theorem Z3E {f : Form} {i : Int} : Le (Z27 f i) (Z0t f i) := by
 unfold Z27 Z0t
 repeat' (with_reducible (first | exact Le.refl _ | apply Le.bind | apply Le.cond | apply Z5g | intro _))
def Z4H (f : Form) (i : Int) : Option (Bool) :=
 (Z1P f i).bind fun x1 =>
 (bif (x1.2 != 0) then
  some false
 else
  (Z4G f i).bind fun x2 =>
  (Z27 f i).bind fun x3 =>
  (
   (bif x2.2 then
    (Z1P f x2.1).bind fun x4 =>
    (bif (x4.2 != 0) then
     some (.ret false)
    else
     some (.go x4.1))
   else
    some (.go []))).bind fun (y1 : Jx ((List Span)) (Bool)) =>
  y1.elim (fun r' =>
    some r') fun a2 =>
  (
   (bif x3.2 then
    (Z1P f x3.1).bind fun x5 =>
    (bif (x5.2 != 0) then
     some (.ret false)
    else
     some (.go x5.1))
   else
    some (.go []))).bind fun (y2 : Jx ((List Span)) (Bool)) =>
  y2.elim (fun r' =>
    some r') fun a4 =>
  (Z0R a2 x1.1).bind fun x6 =>
  (
   (bif x6 then
    (Z0R x1.1 a4).bind fun x7 =>
    some x7
   else
    some false)).bind fun (y3 : Bool) =>
  (
   (bif y3 then
    (Z0R a2 a4).bind fun x8 =>
    some x8
   else
    some false)).bind fun (y4 : Bool) =>
  some y4)
theorem Z8M {f : Form} {i : Int} : Le (Z4H f i) (Z1S f i) := by
 unfold Z4H Z1S
 repeat' (with_reducible (first | exact Le.refl _ | apply Le.bind | apply Le.cond | apply Le.elim | apply Z2b | apply Z8O | apply Z3E | intro _))
def Z1X.s0 (f : Form) (s1 : Int) : Option ((Int) ⊕ (Jx (Unit) (Int))) :=
 (bif (decide (s1 < (f.Odd.length : Int))) then
  (at? f.Odd s1).bind fun x4 =>
  (Z4H f x4.Index).bind fun x5 =>
  (bif (!x5) then
   some (.inr (.ret 50))
  else
   some (.inl (w64 (s1 + 1))))
 else
  some (.inr (.go ())))
theorem Z6p {f : Form} {s1 : Int} : Le (Z1X.s0 f s1) (Z03.s0 f s1) := by
 unfold Z1X.s0 Z03.s0
 repeat' (with_reducible (first | exact Le.refl _ | apply Le.bind | apply Le.cond | apply Z8M | intro _))
def Z1X (f : Form) : Option (Int) :=
 (
  (bif ((decide ((f.Core.length : Int) > 6000)) || (decide ((f.Odd.length : Int) > 6000))) then
   some true
  else
   (Z5A f).bind fun x1 =>
   some (decide (x1 > 60000)))).bind fun (y1 : Bool) =>
 (bif y1 then
  some 3
 else
  (Z0S f).bind fun x2 =>
  (
   (bif (!x2) then
    some true
   else
    (Z4e f).bind fun x3 =>
    some (!x3))).bind fun (y2 : Bool) =>
  (bif y2 then
   some 50
  else
   (Z1T (Z1X.s0 f) 0).bind fun (y3 : Jx (Unit) (Int)) =>
   y3.elim (fun r' =>
     some r') fun a2 =>
   some 0))
theorem Z99 {f : Form} : Le (Z1X f) (Z03 f) := by
 unfold Z1X Z03
 repeat' (with_reducible (first | exact Le.refl _ | apply Le.bind | apply Le.cond | apply Le.elim | apply Le.loop | apply Z9o | apply Z96 | apply Z9E | apply Z6p | intro _))
def Z1H (s1' : (List Span)) (s2' : (List Span)) : Option (Bool) :=
 (bif ((s1'.length : Int) != (s2'.length : Int)) then
  some false
 else
  (Z1T (ZT.s0 s1' s2') 0).bind fun (y1 : Jx (Unit) (Bool)) =>
  y1.elim (fun r' =>
    some r') fun a2 =>
  some true)
theorem Z3m {s1' : (List Span)} {s2' : (List Span)} : Le (Z1H s1' s2') (ZT s1' s2') := by
 unfold Z1H ZT
 repeat' (with_reducible (first | exact Le.refl _ | apply Le.bind | apply Le.cond | apply Le.elim | apply Le.loop | intro _))
def Z4c (a : (List Span)) (b : (List Span)) : Option (Bool) :=
 (Z1H a b).bind fun x1 =>
 some x1
theorem Z95 {a : (List Span)} {b : (List Span)} : Le (Z4c a b) (Z0K a b) := by
 unfold Z4c Z0K
 repeat' (with_reducible (first | exact Le.refl _ | apply Le.bind | apply Z3m | intro _))
def ZO.s0 (s1' : (List Span)) (s2' : (List Span)) (eq : Span → Span → Option Bool) (s1 : Int) : Option ((Int) ⊕ (Jx (Unit) (Bool))) :=
 (bif (decide (s1 < (s1'.length : Int))) then
  (at? s1' s1).bind fun x1 =>
  (at? s2' s1).bind fun x2 =>
  (eq x1 x2).bind fun x3 =>
  (bif (!x3) then
   some (.inr (.ret false))
  else
   some (.inl (w64 (s1 + 1))))
 else
  some (.inr (.go ())))
theorem Z1Y {s1' : (List Span)} {s2' : (List Span)} {eq eq_ : Span → Span → Option Bool} {s1 : Int} (h_eq : ∀ z0 z1, Le (eq z0 z1) (eq_ z0 z1)) : Le (ZO.s0 s1' s2' eq s1) (ZA.s0 s1' s2' eq_ s1) := by
 unfold ZO.s0 ZA.s0
 repeat' (with_reducible (first | exact Le.refl _ | exact h_eq _ _ | exact h_eq | apply Le.bind | apply Le.cond | intro _))
def ZO (s1' : (List Span)) (s2' : (List Span)) (eq : Span → Span → Option Bool) : Option (Bool) :=
 (bif ((s1'.length : Int) != (s2'.length : Int)) then
  some false
 else
  (Z1T (ZO.s0 s1' s2' eq) 0).bind fun (y1 : Jx (Unit) (Bool)) =>
  y1.elim (fun r' =>
    some r') fun a2 =>
  some true)
theorem Z1i {s1' : (List Span)} {s2' : (List Span)} {eq eq_ : Span → Span → Option Bool} (h_eq : ∀ z0 z1, Le (eq z0 z1) (eq_ z0 z1)) : Le (ZO s1' s2' eq) (ZA s1' s2' eq_) := by
 unfold ZO ZA
 repeat' (with_reducible (first | exact Le.refl _ | exact h_eq _ _ | exact h_eq | apply Le.bind | apply Le.cond | apply Le.elim | apply Le.loop | apply Z1Y | intro _))
def Z22 (a : (List Span)) (b : (List Span)) : Option (Bool) :=
 (bif ((a.length : Int) != (b.length : Int)) then
  some false
 else
  (Z1T (Zg.s0 a b) 0).bind fun (y1 : Jx (Unit) (Bool)) =>
  y1.elim (fun r' =>
    some r') fun a2 =>
  some true)
theorem Z6Q {a : (List Span)} {b : (List Span)} : Le (Z22 a b) (Zg a b) := by
 unfold Z22 Zg
 repeat' (with_reducible (first | exact Le.refl _ | apply Le.bind | apply Le.cond | apply Le.elim | apply Le.loop | intro _))
def Z4Y (f : Form) : Option (Bool) :=
 (Z0C f.Core (fun z0 => some (Z3t z0))).bind fun x1 =>
 some (!x1)
theorem Z97 {f : Form} : Le (Z4Y f) (Z2r f) := by
 unfold Z4Y Z2r
 repeat' (with_reducible (first | exact Le.refl _ | apply Le.bind | apply Z0u | intro _))
def Z0P.s0 (p1' : Int) {S : Type} (yield : S → Int → Option (S × Bool)) (s1 : Int × S) : Option ((Int × S) ⊕ (Jx (S) (S))) :=
 (bif (decide (s1.1 ≤ p1')) then
  (nz? s1.1).bind fun u1 =>
  (
   (bif ((p1'.tmod s1.1) == 0) then
    (yield s1.2 s1.1).bind fun x1 =>
    some ((!x1.2), x1.1)
   else
    some (false, s1.2))).bind fun (y2 : Bool × S) =>
  (bif y2.1 then
   some (.inr (.ret y2.2))
  else
   some (.inl ((w64 (s1.1 + 1)), y2.2)))
 else
  some (.inr (.go s1.2)))
theorem Z4h {p1' : Int} {S : Type} {yield yield_ : S → Int → Option (S × Bool)} {s1 : Int × S} (h_yield : ∀ z0 z1, Le (yield z0 z1) (yield_ z0 z1)) : Le (Z0P.s0 p1' yield s1) (Zt.s0 p1' yield_ s1) := by
 unfold Z0P.s0 Zt.s0
 repeat' (with_reducible (first | exact Le.refl _ | exact h_yield _ _ | exact h_yield | apply Le.bind | apply Le.cond | intro _))
def Z0P {S : Type} (p1' : Int) (yield : S → Int → Option (S × Bool)) (st' : S) : Option (S) :=
 (Z1T (Z0P.s0 p1' yield) (1, st')).bind fun (y1 : Jx (S) (S)) =>
 y1.elim (fun r' =>
   some r') fun a2 =>
 some a2
theorem Z5a {S : Type} {p1' : Int} {yield yield_ : S → Int → Option (S × Bool)} {st' : S} (h_yield : ∀ z0 z1, Le (yield z0 z1) (yield_ z0 z1)) : Le (Z0P p1' yield st') (Zt p1' yield_ st') := by
 unfold Z0P Zt
 repeat' (with_reducible (first | exact Le.refl _ | exact h_yield _ _ | exact h_yield | apply Le.bind | apply Le.elim | apply Le.loop | apply Z4h | intro _))
def Z3L (a : (List Span)) (b : (List Span)) (by' : Int) : Option (Bool) :=
 (ZO a b (fun z0 z1 => some (Z0y z0 z1 by'))).bind fun x1 =>
 some x1
theorem Z6i {a : (List Span)} {b : (List Span)} {by' : Int} : Le (Z3L a b by') (Z1W a b by') := by
 unfold Z3L Z1W
 repeat' (with_reducible (first | exact Le.refl _ | apply Le.bind | apply Z1i | intro _))
def Z1Z.s0 (f : Form) (d : Int) (by' : Int) (s1 : Int) : Option ((Int) ⊕ (Jx (Unit) (Bool))) :=
 (bif (decide (s1 < (f.Core.length : Int))) then
  (
   (
    (at? f.Core s1).bind fun x1 =>
    (
     (bif (decide ((w64 (s1 + d)) ≥ f.Count)) then
      some ((w64 ((w64 (s1 + d)) - f.Count)), f.Period)
     else
      some ((w64 (s1 + d)), 0))).bind fun (y4 : Int × Int) =>
    (at? f.Core y4.1).bind fun x2 =>
    (Z3L x1 x2 (w64 (by' - y4.2))).bind fun x3 =>
    (bif (!x3) then
     some (.ret false)
    else
     some (.go ()))).bind fun (y3 : Jx (Unit) (Bool)) =>
   y3.elim (fun r' =>
     some (.ret r')) fun a4 =>
   some (.go ())).bind fun (y2 : Jx (Unit) (Bool)) =>
  y2.elim (fun r' =>
    some (.inr (.ret r'))) fun a5 =>
  some (.inl (w64 (s1 + 1)))
 else
  some (.inr (.go ())))
theorem Z71 {f : Form} {d : Int} {by' : Int} {s1 : Int} : Le (Z1Z.s0 f d by' s1) (Z0W.s0 f d by' s1) := by
 unfold Z1Z.s0 Z0W.s0
 repeat' (with_reducible (first | exact Le.refl _ | apply Le.bind | apply Le.cond | apply Le.elim | apply Z6i | intro _))
def Z1Z (f : Form) (d : Int) (by' : Int) : Option (Bool) :=
 (Z1T (Z1Z.s0 f d by') 0).bind fun (y1 : Jx (Unit) (Bool)) =>
 y1.elim (fun r' =>
   some r') fun a6 =>
 some true
theorem Z9D {f : Form} {d : Int} {by' : Int} : Le (Z1Z f d by') (Z0W f d by') := by
 unfold Z1Z Z0W
 repeat' (with_reducible (first | exact Le.refl _ | apply Le.bind | apply Le.elim | apply Le.loop | apply Z71 | intro _))
def Z1V.b0 (f : Form) (s2 : (List (List Span)) × Int × Int) (z2 : Int) : Option (((List (List Span)) × Int × Int) × Nat) :=
 (nz? z2).bind fun u1 =>
 (Z0l f.Period (w64 (f.Count.tdiv z2))).bind fun x2 =>
 (
  (bif (x2.2.1 != 0) then
   some true
  else
   (Z1Z f z2 x2.1).bind fun x3 =>
   some (!x3))).bind fun (y3 : Bool) =>
 (bif y3 then
  some ((s2.1, s2.2.1, s2.2.2), 0)
 else
  (cut? f.Core 0 z2).bind fun x4 =>
  (Z1T (Zo.s1 x4) (0, s2.1)).bind fun (y4 : (List (List Span))) =>
  some ((y4, x2.1, z2), 1))
theorem Z7E {f : Form} {s2 : (List (List Span)) × Int × Int} {z2 : Int} : Le (Z1V.b0 f s2 z2) (Zo.b0 f s2 z2) := by
 unfold Z1V.b0 Zo.b0
 repeat' (with_reducible (first | exact Le.refl _ | apply Le.bind | apply Le.cond | apply Le.loop | apply Z9D | intro _))
def Z1V (f : Form) : Option (Form) :=
 (Z4Y f).bind fun x1 =>
 (bif x1 then
  some (Form.mk 0 0 [] [])
 else
  (
   (Z0P f.Count (Z2Z (Z1V.b0 f)) (([], 0, 0), 0)).bind fun (y2 : ((List (List Span)) × Int × Int) × Nat) =>
   (bif (y2.2 == 0) then
    some (y2.1.1, y2.1.2.1, y2.1.2.2)
   else
    some (y2.1.1, y2.1.2.1, y2.1.2.2))).bind fun (y1 : (List (List Span)) × Int × Int) =>
  some (Form.mk y1.2.1 y1.2.2 y1.1 []))
theorem Z94 {f : Form} : Le (Z1V f) (Zo f) := by
 unfold Z1V Zo
 repeat' (with_reducible (first | exact Le.refl _ | apply Le.bind | apply Le.cond | refine Le.Z2Z ?_ _ _ | apply Z97 | apply Z5a | apply Z7E | intro _))
def Z48 (f : Form) (g : Granule) : Option (Bool) :=
 (Z1P f g.Index).bind fun x1 =>
 (
  (bif (x1.2 == 0) then
   (Z4c x1.1 g.Ticks).bind fun x2 =>
   some x2
  else
   some false)).bind fun (y1 : Bool) =>
 some y1
theorem Z8Z {f : Form} {g : Granule} : Le (Z48 f g) (Z2D f g) := by
 unfold Z48 Z2D
 repeat' (with_reducible (first | exact Le.refl _ | apply Le.bind | apply Le.cond | apply Z2b | apply Z95 | intro _))
def Z1a.s0 (f : Form) (x1 : Form) (s2 : Int × (List Granule)) : Option ((Int × (List Granule)) ⊕ ((List Granule))) :=
 (bif (decide (s2.1 < (f.Odd.length : Int))) then
  (
   (
    (at? f.Odd s2.1).bind fun x2 =>
    (Z48 x1 x2).bind fun x3 =>
    (bif (!x3) then
     (clone? 16 x2.Ticks).bind fun x4 =>
     (app? 32 s2.2 [(Granule.mk x2.Index x4)]).bind fun x5 =>
     some x5
    else
     some s2.2)).bind fun (y3 : (List Granule)) =>
   some y3).bind fun (y2 : (List Granule)) =>
  some (.inl ((w64 (s2.1 + 1)), y2))
 else
  some (.inr s2.2))
theorem Z6y {f : Form} {x1 : Form} {s2 : Int × (List Granule)} : Le (Z1a.s0 f x1 s2) (Ze.s0 f x1 s2) := by
 unfold Z1a.s0 Ze.s0
 repeat' (with_reducible (first | exact Le.refl _ | apply Le.bind | apply Le.cond | apply Z8Z | intro _))
def Z1a (f : Form) : Option (Form) :=
 (Z1V f).bind fun x1 =>
 (Z1T (Z1a.s0 f x1) (0, [])).bind fun (y1 : (List Granule)) =>
 some (Form.mk x1.Period x1.Count x1.Core y1)
theorem Z92 {f : Form} : Le (Z1a f) (Ze f) := by
 unfold Z1a Ze
 repeat' (with_reducible (first | exact Le.refl _ | apply Le.bind | apply Le.loop | apply Z94 | apply Z6y | intro _))
def Z0k.s0 {S : Type} (p1' : Int) (p2' : Int → Option ((List Span) × Int)) (p3' : Int) (yield : S → ((List Span) × Int) → Option (S × Bool)) (s1 : Int × S) : Option ((Int × S) ⊕ (Jx (S) (S))) :=
 (bif (decide (s1.1 < p1')) then
  (p2' (w64 (p3' + s1.1))).bind fun x1 =>
  (yield s1.2 (x1.1, x1.2)).bind fun x2 =>
  (bif (!x2.2) then
   some (.inr (.ret x2.1))
  else
   some (.inl ((w64 (s1.1 + 1)), x2.1)))
 else
  some (.inr (.go s1.2)))
theorem Z5b {S : Type} {p1' : Int} {p2' p2'_ : Int → Option ((List Span) × Int)} {p3' : Int} {yield yield_ : S → ((List Span) × Int) → Option (S × Bool)} {s1 : Int × S} (h_p2' : ∀ z0, Le (p2' z0) (p2'_ z0)) (h_yield : ∀ z0 z1, Le (yield z0 z1) (yield_ z0 z1)) : Le (Z0k.s0 p1' p2' p3' yield s1) (Z0a.s0 p1' p2'_ p3' yield_ s1) := by
 unfold Z0k.s0 Z0a.s0
 repeat' (with_reducible (first | exact Le.refl _ | exact h_p2' _ | exact h_yield _ _ | exact h_p2' | exact h_yield | apply Le.bind | apply Le.cond | intro _))
def Z0k {S : Type} (p1' : Int) (p2' : Int → Option ((List Span) × Int)) (p3' : Int) (yield : S → ((List Span) × Int) → Option (S × Bool)) (st' : S) : Option (S) :=
 (Z1T (Z0k.s0 p1' p2' p3' yield) (0, st')).bind fun (y1 : Jx (S) (S)) =>
 y1.elim (fun r' =>
   some r') fun a2 =>
 some a2
theorem Z7F {S : Type} {p1' : Int} {p2' p2'_ : Int → Option ((List Span) × Int)} {p3' : Int} {yield yield_ : S → ((List Span) × Int) → Option (S × Bool)} {st' : S} (h_p2' : ∀ z0, Le (p2' z0) (p2'_ z0)) (h_yield : ∀ z0 z1, Le (yield z0 z1) (yield_ z0 z1)) : Le (Z0k p1' p2' p3' yield st') (Z0a p1' p2'_ p3' yield_ st') := by
 unfold Z0k Z0a
 repeat' (with_reducible (first | exact Le.refl _ | exact h_p2' _ | exact h_yield _ _ | exact h_p2' | exact h_yield | apply Le.bind | apply Le.elim | apply Le.loop | apply Z5b | intro _))
def Z1s (tell : Int → Option ((List Span) × Int)) (from' : Int) (many : Int) : Option ((List Span) × Int) :=
 (
  some ()).bind fun (y1 : Unit) =>
 (Z0k many tell from' (Z2Z Z0G.b0) (([], 0), 0)).bind fun (y2 : ((List Span) × Int) × Nat) =>
 (bif (y2.2 == 0) then
  some (y2.1.1, 0)
 else
  some ([], y2.1.2))
theorem Z3i {tell tell_ : Int → Option ((List Span) × Int)} {from' : Int} {many : Int} (h_tell : ∀ z0, Le (tell z0) (tell_ z0)) : Le (Z1s tell from' many) (Z0G tell_ from' many) := by
 unfold Z1s Z0G
 repeat' (with_reducible (first | exact Le.refl _ | exact h_tell _ | exact h_tell | apply Le.bind | apply Le.cond | refine Le.Z2Z ?_ _ _ | apply Z7F | intro _))
def Z3N (f : Form) (i : Int) : Option ((List Span) × Int) :=
 (bif (f.Count == 0) then
  some ([], 0)
 else
  (Z0l i f.Count).bind fun x1 =>
  (at? f.Core x1.2.1).bind fun x2 =>
  (bif ((x2.length : Int) == 0) then
   some ([], 0)
  else
   (bif ((x1.2.2 != 0) || (((ZB x1.1 f.Period).2) != 0)) then
    some ([], 20)
   else
    (at? f.Core x1.2.1).bind fun x3 =>
    (Z3W x3 ((ZB x1.1 f.Period).1)).bind fun x4 =>
    some (x4.1, x4.2))))
theorem Z5V {f : Form} {i : Int} : Le (Z3N f i) (Z1q f i) := by
 unfold Z3N Z1q
 repeat' (with_reducible (first | exact Le.refl _ | apply Le.bind | apply Le.cond | apply Z5X | intro _))
def Z36 (i : Int) (p1' : Form) : Option ((List Span) × Int) :=
 (Z3N p1' i).bind fun x1 =>
 some (x1.1, x1.2)
theorem Z6J {i : Int} {p1' : Form} : Le (Z36 i p1') (Z2L i p1') := by
 unfold Z36 Z2L
 repeat' (with_reducible (first | exact Le.refl _ | apply Le.bind | apply Z5V | intro _))
def Z0z.s1 (f : Form) (m : Int) (x1 : Int × Int) (s3 : Int × (List (List Span))) : Option ((Int × (List (List Span))) ⊕ (Jx ((List (List Span)) × Int) (Int))) :=
 (bif (decide (s3.1 < x1.1)) then
  (Z1s (fun z0 => Z36 z0 f) (w64 (s3.1 * m)) m).bind fun x3 =>
  (bif (x3.2 != 0) then
   some (.inr (.ret x3.2))
  else
   (app? 24 s3.2 [x3.1]).bind fun x4 =>
   some (.inl ((w64 (s3.1 + 1)), x4)))
 else
  some (.inr (.go (s3.2, (ZB f.Period (w64 (x1.2.tdiv f.Count))).1))))
theorem Z5k {f : Form} {m : Int} {x1 : Int × Int} {s3 : Int × (List (List Span))} : Le (Z0z.s1 f m x1 s3) (Z0I.s1 f m x1 s3) := by
 unfold Z0z.s1 Z0I.s1
 repeat' (with_reducible (first | exact Le.refl _ | apply Le.bind | apply Le.cond | apply Z3i | apply Z6J | intro _))
def Z0z (f : Form) (m : Int) : Option (Form × Int) :=
 (Z3X f m).bind fun x1 =>
 (bif (x1.1 == 0) then
  some ((Form.mk 0 0 [] []), 0)
 else
  (Z1T (Z0I.s0 f) (0, 0)).bind fun (y1 : Int) =>
  (nz? f.Count).bind fun u1 =>
  (bif (decide ((w64 (y1 * (w64 (x1.2.tdiv f.Count)))) > 60000)) then
   some ((Form.mk 0 0 [] []), 3)
  else
   (nz? f.Count).bind fun u2 =>
   (bif ((((ZB f.Period (w64 (x1.2.tdiv f.Count))).2) != 0) || (decide (((ZB f.Period (w64 (x1.2.tdiv f.Count))).1) > 1099511627776))) then
    some ((Form.mk 0 0 [] []), 20)
   else
    (Z1T (Z0z.s1 f m x1) (0, [])).bind fun (y2 : Jx ((List (List Span)) × Int) (Int)) =>
    y2.elim (fun a4 =>
      some ((Form.mk 0 0 [] []), a4)) fun a3 =>
    some ((Form.mk a3.2 x1.1 a3.1 []), 0))))
theorem Z7P {f : Form} {m : Int} : Le (Z0z f m) (Z0I f m) := by
 unfold Z0z Z0I
 repeat' (with_reducible (first | exact Le.refl _ | apply Le.bind | apply Le.cond | apply Le.elim | apply Le.loop | apply Z5k | intro _))
def Z2A (f : Form) : Option (Form × Int) :=
 (Z1X f).bind fun x1 =>
 (bif (x1 == 0) then
  (Z1a f).bind fun x2 =>
  some (x2, 0)
 else
  (bif (x1 == 3) then
   some ((Form.mk 0 0 [] []), 3)
  else
   some ((Form.mk 0 0 [] []), 20)))
theorem Z3I {f : Form} : Le (Z2A f) (Z1l f) := by
 unfold Z2A Z1l
 repeat' (with_reducible (first | exact Le.refl _ | apply Le.bind | apply Le.cond | apply Z99 | apply Z92 | intro _))
def Z37 (i : Int) (p1' : Form) : Option ((List Span) × Int) :=
 (Z1P p1' i).bind fun x1 =>
 some (x1.1, x1.2)
theorem Z6P {i : Int} {p1' : Form} : Le (Z37 i p1') (Z2J i p1') := by
 unfold Z37 Z2J
 repeat' (with_reducible (first | exact Le.refl _ | apply Le.bind | apply Z2b | intro _))
def Z0M.s0 (f : Form) (m : Int) (s2 : Int × (List Granule)) : Option ((Int × (List Granule)) ⊕ (Jx ((List Granule)) (Form × Int))) :=
 (bif (decide (s2.1 < (f.Odd.length : Int))) then
  (
   (at? f.Odd s2.1).bind fun x2 =>
   (Z0l x2.Index m).bind fun x3 =>
   (
    (bif (decide ((s2.2.length : Int) > 0)) then
     (at? s2.2 (w64 ((s2.2.length : Int) - 1))).bind fun x4 =>
     some (x4.Index == x3.1)
    else
     some false)).bind fun (y3 : Bool) =>
   (bif y3 then
    some (.go s2.2)
   else
    (Z1s (fun z0 => Z37 z0 f) (w64 (x3.1 * m)) m).bind fun x5 =>
    (bif (x5.2 != 0) then
     some (.ret ((Form.mk 0 0 [] []), 20))
    else
     (app? 32 s2.2 [(Granule.mk x3.1 x5.1)]).bind fun x6 =>
     some (.go x6)))).bind fun (y2 : Jx ((List Granule)) (Form × Int)) =>
  y2.elim (fun r' =>
    some (.inr (.ret r'))) fun a3 =>
  some (.inl ((w64 (s2.1 + 1)), a3))
 else
  some (.inr (.go s2.2)))
theorem Z63 {f : Form} {m : Int} {s2 : Int × (List Granule)} : Le (Z0M.s0 f m s2) (Z0O.s0 f m s2) := by
 unfold Z0M.s0 Z0O.s0
 repeat' (with_reducible (first | exact Le.refl _ | apply Le.bind | apply Le.cond | apply Le.elim | apply Z3i | apply Z6P | intro _))
def Z0M (f : Form) (m : Int) : Option (Form × Int) :=
 (bif ((decide (m < 1)) || (decide (m > 6000))) then
  some ((Form.mk 0 0 [] []), 2)
 else
  (Z0z f m).bind fun x1 =>
  (bif (x1.2 != 0) then
   some ((Form.mk 0 0 [] []), x1.2)
  else
   (Z1T (Z0M.s0 f m) (0, [])).bind fun (y1 : Jx ((List Granule)) (Form × Int)) =>
   y1.elim (fun r' =>
     some r') fun a4 =>
   (Z2A (Form.mk x1.1.Period x1.1.Count x1.1.Core a4)).bind fun x7 =>
   some (x7.1, x7.2)))
theorem Z7Y {f : Form} {m : Int} : Le (Z0M f m) (Z0O f m) := by
 unfold Z0M Z0O
 repeat' (with_reducible (first | exact Le.refl _ | apply Le.bind | apply Le.cond | apply Le.elim | apply Le.loop | apply Z7P | apply Z63 | apply Z3I | intro _))
def Z0x.s0 (f : Form) (m : Int) (s2 : Int × (List (List Span))) : Option ((Int × (List (List Span))) ⊕ (Jx ((List (List Span))) (Form × Int))) :=
 (bif (decide (s2.1 < f.Count)) then
  (Z3N f (w64 (s2.1 - m))).bind fun x1 =>
  (bif (x1.2 != 0) then
   some (.inr (.ret ((Form.mk 0 0 [] []), x1.2)))
  else
   (app? 24 s2.2 [x1.1]).bind fun x2 =>
   some (.inl ((w64 (s2.1 + 1)), x2)))
 else
  some (.inr (.go s2.2)))
theorem Z5i {f : Form} {m : Int} {s2 : Int × (List (List Span))} : Le (Z0x.s0 f m s2) (ZP.s0 f m s2) := by
 unfold Z0x.s0 ZP.s0
 repeat' (with_reducible (first | exact Le.refl _ | apply Le.bind | apply Le.cond | apply Z5V | intro _))
def Z0x (f : Form) (m : Int) : Option (Form × Int) :=
 (bif (!(ZJ m)) then
  some ((Form.mk 0 0 [] []), 2)
 else
  (Z1T (Z0x.s0 f m) (0, [])).bind fun (y1 : Jx ((List (List Span))) (Form × Int)) =>
  y1.elim (fun r' =>
    some r') fun a2 =>
  (Z1T (ZP.s1 f m) (0, [])).bind fun (y2 : Jx ((List Granule)) (Form × Int)) =>
  y2.elim (fun r' =>
    some r') fun a4 =>
  (Z2A (Form.mk f.Period f.Count a2 a4)).bind fun x6 =>
  some (x6.1, x6.2))
theorem Z7q {f : Form} {m : Int} : Le (Z0x f m) (ZP f m) := by
 unfold Z0x ZP
 repeat' (with_reducible (first | exact Le.refl _ | apply Le.bind | apply Le.cond | apply Le.elim | apply Le.loop | apply Z5i | apply Z3I | intro _))
def Z2h (f : Form) (i : Int) : Option (Bool × (List Span) × Int) :=
 (Z1P f i).bind fun x1 =>
 some (((decide ((x1.1.length : Int) > 0)) || (x1.2 != 0)), x1.1, x1.2)
theorem Z4V {f : Form} {i : Int} : Le (Z2h f i) (Z2R f i) := by
 unfold Z2h Z2R
 repeat' (with_reducible (first | exact Le.refl _ | apply Le.bind | apply Z2b | intro _))
def Z00.s0 (f : Form) (n : Int) (s2 : Int × Bool × (List Int)) : Option ((Int × Bool × (List Int)) ⊕ (Jx ((List Int)) (Form × Int))) :=
 (bif (s2.2.1 && (decide (s2.1 ≤ n))) then
  (app? 8 s2.2.2 [s2.1]).bind fun x3 =>
  (bif (decide ((x3.length : Int) > 6000)) then
   some (.inr (.ret ((Form.mk 0 0 [] []), 3)))
  else
   (Z27 f s2.1).bind fun x4 =>
   some (.inl (x4.1, x4.2, x3)))
 else
  some (.inr (.go s2.2.2)))
theorem Z5c {f : Form} {n : Int} {s2 : Int × Bool × (List Int)} : Le (Z00.s0 f n s2) (Zx.s0 f n s2) := by
 unfold Z00.s0 Zx.s0
 repeat' (with_reducible (first | exact Le.refl _ | apply Le.bind | apply Le.cond | apply Z3E | intro _))
def Z00.s1 (f : Form) (a2 : (List Int)) (s4 : Int × (List Granule)) : Option ((Int × (List Granule)) ⊕ (Jx ((List Granule)) (Form × Int))) :=
 (bif (decide (s4.1 < (a2.length : Int))) then
  (at? a2 s4.1).bind fun x5 =>
  (Z2h f x5).bind fun x6 =>
  (bif (x6.2.2 != 0) then
   some (.inr (.ret ((Form.mk 0 0 [] []), 20)))
  else
   (app? 32 s4.2 [(Granule.mk x5 x6.2.1)]).bind fun x7 =>
   some (.inl ((w64 (s4.1 + 1)), x7)))
 else
  some (.inr (.go s4.2)))
theorem Z5d {f : Form} {a2 : (List Int)} {s4 : Int × (List Granule)} : Le (Z00.s1 f a2 s4) (Zx.s1 f a2 s4) := by
 unfold Z00.s1 Zx.s1
 repeat' (with_reducible (first | exact Le.refl _ | apply Le.bind | apply Le.cond | apply Z4V | intro _))
def Z00 (f : Form) (m : Int) (n : Int) : Option (Form × Int) :=
 (bif (((!(ZJ m)) || (!(ZJ n))) || (decide (m > n))) then
  some ((Form.mk 0 0 [] []), 2)
 else
  (
   (Z2h f m).bind fun x1 =>
   (bif (!x1.1) then
    (Z27 f m).bind fun x2 =>
    some (x2.1, x2.2)
   else
    some (m, true))).bind fun (y1 : Int × Bool) =>
  (Z1T (Z00.s0 f n) (y1.1, y1.2, [])).bind fun (y2 : Jx ((List Int)) (Form × Int)) =>
  y2.elim (fun r' =>
    some r') fun a2 =>
  (Z1T (Z00.s1 f a2) (0, [])).bind fun (y3 : Jx ((List Granule)) (Form × Int)) =>
  y3.elim (fun r' =>
    some r') fun a4 =>
  (Z2A (Form.mk 0 0 [] a4)).bind fun x8 =>
  some (x8.1, x8.2))
theorem Z7B {f : Form} {m : Int} {n : Int} : Le (Z00 f m n) (Zx f m n) := by
 unfold Z00 Zx
 repeat' (with_reducible (first | exact Le.refl _ | apply Le.bind | apply Le.cond | apply Le.elim | apply Le.loop | apply Z4V | apply Z3E | apply Z5c | apply Z5d | apply Z3I | intro _))
def Z29 : Option (Bool) :=
 (Z0M ZQ 7).bind fun x1 =>
 (Z0x ZQ 3).bind fun x2 =>
 (Z00 ZQ 2 4).bind fun x3 =>
 (Z0M (Form.mk ZM.Period ZM.Count ZM.Core [(Granule.mk 1 [(Span.mk 8 11)])]) 2).bind fun x4 =>
 (Z1P x2.1 0).bind fun x5 =>
 (Z0M ZQ 0).bind fun x6 =>
 (Z00 ZQ 2 1).bind fun x7 =>
 (Z0M (Form.mk 549755813888 1 [[(Span.mk 0 0)]] []) 4).bind fun x8 =>
 (
  (bif (((((((((((x1.2 == 0) && (x2.2 == 0)) && (x3.2 == 0)) && (x4.2 == 0)) && (x5.2 == 0)) && (x6.2 == 2)) && (x7.2 == 2)) && (x8.2 == 20)) && (x1.1.Period == 7)) && (x1.1.Count == 1)) && ((x1.1.Core.length : Int) == 1)) then
   (at? x1.1.Core 0).bind fun x9 =>
   (Z22 x9 [(Span.mk 0 6)]).bind fun x10 =>
   some x10
  else
   some false)).bind fun (y1 : Bool) =>
 (
  (bif y1 then
   (Z22 x5.1 [(Span.mk (-3) (-3))]).bind fun x11 =>
   some x11
  else
   some false)).bind fun (y2 : Bool) =>
 (
  (bif (y2 && ((x3.1.Odd.length : Int) == 3)) then
   (at? x3.1.Odd 0).bind fun x12 =>
   some (x12.Index == 2)
  else
   some false)).bind fun (y3 : Bool) =>
 (
  (bif ((y3 && (x3.1.Count == 0)) && ((x4.1.Odd.length : Int) == 1)) then
   (at? x4.1.Odd 0).bind fun x13 =>
   some (x13.Index == 0)
  else
   some false)).bind fun (y4 : Bool) =>
 some y4
theorem Z5F : Le (Z29) (Z1N) := by
 unfold Z29 Z1N
 repeat' (with_reducible (first | exact Le.refl _ | apply Le.bind | apply Le.cond | apply Z7Y | apply Z7q | apply Z7B | apply Z2b | apply Z6Q | intro _))
theorem Z56 : Z29 = some true := by kernel_rfl
theorem Z5O : Z1N = some true := Z5F _ Z56
end
end Go.Dn
