/- Part 2 of what the row stands on. -/
import Derived.Below
import Derived.ChangeArms
import Derived.ChangeOld
import Derived.SizedLaws
import Derived.KernelRfl
import Derived.Test.YtfknindefmcgdaaProg
import Derived.ScopeJumps
import Derived.Test.YtfknindefmcgdaaM1
set_option linter.unusedVariables false
set_option linter.unusedSimpArgs false
namespace Go.Dn
open Go
def Z2A {S T : Type} (yb : S → T → Option (S × Nat)) : S × Nat → T → Option ((S × Nat) × Bool) := fun s t => if s.2 = 0 then (yb s.1 t).map fun r => (r, r.2 == 0) else none
def cI (k : IntKind) (x : Int) : List FV := [.int k x]
def cB (x : Bool) : List FV := [.bool x]
def cS (x : ByteArray) : List FV := [.str x]
def cL {α : Type} (c : α → List FV) (x : List α) : List FV := [.sl (x.map c)]
abbrev w64 (x : Int) : Int := IntKind.i64.wrap x
def nz? (b : Int) : Option Unit := if b = 0 then none else some ()
theorem nz_ne {b : Int} {u : Unit} (h : nz? b = some u) : b ≠ 0 := by
 unfold nz? at h
 split at h
 ·cases h
 ·assumption
abbrev iAnd (k : IntKind) (x y : Int) : Int := k.wrap (BitVec.ofInt k.bits x &&& BitVec.ofInt k.bits y).toNat
abbrev iOr (k : IntKind) (x y : Int) : Int := k.wrap (BitVec.ofInt k.bits x ||| BitVec.ofInt k.bits y).toNat
abbrev iXor (k : IntKind) (x y : Int) : Int := k.wrap (BitVec.ofInt k.bits x ^^^ BitVec.ofInt k.bits y).toNat
abbrev iAndNot (k : IntKind) (x y : Int) : Int := k.wrap (BitVec.ofInt k.bits x &&& ~~~ BitVec.ofInt k.bits y).toNat
abbrev iMin (x y : Int) : Int := if y < x then y else x
abbrev iMax (x y : Int) : Int := if y > x then y else x
def clone? {α : Type} (by_ : Nat) (l : List α) : Option (List α) := if l.length * by_ ≤ room then some l else none
theorem clone_some {α : Type} {by_ : Nat} {l r : List α} (h : clone? by_ l = some r) : l.length * by_ ≤ room ∧ r = l := by
 unfold clone? at h
 split at h
 ·cases h; exact ⟨by assumption, rfl⟩
 ·cases h
def gcd? (a b : Int) : Option Int := if (0 ≤ a ∧ a ≤ 18446744073709551615) ∧ 0 ≤ b ∧ b ≤ 18446744073709551615 then some (Int.gcd a b) else none
def Jx.elim {A R B : Type} (j : Jx A R) (g : R → Option B) (f : A → Option B) : Option B := match j with | .go a => f a | .ret r => g r
theorem jgo {A R B : Type} {a : A} {g : R → Option B} {f : A → Option B} {b : B} (h : (Jx.go a : Jx A R).elim g f = some b) : f a = some b := h
theorem jret {A R B : Type} {r : R} {g : R → Option B} {f : A → Option B} {b : B} (h : (Jx.ret r : Jx A R).elim g f = some b) : g r = some b := h
theorem or_T {c t : Bool} (h : c = true) : PV.v (.bool true) = .v (.bool (c || t)) := by rw [h]; rfl
theorem or_F {c t : Bool} (h : c = false) : PV.v (.bool t) = .v (.bool (c || t)) := by rw [h]; rfl
theorem Z1U {c t : Bool} (h : c = true) : PV.v (.bool t) = .v (.bool (c && t)) := by rw [h]; rfl
theorem Z1Q {c t : Bool} (h : c = false) : PV.v (.bool false) = .v (.bool (c && t)) := by rw [h]; rfl
section
variable {X : Ctx} {n : Nat} {dr : Bool} {fn : FuncId} {ops : Array Oper} {base i : Nat} {l : List Oper} {e : Env} {σ : Heap} {K : Env → Heap → Prop} {Q : Ex → Env → Heap → Prop} {c a b : Code}
variable {d : Nat} {t t1 t2 : TypeId} {p : String} {af : Array Edge} {x y z : Operand} {v : PV} {lo hi : Nat} {L : List Res}
theorem Ops.Z0A {α : Type} {c : α → List FV} {xs : List α} {el : TypeId} (hx : Z1 X e x = some (.v (.sl (xs.map c)))) (ht : tslice X.P t1 = some el) (hd : Nat.blt d n = true)
  (hk' : Ops X n dr ops base (i + 1) l (set e d (.v (.int .i64 xs.length))) σ K) : Ops X n dr ops base i (⟨some d, .call { callee := .builtin .len, args := #[x], argTypes := #[t1] }, t, p, af, none⟩ :: l) e σ K := by
 refine Ops.lenP (af2 := #[]) hx ht hd ?_
 rw [List.length_map]; exact hk'
theorem Ops.lenSt {α : Type} {c : α → List FV} {xs : List α} {el et : TypeId} {sz : Nat} {lv : Bool} (H : Has σ lo hi L) (k : Nat) (hk : L[k]? = some (.sl v et sz (xs.map c) lv)) (hx : Z1 X e x = some v) (ht : tslice X.P t1 = some el)
  (ha : dr = true → ∀ id, v.owner = some id → Seen ops base i id false) (hd : Nat.blt d n = true)
  (hk' : Ops X n dr ops base (i + 1) l (set e d (.v (.int .i64 xs.length))) σ K) : Ops X n dr ops base i (⟨some d, .call { callee := .builtin .len, args := #[x], argTypes := #[t1] }, t, p, af, none⟩ :: l) e σ K := by
 refine Ops.lenS H k hk hx ht ha hd ?_
 rw [List.length_map]; exact hk'
theorem Z70 {v : PV} {id : Nat} (h : id ∈ vids v) (hv : ∀ i v' o, v ≠ .ptr i v' o) : v.owner = some id := by
 cases v <;> simp [vids] at h
 ·exact h ▸ rfl
 ·exact absurd rfl (hv _ _ _)
theorem Z9F {sz : Nat} {w : PV} {ys : List (List FV)} (H : Has σ lo hi L) (h : Bring L sz w ys) : ∀ i v' o, w ≠ .ptr i v' o := by
 intro i v' o e
 subst e
 cases h with
 | s k h => obtain ⟨_, ⟨h, _⟩ | ⟨_, h, _⟩⟩ := H.sl h <;> cases h
theorem Ops.Z2O {α : Type} {c : α → List FV} {xs ys r : List α} {el : TypeId} {sz by_ : Nat} {w : PV} {zs : List PV} (H : Has σ lo hi L) (hlo : lo ≤ base + i) (hhi : base + i < hi) (k : Nat) (hk : L[k]? = some (.sl v el sz (xs.map c) true))
  (hx : Z1 X e x = some v) (hy : Z1 X e y = some w) (hb : Bring L sz w (ys.map c)) (hr : app? by_ xs ys = some r) (ht : tslice X.P t1 = some el) (hs : tsize X.P el = some sz) (hby : tbytes X.P el = some by_) (hz : tzero X.P el = some zs)
  (hc : (sz != 0 && by_ != 0 && zs.length == sz) = true)
  (ha : dr = true → (∀ id, v.owner = some id → Seen ops base i id true) ∧ (∀ id, w.owner = some id → Seen ops base i id true)) (hd : Nat.blt d n = true)
  (hk' : ∀ v' σ', Has σ' (base + i + 1) hi (L.set k (.sl v' el sz (r.map c) true)) → Ops X n dr ops base (i + 1) l (set e d v') σ' K) :
  Ops X n dr ops base i (⟨some d, .call { callee := .builtin .append, args := #[x, y], argTypes := #[t1, t1] }, t, p, af, none⟩ :: l) e σ K := by
 unfold app? at hr
 split at hr
 ·rename_i hroom;cases hr;refine Ops.appendS H hlo hhi k hk hx hy hb ht hs hby hz hc (by simpa using hroom) (fun h id hid => ?_) hd ?_
  ·rcases List.mem_append.1 hid with hid | hid
   ·refine (ha h).1 id (Z70 hid ?_);intro i v' o e;subst e;obtain ⟨_, ⟨h, _⟩ | ⟨_, h, _⟩⟩ := H.sl hk <;> cases h
   ·exact (ha h).2 id (Z70 hid (Z9F H hb))
  ·rw [List.map_append] at hk';exact hk'
 ·cases hr
def cpy {α : Type} (xs ys : List α) : List α := ys.take (min ys.length xs.length) ++ xs.drop (min ys.length xs.length)
theorem Ops.storeSt {α : Type} {c : α → List FV} {xs : List α} {u u' : α} {id : Nat} {et : TypeId} {sz j m off ver : Nat} {zs : List FV} {iv : Int} {w : PV} (H : Has σ lo hi L) (k : Nat) (hk : L[k]? = some (.sl v et sz (xs.map c) true)) (hv : v = .buf id (xs.map c).length sz) (hver : ver = (xs.map c).length * sz)
  (hu : at? xs iv = some u) (hx : Z1 X e x = some (.ptr id ver off)) (hoff : off = iv.toNat * sz + j) (hy : Z1 X e y = some w) (hw : w.cells = some (vs zs)) (hm : tsize X.P t1 = some m) (hz : zs.length = m) (hj : Nat.ble (j + m) sz = true)
  (hu' : (c u).take j ++ zs ++ (c u).drop (j + zs.length) = c u') (ha : dr = true → Seen ops base i id true)
  (hk' : ∀ σ', Has σ' lo hi (L.set k (.sl v et sz ((xs.set iv.toNat u').map c) true)) → Ops X n dr ops base (i + 1) l e σ' K) : Ops X n dr ops base i (⟨none, .store t1 x y, t, p, af, none⟩ :: l) e σ K := by
 refine Ops.storeS H k hk hv hver (at?_map hu) hx hoff hy hw hm hz hj hu' ha ?_
 rw [List.map_set] at hk'
 exact hk'
theorem Ops.binA {op : BinOp} {u w : PV} {r : FV} (hx : Z1 X e x = some u) (hy : Z1 X e y = some w) (hr : binD X.P σ op t1 u w = some r) (ha : dr = true → Zx X ops base i ⟨some d, .binOp op t1 x y t2, t, p, af, none⟩ e = true) (hd : Nat.blt d n = true)
  (hk : Ops X n dr ops base (i + 1) l (set e d (.v r)) σ K) : Ops X n dr ops base i (⟨some d, .binOp op t1 x y t2, t, p, af, none⟩ :: l) e σ K :=
 .plain (x := .v r) (σ1 := σ) (by simp only [ZD, hx, hy, hr, Option.map_some]) ha hd hk
theorem ask_eqA {op : BinOp} {us ws : List PV} {o : Oper} (hx : Z1 X e x = some (.agg us)) (hy : Z1 X e y = some (.agg ws)) (hop : Z05 (.binOp op t1 x y t2) = .read) (ho : o.op = .binOp op t1 x y t2) : Zx X ops base i o e = true :=
 Z3O (by rw [ho]; exact hop) (by rw [ho]; simp only [touched, Zi, List.flatMap_cons, List.flatMap_nil, hx, hy, vids, List.append_nil])
theorem Ops.Z0T {parts : Array (Nat × Operand)} {cs : List PV} (hb : buildD X e t1 parts.toList = some (.agg cs)) (hd : Nat.blt d n = true) (hk : Ops X n dr ops base (i + 1) l (set e d (.agg cs)) σ K) : Ops X n dr ops base i (⟨some d, .build t1 parts, t, p, af, none⟩ :: l) e σ K :=
 .plain (x := .agg cs) (σ1 := σ) (by simp only [ZD, hb, Option.map_some]) (fun _ => Z0t rfl) hd hk
theorem Ops.Z8F {f : FuncId} {first caps : Array Operand} {fs cs : List PV} (hf : Zl X e first.toList = some fs) (hc : Zl X e caps.toList = some cs) (hn : (fs.isEmpty && cs.isEmpty) = false) (hd : Nat.blt d n = true)
  (hk : Ops X n dr ops base (i + 1) l (set e d (.clo f fs cs)) σ K) : Ops X n dr ops base i (⟨some d, .makeFunc (.func f) first caps, t, p, af, none⟩ :: l) e σ K := by
 refine .plain (x := .clo f fs cs) (σ1 := σ) ?_ (fun _ => Z0t rfl) hd hk
 simp only [ZD, hf, hc]
 cases fs <;> cases cs <;> first | rfl | cases hn
theorem Ops.min2 {k : IntKind} {u w : Int} {ts : Array TypeId} (hx : Z1 X e x = some (.v (.int k u))) (hy : Z1 X e y = some (.v (.int k w))) (hd : Nat.blt d n = true) (hk : Ops X n dr ops base (i + 1) l (set e d (.v (.int k (iMin u w)))) σ K) :
  Ops X n dr ops base i (⟨some d, .call { callee := .builtin .min, args := #[x, y], argTypes := ts }, t, p, af, none⟩ :: l) e σ K :=
 .plain (x := .v (.int k (iMin u w))) (σ1 := σ) (by simp only [ZD, Z07, Zl, hx, hy, Option.bind_some, Z0P, Z3D, if_true, Option.map_some]) (fun _ => Z0t rfl) hd hk
theorem Ops.max2 {k : IntKind} {u w : Int} {ts : Array TypeId} (hx : Z1 X e x = some (.v (.int k u))) (hy : Z1 X e y = some (.v (.int k w))) (hd : Nat.blt d n = true) (hk : Ops X n dr ops base (i + 1) l (set e d (.v (.int k (iMax u w)))) σ K) :
  Ops X n dr ops base i (⟨some d, .call { callee := .builtin .max, args := #[x, y], argTypes := ts }, t, p, af, none⟩ :: l) e σ K :=
 .plain (x := .v (.int k (iMax u w))) (σ1 := σ) (by simp only [ZD, Z07, Zl, hx, hy, Option.bind_some, Z0P, Z3D, if_true, Option.map_some]) (fun _ => Z0t rfl) hd hk
theorem cut?_some {α : Type} {xs r : List α} {i j : Int} (h : cut? xs i j = some r) : 0 ≤ i ∧ i ≤ j ∧ j ≤ xs.length ∧ r = (xs.take j.toNat).drop i.toNat := by
 unfold cut? at h
 split at h
 ·rename_i h1; cases h; exact ⟨h1.1, h1.2.1, h1.2.2, rfl⟩
 ·cases h
theorem sliceP_ok {α : Type} {c : α → List FV} {xs r : List α} {i0 j0 : Int} {P : Program} {el : TypeId} {m : Nat} {lo hi : Option PV} (h : cut? xs i0 j0 = some r) (ht : tslice P t1 = some el) (hs : tsize P el = some m) (hm : ∀ u, (c u).length = m)
  (hlo : (match lo with | none => some 0 | some v => Z4m v) = some i0.toNat) (hhi : (match hi with | none => some xs.length | some v => Z4m v) = some j0.toNat) : Z8b P t1 (.v (.sl (xs.map c))) lo hi none = some (.v (.sl (r.map c))) := by
 obtain ⟨h1, h2, h3, rfl⟩ := cut?_some h
 have hc : i0.toNat ≤ j0.toNat ∧ j0.toNat ≤ xs.length ∧ Z6Z (xs.map c) i0.toNat m = true := by
  refine ⟨by omega, by omega, ?_⟩
  simp only [Z6Z, List.getElem?_map];cases xs[i0.toNat]? with
  | none => rfl
  | some u => simp [hm]
 have hc' : xs.length = j0.toNat → i0.toNat ≤ j0.toNat ∧ j0.toNat ≤ j0.toNat ∧ Z6Z (xs.map c) i0.toNat m = true := fun _ => ⟨hc.1, Nat.le_refl _, hc.2.2⟩
 cases lo <;> cases hi <;> simp only [Option.some.injEq] at hlo hhi <;> simp only [Z8b, ht, Option.bind_some, hs, List.length_map, hlo, hhi, List.map_drop, List.map_take] <;> first | rw [if_pos hc] | rw [if_pos (hc' hhi)]
theorem asNat_int {k : IntKind} {m : Int} (h : 0 ≤ m) : Z4m (.v (.int k m)) = some m.toNat := by simp [Z4m, h]
theorem Ops.sliceP10 {α : Type} {c : α → List FV} {xs r : List α} {el : TypeId} {m : Nat} {k : IntKind} {i0 : Int} (h : cut? xs i0 xs.length = some r) (hx : Z1 X e x = some (.v (.sl (xs.map c)))) (hl : Z1 X e y = some (.v (.int k i0))) (ht : tslice X.P t1 = some el) (hs : tsize X.P el = some m) (hm : ∀ u, (c u).length = m) (hd : Nat.blt d n = true)
  (hk : Ops X n dr ops base (i + 1) l (set e d (.v (.sl (r.map c)))) σ K) : Ops X n dr ops base i (⟨some d, .slice t1 x (some y) none none, t, p, af, none⟩ :: l) e σ K := by
 refine .plain (x := .v (.sl (r.map c))) (σ1 := σ) ?_ (fun _ => ?_) hd hk
 ·simp only [ZD, hx, hl, optD, Option.map_some, sliceP_ok h ht hs hm (lo := some (.v (.int k i0))) (hi := none) (asNat_int (cut?_some h).1) (by simp)]
 ·exact ask0 (by simp only [Zn, Z05, hx])
theorem Ops.sliceP01 {α : Type} {c : α → List FV} {xs r : List α} {el : TypeId} {m : Nat} {k : IntKind} {j0 : Int} (h : cut? xs 0 j0 = some r) (hx : Z1 X e x = some (.v (.sl (xs.map c)))) (hl : Z1 X e y = some (.v (.int k j0))) (ht : tslice X.P t1 = some el) (hs : tsize X.P el = some m) (hm : ∀ u, (c u).length = m) (hd : Nat.blt d n = true)
  (hk : Ops X n dr ops base (i + 1) l (set e d (.v (.sl (r.map c)))) σ K) : Ops X n dr ops base i (⟨some d, .slice t1 x none (some y) none, t, p, af, none⟩ :: l) e σ K := by
 refine .plain (x := .v (.sl (r.map c))) (σ1 := σ) ?_ (fun _ => ?_) hd hk
 ·have h' := cut?_some h
  simp only [ZD, hx, hl, optD, Option.map_some, sliceP_ok h ht hs hm (lo := none) (hi := some (.v (.int k j0))) rfl (asNat_int (by omega))]
 ·exact ask0 (by simp only [Zn, Z05, hx])
end
inductive Sub : List Res → List Res → Prop
 | nil {L : List Res} : Sub [] L
 | cons {c : Res} {C L : List Res} (k : Nat) (h : L[k]? = some c) (t : Sub C L) : Sub (c :: C) L
theorem Sub.push {C L : List Res} {r : Res} (h : Sub C L) : Sub C (r :: L) := by
 induction h with
 | nil => exact .nil
 | cons k h t ih => exact .cons (k + 1) h ih
theorem Sub.inv {c : Res} {C L : List Res} (h : Sub (c :: C) L) : ∃ k : Nat, L[k]? = some c ∧ Sub C L := by
 cases h with
 | cons k h t => exact ⟨k, h, t⟩
noncomputable def callV (X : Ctx) (cv : PV) (args : List PV) (σ : Heap) : Option (PV × Heap) :=
 match cv with
 | .v (.fn f) => Z0R X (.fn f) args σ
 | .clo f first caps => Z0R X (.fn f) (first ++ args ++ caps) σ
 | _ => none
def FnH (X : Ctx) (f : FuncId) (args : List PV) (r : PV) (C : List Res) : Prop :=
 ∀ σ lo hi L, Sub C L → Has σ lo hi L → ∃ σ', Z0R X (.fn f) args σ = some (r, σ') ∧ Has σ' lo hi L
def CloH (X : Ctx) (cv : PV) (args : List PV) (r : PV) (C : List Res) : Prop :=
 ∀ σ lo hi L, Sub C L → Has σ lo hi L → ∃ σ', callV X cv args σ = some (r, σ') ∧ Has σ' lo hi L
section
variable {X : Ctx} {f : FuncId} {args : List PV} {r : PV} {C : List Res}
theorem Fn.toH (h : Fn X f args r) (C : List Res) : FnH X f args r C := fun σ lo hi L _ H => ⟨σ, h.call σ, H⟩
theorem CloH.fn (h : FnH X f args r C) : CloH X (.v (.fn f)) args r C := h
theorem CloH.clo {first caps : List PV} (h : FnH X f (first ++ args ++ caps) r C) : CloH X (.clo f first caps) args r C := h
theorem CloH.weak {cv : PV} (h : CloH X cv args r []) : CloH X cv args r C := fun σ lo hi L _ H => h σ lo hi L .nil H
theorem all_nil {α : Type} {p : α → Bool} : ([] : List α).all p = true := rfl
theorem Z54 {α : Type} {p : α → Bool} {x : α} {l : List α} (h : p x = true) (t : l.all p = true) : (x :: l).all p = true := by rw [List.all_cons, h, t]; rfl
theorem Z4j {α : Type} {p : α → Bool} {x : α} {l : List α} (h : l.all p = true) (i : Nat) (hx : l[i]? = some x) : p x = true := List.all_eq_true.1 h x (List.mem_of_getElem? hx)
def PV.still : PV → Bool
 | .ptr _ _ _ => true
 | .clo _ _ _ => true
 | .yld _ => true
 | x => x.pure
theorem expArg_still {σ : Heap} {x : PV} (h : x.still = true) : Z3Y σ x = some (x, σ) := by
 cases x <;> first | rfl | exact Z69 h
theorem Z4t {σ : Heap} : ∀ {xs : List PV}, xs.all PV.still = true → Z0m σ xs = some (xs, σ)
 | [], _ => rfl
 | x :: xs, h => by
  simp only [List.all_cons, Bool.and_eq_true] at h;simp only [Z0m, expArg_still h.1, Option.bind_some, Z4t h.2]
theorem FnH.of {fu : Func} {c : Code} {m : Nat} (hf : X.P.funcs[f]? = some fu) (hb : fu.body = some c) (hi : X.intr f args = none) (hk : X.keep f = false) (ho : X.opn f = false) (hs : args.all PV.still = true) (hm : max fu.ntmps args.length = m)
  (hp : args.all PV.pure = true → C = [])
  (h : ∀ σ L, Sub C L → Hs σ L → Runs X m f c (Z5h args) σ (EndsH X fu.results.toList r L)) : FnH X f args r C := by
 subst hm
 intro σ lo hi' L hC H
 by_cases hpu : args.all PV.pure = true
 ·have hC0 := hp hpu
  subst hC0;obtain ⟨lf, x, e', σ1, h1, hE⟩ := (h Heap.empty [] .nil (Has.nil (Nat.le_refl _))).run
  obtain ⟨hx, xs, σ2, _, _, h2, h3, _⟩ := hE.out
  refine ⟨σ, Z2Q (lf := lf) ?_, H⟩
  have hbody : Z1N X (Z0R X) lf f args Heap.empty = some (Z1j xs, σ1) := by
   simp only [Z1N, hf, hb, h1]
   rcases hx with rfl | rfl <;> simp only [h2, Option.map_some]
  simp only [Z4G, hi, hk, Bool.false_eq_true, if_false, Z2g hpu, ho, hpu, if_true, hbody, Option.bind_some, h3, Option.map_some]
 ·obtain ⟨lf, x, e', σ1, h1, hE⟩ := (h σ (.floor hi' :: L) hC.push (H.all.floor hi' H.le)).run
  obtain ⟨hx, xs, σ2, lo2, hi2, h2, h3, H2⟩ := hE.out
  refine ⟨σ2, Z2Q (lf := lf) ?_, ?_⟩
  ·have hbody : Z1N X (Z0R X) lf f args σ = some (Z1j xs, σ1) := by
    simp only [Z1N, hf, hb, h1]
    rcases hx with rfl | rfl <;> simp only [h2, Option.map_some]
   simp only [Z4G, hi, hk, Bool.false_eq_true, if_false, Z4t hs, ho, if_neg hpu, hbody, Option.bind_some, h3]
  ·have hfl : hi' ≤ σ2.nx := H2.holds 0 _ rfl
   have H3 := H2.erase 0
   exact ⟨H3.holds, fun k r hk id ho => ⟨(H.lt k r hk id ho).1, (H3.lt k r hk id ho).2⟩, H.sep, hfl⟩
end
section
variable {X : Ctx} {n : Nat} {dr : Bool} {fn : FuncId} {ops : Array Oper} {base i : Nat} {l : List Oper} {e : Env} {σ : Heap} {K : Env → Heap → Prop}
variable {d : Nat} {t : TypeId} {p : String} {af : Array Edge} {x : Operand} {lo hi : Nat} {L C : List Res}
theorem Ops.callH {f : FuncId} {args : Array Operand} {ts : Array TypeId} {ys : List PV} {r : PV} (H : Has σ lo hi L) (ha : Zl X e args.toList = some ys) (hf : FnH X f ys r C) (hs : Sub C L)
  (hdr : dr = true → (ys.all PV.pure && !X.opn f && !X.keep f) = true ∨ Z39 (Region.before ops) ops i = true) (hd : Nat.blt d n = true)
  (hk : ∀ σ', Has σ' lo hi L → Ops X n dr ops base (i + 1) l (set e d r) σ' K) :
  Ops X n dr ops base i (⟨some d, .call { callee := .value (.func f), args := args, argTypes := ts }, t, p, af, none⟩ :: l) e σ K := by
 obtain ⟨σ', q1, q2⟩ := hf σ lo hi L hs H
 refine .plain (x := r) (σ1 := σ') (by simp only [ZD, Z07, ha, Z1, q1]) (fun h => ?_) hd (hk σ' q2)
 rcases hdr h with this | this
 case inr => exact Z6R this
 simp only [Bool.and_eq_true, Bool.not_eq_true'] at this
 exact ask0 (by simp only [Zn, Z05, ha, Z5L, Z1, pure_calm this.1.1, this.1.2, this.2, Bool.not_false, Bool.and_self])
theorem Ops.callV {cv : PV} {args : Array Operand} {ts : Array TypeId} {ys : List PV} {r : PV} (H : Has σ lo hi L) (hx : Z1 X e x = some cv) (ha : Zl X e args.toList = some ys) (hf : CloH X cv ys r C) (hs : Sub C L)
  (hdr : dr = true → Z39 (Region.before ops) ops i = true) (hd : Nat.blt d n = true)
  (hk : ∀ σ', Has σ' lo hi L → Ops X n dr ops base (i + 1) l (set e d r) σ' K) :
  Ops X n dr ops base i (⟨some d, .call { callee := .value x, args := args, argTypes := ts }, t, p, af, none⟩ :: l) e σ K := by
 obtain ⟨σ', q1, q2⟩ := hf σ lo hi L hs H
 refine .plain (x := r) (σ1 := σ') ?_ (fun h => Z6R (hdr h)) hd (hk σ' q2)
 simp only [ZD, Z07, ha, hx]
 unfold Dn.callV at q1
 split at q1
 ·exact q1
 ·exact q1
 ·cases q1
end
end Go.Dn

namespace Go.Dn
open Go Go.ChangeShapes
def consec (P : Program) : Nat → List Field → Option Nat
 | o, [] => some o
 | o, f :: fs => if f.offset = o then consec P (o + P.cellsOf f.type) fs else none
def supp (P : Program) : Nat → TypeId → Bool
 | 0, _ => false
 | d + 1, t =>
  match P.underlying t with
  | some .bool => P.cellsOf t == 1
  | some (.int _) => P.cellsOf t == 1
  | some .string => P.cellsOf t == 1
  | some (.slice e) => P.cellsOf t == 1 && P.cellsOf e != 0 && supp P d e
  | some (.struct fs) => fs.toList.all (fun f => supp P d f.type) && (consec P 0 fs.toList == some (P.cellsOf t))
  | _ => false
def OKC (P : Program) : Nat → TypeId → List FV → Prop
 | 0, _, _ => False
 | d + 1, t, ys =>
  match P.underlying t with
  | some .bool => ∃ b, ys = [.bool b]
  | some (.int k) => ∃ m, ys = [.int k m] ∧ (Lit.int k m).wf = true
  | some .string => ∃ s, ys = [.str s] ∧ s.size ≤ maxLen
  | some (.slice e) => ∃ xs, ys = [.sl xs] ∧ xs.length * P.bytesOf e ≤ reachBytes ∧ ∀ x ∈ xs, OKC P d e x
  | some (.struct fs) => ys.length = P.cellsOf t ∧ ∀ f ∈ fs.toList, OKC P d f.type ((ys.drop f.offset).take (P.cellsOf f.type))
  | _ => False
section
variable {H : Type} {enc : TypeId × Value → H} {P : Program} {w : World} {base : Nat} {spare : Nat → Bool} {held : Bool} {Im : Nat → Prop}
def Cov (w : World) (Im : Nat → Prop) (ys : List FV) (cs : List Value) : Prop := ys.length = cs.length ∧ ∀ (i : Nat) (y : FV) (v : Value), ys[i]? = some y → cs[i]? = some v → FVR w Im y v
theorem Cov.one {y : FV} {v : Value} (h : FVR w Im y v) : Cov w Im [y] [v] := ⟨rfl, fun i y' v' hy hv => by
 cases i with
 | zero => cases hy; cases hv; exact h
 | succ i => simp at hy⟩
theorem consec_le : ∀ {fs : List Field} {o m : Nat}, consec P o fs = some m → o ≤ m
 | [], o, m, h => by simp [consec] at h; omega
 | f :: fs, o, m, h => by
  simp only [consec] at h
  split at h
  ·have := consec_le h; omega
  ·cases h
theorem fields_ok {d n : Nat} {cs : List Value} (ih : ∀ (t : TypeId) (cs : List Value) (x : DataW H × List MemPlace), supp P d t = true → DataW.trod enc P w base spare held n t cs = some x → (∀ p ∈ x.2, Im p.block) → (∀ n ∈ x.1.weights P t, n ≤ reachBytes) → ∃ ys, Cov w Im ys cs ∧ OKC P d t ys) :
  ∀ (fs : List Field) (o m : Nat), consec P o fs = some m → m ≤ cs.length → (∀ f ∈ fs, supp P d f.type = true) →
   (∀ f ∈ fs, ∃ x, DataW.trod enc P w base spare held n f.type ((cs.drop f.offset).take (P.cellsOf f.type)) = some x ∧ (∀ p ∈ x.2, Im p.block) ∧ ∀ n ∈ x.1.weights P f.type, n ≤ reachBytes) →
   ∃ ys, Cov w Im ys ((cs.drop o).take (m - o)) ∧ ∀ f ∈ fs, o ≤ f.offset ∧ OKC P d f.type ((ys.drop (f.offset - o)).take (P.cellsOf f.type))
 | [], o, m, hc, hm, _, _ => by
  simp [consec] at hc;subst hc;exact ⟨[], ⟨by simp, by simp⟩, by simp⟩
 | f :: fs, o, m, hc, hm, hs, hx => by
  simp only [consec] at hc
  split at hc
  ·rename_i ho;subst ho;obtain ⟨x, hx1, hx2, hx3⟩ := hx f List.mem_cons_self
   obtain ⟨ys, ⟨hl, hv⟩, hok⟩ := ih f.type _ x (hs f List.mem_cons_self) hx1 hx2 hx3
   have hle := consec_le hc
   obtain ⟨zs, ⟨hl2, hv2⟩, hok2⟩ := fields_ok ih fs _ m hc hm (fun g hg => hs g (List.mem_cons_of_mem _ hg)) (fun g hg => hx g (List.mem_cons_of_mem _ hg))
   simp only [List.length_take, List.length_drop] at hl hl2;have hy : ys.length = P.cellsOf f.type := by omega
   refine ⟨ys ++ zs, ⟨by simp only [List.length_append, List.length_take, List.length_drop]; omega, fun i y v h1 h2 => ?_⟩, fun g hg => ?_⟩
   ·by_cases hi : i < ys.length
    ·rw [List.getElem?_append_left hi] at h1;refine hv i y v h1 ?_;rw [List.getElem?_take] at h2 ⊢;rw [if_pos (by omega)] at h2 ⊢
     exact h2
    ·rw [List.getElem?_append_right (by omega)] at h1
     have hi2 : i - ys.length < zs.length := by
      rcases Nat.lt_or_ge (i - ys.length) zs.length with h | h
      ·exact h
      ·rw [List.getElem?_eq_none h] at h1; cases h1
     refine hv2 (i - ys.length) y v h1 ?_;rw [List.getElem?_take, List.getElem?_drop] at h2 ⊢;rw [if_pos (by omega)] at h2 ⊢
     rw [← h2]
     congr 1; omega
   ·rcases List.mem_cons.1 hg with rfl | hg
    ·refine ⟨Nat.le_refl _, ?_⟩;rw [Nat.sub_self, List.drop_zero, List.take_append_of_le_length (by omega), List.take_of_length_le (by omega)]
     exact hok
    ·obtain ⟨h1, h2⟩ := hok2 g hg
     refine ⟨by omega, ?_⟩
     have : (ys ++ zs).drop (g.offset - f.offset) = zs.drop (g.offset - (f.offset + P.cellsOf f.type)) := by
      rw [List.drop_append, List.drop_eq_nil_of_le (by omega), List.nil_append]
      congr 1; omega
     rw [this];exact h2
  ·cases hc
theorem Z8z {e : TypeId} : ∀ {ds : List (DataW H)} {d : DataW H}, d ∈ ds → ∀ n ∈ d.weights P e, n ∈ DataW.weightsAll P e ds
 | d0 :: ds, d, h, n, hn => by
  simp only [DataW.weightsAll, List.mem_append]
  rcases List.mem_cons.1 h with rfl | h
  ·exact .inl hn
  ·exact .inr (Z8z h n hn)
def Sized (P : Program) (t : TypeId) (d : DataW H) : Prop := ∀ n ∈ d.weights P t, n ≤ reachBytes
theorem OKC.length : ∀ {d : Nat} {t : TypeId} {ys : List FV}, supp P d t = true → OKC P d t ys → ys.length = P.cellsOf t
 | 0, t, ys, h, _ => by simp [supp] at h
 | d + 1, t, ys, h, ho => by
  unfold supp at h;unfold OKC at ho
  split at h
  all_goals (rename_i hu; simp only [hu] at ho)
  ·obtain ⟨b, rfl⟩ := ho; simp at h; simp [h]
  ·obtain ⟨b, rfl, _⟩ := ho; simp at h; simp [h]
  ·obtain ⟨b, rfl, _⟩ := ho; simp at h; simp [h]
  ·obtain ⟨b, rfl, _⟩ := ho; simp at h; simp [h]
  ·exact ho.1
theorem Z6U : ∀ (d n : Nat) (t : TypeId) (cs : List Value) (x : DataW H × List MemPlace), supp P d t = true → DataW.trod enc P w base spare held n t cs = some x → (∀ p ∈ x.2, Im p.block) → (∀ n ∈ x.1.weights P t, n ≤ reachBytes) → ∃ ys, Cov w Im ys cs ∧ OKC P d t ys
 | 0, n, t, cs, x, hs, h, hp, hw => by simp [supp] at hs
 | d + 1, n, t, cs, x, hs, h, hp, hw => by
  unfold supp at hs
  split at hs
  ·rename_i hu;cases n with
   | zero => simp [DataW.trod] at h
   | succ n =>
    simp only [DataW.trod, hu] at h
    split at h <;> simp_all
    rename_i b;exact ⟨[.bool b], Cov.one (.bool b), by simp [OKC, hu]⟩
  ·rename_i k hu;cases n with
   | zero => simp [DataW.trod] at h
   | succ n =>
    simp only [DataW.trod, hu] at h
    split at h <;> try (simp_all; done)
    rename_i k2 m he1 ;simp only [Option.some.injEq, TypeDesc.int.injEq] at he1;subst he1
    split at h
    ·rename_i k' n' hk;obtain ⟨rfl, hwf⟩ := hk
     exact ⟨[.int _ _], Cov.one (.int _ _), by simp [OKC, hu, hwf]⟩
    ·cases h
  ·rename_i hu;cases n with
   | zero => simp [DataW.trod] at h
   | succ n =>
    simp only [DataW.trod, hu] at h
    split at h <;> try (simp_all; done)
    split at h
    ·rename_i s hk;exact ⟨[.str _], Cov.one (.str _), by simp [OKC, hu, hk]⟩
    ·cases h
  ·rename_i e hu;simp only [Bool.and_eq_true, beq_iff_eq, bne_iff_ne, ne_eq] at hs
   rcases DataW.trod_slice hu h with ⟨rfl, rfl⟩ | ⟨a, len, cap, elems, rest, m, rfl, rfl, rfl, hb, hl, hm, hlen, hel, hsp, hns⟩
   ·exact ⟨[.sl []], Cov.one .nil, by simp [OKC, hu]⟩
   ·by_cases h0 : len = 0
    ·subst h0;exact ⟨[.sl []], Cov.one (.empty a cap), by simp [OKC, hu]⟩
    ·have each : ∀ i, i < len → ∃ cs' ys, w.cells? base (a.add (i * P.cellsOf e)) (P.cellsOf e) = some cs' ∧ Cov w Im ys cs' ∧ OKC P d e ys := by
      intro i hi;have h1 := hel i hi
      obtain ⟨y, hy⟩ : ∃ y, elems[i]? = some y := ⟨_, List.getElem?_eq_getElem (by omega)⟩
      rw [hy, Option.bind_eq_some_iff] at h1;obtain ⟨cs', hcs, ht⟩ := h1
      obtain ⟨ys, h2, h3⟩ := Z6U d m e cs' y hs.2 ht (fun p hpm => hp p (by
       refine List.mem_append_right _ (List.mem_flatMap.2 ⟨y, List.mem_append_left _ (List.mem_of_getElem? hy), hpm⟩))) (fun n hn => hw n (by
       simp only [DataW.weights, hu, List.mem_cons, List.mem_append];exact .inr (.inl (Z8z (List.mem_map.2 ⟨y, List.mem_of_getElem? hy, rfl⟩) n hn))))
      exact ⟨cs', ys, hcs, h2, h3⟩
     let F : Nat → List FV := fun i => if hi : i < len then (each i hi).choose_spec.choose else []
     let C : Nat → List Value := fun i => if hi : i < len then (each i hi).choose else []
     have hF : ∀ i, i < len → w.cells? base (a.add (i * P.cellsOf e)) (P.cellsOf e) = some (C i) ∧ Cov w Im (F i) (C i) ∧ OKC P d e (F i) := by
      intro i hi;simp only [F, C, dif_pos hi];exact (each i hi).choose_spec.choose_spec
     have hFl : ∀ i, i < len → (F i).length = P.cellsOf e := fun i hi => OKC.length hs.2 (hF i hi).2.2
     have hxs : ∀ y ∈ (List.range len).map F, ∃ i, i < len ∧ y = F i := fun y hy => by
      obtain ⟨i, hi, rfl⟩ := List.mem_map.1 hy
      exact ⟨i, List.mem_range.1 hi, rfl⟩
     refine ⟨[.sl ((List.range len).map F)], Cov.one ?_, ?_⟩
     ·by_cases hz : P.cellsOf e = 0
      ·exact absurd hz hs.1.2
      ·have hsp0 : a.spot = none := by
        have h1 := (World.cells?_some (hF 0 (by omega)).1).2.2 0 (by omega)
        have hl0 := (World.cells?_some (hF 0 (by omega)).1).2.1
        simp only [Nat.zero_mul, Addr.add, if_true] at h1;unfold World.cell? at h1
        split at h1
        ·split at h1
         ·have : (C 0)[0]? = none := h1.symm
          rw [List.getElem?_eq_none_iff] at this;omega
         ·rename_i hq; simpa using hq
        ·have : (C 0)[0]? = none := h1.symm
         rw [List.getElem?_eq_none_iff] at this;omega
       obtain ⟨bl, off, spot⟩ := a
       simp only at hsp0;subst hsp0;have hcov := FVR.sl (w := w) (Imm := Im) ((List.range len).map F) bl off cap (P.cellsOf e) (fun i j => (C i).getD j Go.undef) ?_ (by simpa using hl) (fun y hy => by
        obtain ⟨i, hi, rfl⟩ := hxs y hy; exact hFl i hi) (fun i j hi hj => ?_) (fun i j y x h1 h2 => ?_)
       ·simpa using hcov
       ·refine hp (.cell bl (off + 0)) (List.mem_append_left _ ?_);simp only [MemPlace.row, List.mem_map, List.mem_range];refine ⟨0, ?_, rfl⟩;exact Nat.mul_pos (by omega) (by omega)
       ·simp only [List.length_map, List.length_range] at hi;have h1 := (World.cells?_some (hF i hi).1).2.2 j hj
        have hl0 := (World.cells?_some (hF i hi).1).2.1
        have e1 : (Addr.add (Addr.add ⟨bl, off, none⟩ (i * P.cellsOf e)) j) = ⟨bl, off + i * P.cellsOf e + j, none⟩ := by
         simp only [Z3n]
        rw [e1] at h1;rw [h1, List.getElem?_eq_getElem (by omega)]
        simp [List.getD, List.getElem?_eq_getElem (show j < (C i).length by omega)]
       ·rw [List.getElem?_map, Option.map_eq_some_iff] at h1;obtain ⟨i', hi', rfl⟩ := h1
        have hi2 := List.mem_range.1 (List.mem_of_getElem? hi')
        have : i' = i := by
         rw [List.getElem?_eq_some_iff] at hi';obtain ⟨q1, q2⟩ := hi'
         simpa using q2.symm
        subst this;have hj : j < (C i').length := by
         rw [← (hF i' hi2).2.1.1]; exact (List.getElem?_eq_some_iff.1 h2).1
        refine (hF i' hi2).2.1.2 j x _ h2 ?_;rw [List.getElem?_eq_getElem hj];simp [List.getD, List.getElem?_eq_getElem hj]
     ·simp only [OKC, hu];refine ⟨_, rfl, ?_, fun y hy => ?_⟩
      ·have h1 := hw ((elems.length + rest.length) * P.bytesOf e) (by simp [DataW.weights, hu])
       refine Nat.le_trans (Nat.mul_le_mul_right _ ?_) h1
       simp; omega
      obtain ⟨i, hi, rfl⟩ := hxs y hy
      exact (hF i hi).2.2
  ·rename_i fs hu;simp only [Bool.and_eq_true, beq_iff_eq, List.all_eq_true] at hs;obtain ⟨xs, m, rfl, rfl, hl, hx, hf⟩ := DataW.trod_struct hu h
   obtain ⟨ys, hc, ho⟩ := fields_ok (cs := cs) (fun t cs x h1 h2 h3 h4 => Z6U d m t cs x h1 h2 h3 h4) fs.toList 0 (P.cellsOf t) hs.2 (by omega) hs.1 (fun f hfm => by
    obtain ⟨i, hi⟩ := List.getElem?_of_mem hfm
    have hi' : fs[i]? = some f := by simpa using hi
    have h1 := hf i f hi'
    have hlt : i < xs.length := by
     have := (Array.getElem?_eq_some_iff.1 hi').1
     omega
    rw [List.getElem?_eq_getElem hlt] at h1;exact ⟨_, h1, fun p hpm => hp p (List.mem_flatMap.2 ⟨_, List.getElem_mem hlt, hpm⟩), fun n hn => hw n (by
     simp only [DataW.weights, hu];exact DataW.weights_mem_each (j := i) (t := f.type) (d := (xs[i]).1) (by simp [hi]) (by simp [hlt]) n hn)⟩)
   rw [List.drop_zero, Nat.sub_zero, List.take_of_length_le (by omega)] at hc
   refine ⟨ys, hc, ?_⟩;simp only [OKC, hu];exact ⟨hc.1.trans hl, fun f hfm => by simpa using (ho f hfm).2⟩
  ·cases hs
end
def okI (k : IntKind) (x : Int) : Prop := k.min ≤ x ∧ x ≤ k.max
def okB (_ : Bool) : Prop := True
def okS (x : ByteArray) : Prop := x.size ≤ maxLen
def okL {α : Type} (b : Nat) (p : α → Prop) (xs : List α) : Prop := xs.length * b ≤ reachBytes ∧ ∀ x ∈ xs, p x
def Dec (P : Program) {α : Type} (t : TypeId) (c : α → List FV) (ok : α → Prop) : Prop := ∀ d ys, OKC P d t ys → ∃ x, ys = c x ∧ ok x
section
variable {P : Program} {t e : TypeId}
theorem Dec.int {k : IntKind} (h : P.underlying t = some (.int k)) : Dec P t (cI k) (okI k) := fun d ys ho => by
 cases d with
 | zero => exact ho.elim
 | succ d =>
  simp only [OKC, h] at ho;obtain ⟨m, rfl, hw⟩ := ho
  exact ⟨m, rfl, by simpa [Lit.wf, okI] using hw⟩
theorem Dec.bool (h : P.underlying t = some .bool) : Dec P t cB okB := fun d ys ho => by
 cases d with
 | zero => exact ho.elim
 | succ d =>
  simp only [OKC, h] at ho;obtain ⟨m, rfl⟩ := ho
  exact ⟨m, rfl, trivial⟩
theorem Dec.str (h : P.underlying t = some .string) : Dec P t cS okS := fun d ys ho => by
 cases d with
 | zero => exact ho.elim
 | succ d =>
  simp only [OKC, h] at ho;obtain ⟨m, rfl, hw⟩ := ho
  exact ⟨m, rfl, hw⟩
theorem Dec.sl {α : Type} {c : α → List FV} {ok : α → Prop} {b : Nat} (h : P.underlying t = some (.slice e)) (hb : P.bytesOf e = b) (he : Dec P e c ok) : Dec P t (cL c) (okL b ok) := fun d ys ho => by
 cases d with
 | zero => exact ho.elim
 | succ d =>
  simp only [OKC, h] at ho;obtain ⟨xs, rfl, hl, hx⟩ := ho
  have : ∀ xs : List (List FV), (∀ x ∈ xs, OKC P d e x) → ∃ as_ : List α, xs = as_.map c ∧ ∀ a ∈ as_, ok a := by
   intro xs
   induction xs with
   | nil => intro _; exact ⟨[], rfl, by simp⟩
   | cons x xs ih =>
    intro hx;obtain ⟨a, rfl, ha⟩ := he d x (hx x List.mem_cons_self)
    obtain ⟨as_, rfl, has⟩ := ih fun y hy => hx y (List.mem_cons_of_mem _ hy)
    exact ⟨a :: as_, rfl, fun b hb => by
     rcases List.mem_cons.1 hb with rfl | hb
     ·exact ha
     ·exact has b hb⟩
  obtain ⟨as_, rfl, has⟩ := this xs hx
  exact ⟨as_, rfl, by subst hb; simpa using hl, has⟩
theorem fld (ys : List FV) (o s : Nat) : (ys.drop o).take s ++ ys.drop (o + s) = ys.drop o := by
 rw [← List.drop_drop]; exact List.take_append_drop s (ys.drop o)
theorem fld_nil {ys : List FV} {n : Nat} (h : ys.length = n) : ys.drop n = [] := List.drop_eq_nil_of_le (by omega)
end
theorem pvr_agg {P : Program} {t : TypeId} {W : World} {base : Nat} {v : Value} {s : St} {ys : List FV} {fs : Array Field} (hu : P.underlying t = some (.struct fs)) (hval : Value.okWide P W .any base t v) (hs : s.w = W) (hc : Cov W s.imm ys v.cells.toList) : PVR s (.agg (vs ys)) v := by
 unfold Value.okWide at hval
 rw [hu] at hval
 obtain ⟨cs, rfl, _, _⟩ := hval
 obtain ⟨hl, hc⟩ := hc
 subst hs
 simp only [Value.cells, Array.length_toList] at hl hc
 have each : ∀ (i : Nat) (u : Value), cs[i]? = some u → ∃ y, ys[i]? = some y ∧ FVR s.w s.imm y u := fun i u hu => by
  have hi := (Array.getElem?_eq_some_iff.1 hu).1
  exact ⟨ys[i], List.getElem?_eq_getElem (by omega), hc i _ u (List.getElem?_eq_getElem (by omega)) (by simpa using hu)⟩
 refine .agg (by rw [Z1D]; exact hl) (fun i x hx => ?_) (fun i u hu => (each i u hu).choose_spec.2.Z4d)
 rw [vs_get, Option.map_eq_some_iff] at hx
 obtain ⟨y, hy, rfl⟩ := hx
 have hi := (List.getElem?_eq_some_iff.1 hy).1
 refine .v (hc i y _ hy ?_)
 rw [Array.getElem?_toList, Array.getElem?_eq_getElem (by omega), Array.getD_eq_getD_getElem?, Array.getElem?_eq_getElem (by omega)]
 rfl
theorem pvr_one {P : Program} {t : TypeId} {W : World} {base : Nat} {v : Value} {s : St} {y : FV} (hu : (match P.underlying t with | some .bool | some (.int _) | some .string | some (.slice _) => true | _ => false) = true) (hval : Value.okWide P W .any base t v) (hs : s.w = W) (hc : Cov W s.imm [y] v.cells.toList) : PVR s (.v y) v := by
 subst hs
 have hv : v.cells.toList = [v] := by
  unfold Value.okWide Cell.okWide Cell.ok at hval
  split at hu
  all_goals (first | (rename_i h1; rw [h1] at hval) | skip)
  ·cases v <;> first | rfl | exact hval.elim
  ·cases v <;> first | rfl | exact hval.elim
  ·cases v <;> first | rfl | exact hval.elim
  ·cases v <;> first | rfl | exact hval.elim
  ·cases hu
 rw [hv] at hc
 exact .v (hc.2 0 y v rfl rfl)
end Go.Dn

namespace Go.Dn
open Go
def cloneA (t b : TypeId) : Code := .region 0 #[{ dst := some 2, op := .assign (.const (.slice none 0 0)), type := t, pos := "slices.go:355", after := #[], guard := none }] false
def Z3v (t b : TypeId) : Array Oper := #[{ dst := some 3, op := .move (.tmp 0), type := t, pos := "slices.go:357", after := #[], guard := none },
 { dst := some 4, op := .binOp .eql t (.tmp 3) (.const (.slice none 0 0)) t, type := b, pos := "slices.go:357", after := #[{ on := 0, ground := .data }], guard := none }]
def cloneC (t : TypeId) : Code := .cond (.tmp 4) ((Code.region 2 #[{ dst := some 2, op := .assign (.const (.slice none 0 0)), type := t, pos := "slices.go:358", after := #[], guard := none }] false).seq .ret) .skip
def cloneD (t : TypeId) : Code := (Code.region 3
 #[{ dst := some 5, op := .buildSlice t 0 #[], type := t, pos := "slices.go:362", after := #[], guard := none },
  { dst := some 6, op := .move (.tmp 0), type := t, pos := "slices.go:362", after := #[], guard := none },
  { dst := some 7, op := .call { callee := .builtin .append, args := #[.tmp 5, .tmp 6], argTypes := #[t, t] }, type := t, pos := "slices.go:362", after := #[{ on := 0, ground := .data }, { on := 1, ground := .data }], guard := none },
  { dst := some 2, op := .assign (.tmp 7), type := t, pos := "slices.go:362", after := #[{ on := 2, ground := .data }, { on := 2, ground := .chain }, { on := 0, ground := .phase }, { on := 1, ground := .phase }, { on := 2, ground := .phase }], guard := none }] false).seq .ret
def cloneBody (t b : TypeId) : Code := (cloneA t b).seq (((Code.region 1 (Z3v t b) false).seq (cloneC t)).seq (cloneD t))
structure CloneT (P : Program) (t el : TypeId) (sz by_ : Nat) (zs : List PV) : Prop where
 ht : tslice P t = some el
 hs : tsize P el = some sz
 hb : tbytes P el = some by_
 hz : tzero P el = some zs
 hc : (sz != 0 && by_ != 0 && zs.length == sz) = true
variable {X : Ctx} {fn : FuncId} {t b el : TypeId} {sz by_ : Nat} {zs : List PV}
theorem cloneD_runs (hT : CloneT X.P t el sz by_ zs) {xs : List (List FV)} (hl : xs.all (fun y => y.length == sz) = true) (hroom : xs.length * by_ ≤ room) {e : Env} {σ : Heap} (h0 : e 0 = .v (.sl xs)) :
  Runs X 8 fn (cloneD t) e σ fun x e' σ' => x = .ret ∧ ∃ (lo hi : Nat) (L : List Res) (k : Nat), Has σ' lo hi L ∧ L[k]? = some (.sl (e' 2) el sz xs true) := by
 have hc := hT.hc
 simp only [Bool.and_eq_true, beq_iff_eq, bne_iff_ne, ne_eq] at hc
 have H : Hs σ [] := Has.nil (Nat.le_refl _)
 obtain ⟨e0, rfl⟩ := (show Z5 e [(0, .v (.sl xs))] from ⟨h0, trivial⟩).ex
 show Runs X 8 fn (Code.seq _ _) _ _ _
 apply Runs.then
 refine Runs.Z0 4 rfl H ?_; intro b1 σ H
 refine Ops.Z2j (zs := zs) (sz := sz) (pp := []) [] H (by omega) (by omega) hT.ht rfl hT.hs hT.hz (by simp only [Bool.and_eq_true, beq_iff_eq, bne_iff_ne, ne_eq]; exact ⟨⟨hc.2, hc.1.1⟩, by simp⟩) rfl rfl rfl rfl ?_; intro σ H
 refine Ops.move (v := .v (.sl xs)) rfl rfl ?_
 refine Ops.appendS (v := .buf (b1 + 0) 0 sz) (w := .v (.sl xs)) (xs := []) (ys := xs) H (by omega) (by omega) 0 rfl rfl rfl (.p hl) hT.ht hT.hs hT.hb hT.hz hT.hc (by simpa using hroom) nofun rfl ?_; intro w σ H
 refine Ops.assign (v := w) rfl rfl ?_
 apply Ops.nil
 apply Runs.ret
 exact ⟨rfl, _, _, _, 0, H, rfl⟩
theorem cloneOps_wp {s : St} {e : Env} {a : Act} (hX : CtxOK X) (hG : Z0W X s) (hi : Inv s) (he : EnvR s 8 e a) (hT : CloneT X.P t el sz by_ zs) {xs : List (List FV)} (h0 : e 0 = .v (.sl xs)) {Q : Exit → Act → World → Prop}
  (hQ : ∀ (o : Option Addr) (a' : Act) (w' : World) (ι' : Nat → Nat), (o = none → xs = []) → Then s 8 a (putD 8 (putD 8 e (some 3) (.v (.sl xs))) (some 4) (.v (.bool o.isNone))) ⟨s.σ.nx + 2, s.σ.ent⟩ a' w' ι' → Q .normal a' w') :
  (Code.region 1 (Z3v t b) false).wp X.P Q a s.w := by
 refine (wpIn_wide (n := 0)).1 (wpIn_region ?_)
 have hi' := Z6P hi 2
 have he' := he.mono (Z2d (s := s) 2)
 have hG' := hG.mono (Z2d (s := s) 2)
 have st : Z0w X (Z0R X) 8 (Z3v t b) s.σ.nx 0 { dst := some 3, op := .move (.tmp 0), type := t, pos := "slices.go:357", after := #[], guard := none } e (s.more 2).σ = some (putD 8 e (some 3) (.v (.sl xs)), (s.more 2).σ) := by
  simp only [Z0w, Z0O, ZD, Z1, h0, Option.map_some, Option.bind_some]
 have first := stepO_ok (m := 0) (Q := Q) (rd := none) (s := s.more 2) (a := a) (callL_ok hX) hG' hi' he' (hi.nx _ (by omega)) (by simp only [St.more]; omega) st (K := wpOpsIn (Fw none) 0 X.P (Z3v t b) Q [1]) ?_
 ·have h0' : (Z3v t b)[0]? = some { dst := some 3, op := .move (.tmp 0), type := t, pos := "slices.go:357", after := #[], guard := none } := rfl
  have hr : List.range (Z3v t b).size = [0, 1] := rfl
  rw [hr];simp only [wpOpsIn, h0'];exact first
 ·intro a1 w1 ι1 ht;have hn := ht.env
  have hw : Region.wanted ⟨some 4, .binOp .eql t (.tmp 3) (.const (.slice none 0 0)) t, b, "slices.go:357", #[{ on := 0, ground := .data }], none⟩ (yielded (Z3v t b) a1.tmps) = true := rfl
  have h1' : (Z3v t b)[1]? = some ⟨some 4, .binOp .eql t (.tmp 3) (.const (.slice none 0 0)) t, b, "slices.go:357", #[{ on := 0, ground := .data }], none⟩ := rfl
  simp only [wpOpsIn, h1'];rw [if_pos hw];have hp : PVR ⟨w1, (s.more 2).Y, (s.more 2).σ, ι1⟩ (.v (.sl xs)) (a1.eval (.tmp 3)) := by
   refine ZC (X := X) (hG.mono ((Z2d (s := s) 2).trans ht.ev)) hn ?_
   simp [Z1, putD, upd]
  obtain ⟨o, cap, hv, hcap, hf⟩ := sl_inv hp
  have hs : ∀ o4 : Oper, o4 = ⟨some 4, .binOp .eql t (.tmp 3) (.const (.slice none 0 0)) t, b, "slices.go:357", #[{ on := 0, ground := .data }], none⟩ → o4.uponIn (Fw none) 0 X.P a1 (Z6Q ⟨w1, (s.more 2).Y, (s.more 2).σ, ι1⟩ a1 (some 4) (.v (.bool o.isNone)) (s.more 2).σ) Q ((o4.semAt (Fw none).round a1.eval).run X.P w1) := by
   intro o4 ho4;have hop : o4.op = .binOp .eql t (.tmp 3) (.const (.slice none 0 0)) t := by rw [ho4]
   have hd4 : o4.dst = some 4 := by rw [ho4]
   rw [Oper.semAt_eq _ _ _ (by intro c hc; rw [hop] at hc; cases hc)]
   simp only [execOp, hop];rw [← hd4];refine Z1p (s := ⟨w1, (s.more 2).Y, (s.more 2).σ, ι1⟩) ht.inv ?_
   rw [hv];have hg : (eqGuard .eql t (.tmp 3) (.const (.slice none 0 0)) (.slice o xs.length cap) (.slice none 0 0)).run X.P w1 = .ok () w1 := by simp [eqGuard]
   refine ⟨.bool o.isNone, ?_, .v (.bool _)⟩
   show (do eqGuard .eql t (.tmp 3) (.const (.slice none 0 0)) (.slice o xs.length cap) (.slice none 0 0); binOp .eql t (.slice o xs.length cap) (.slice none 0 0) : Sem Value).run X.P w1 = _
   simp only [Sem.run_bind, hg, Result.andThen_ok];exact (Z4R (eqNil 9999 (Z1I hT.ht) o xs.length cap w1) (.inr (.inr ⟨_, _, _, _, _, _, rfl, rfl⟩))).1
  refine Oper.wpIn_mono (K := Z6Q ⟨w1, (s.more 2).Y, (s.more 2).σ, ι1⟩ a1 (some 4) (.v (.bool o.isNone)) (s.more 2).σ) (fun a' w' hh => ?_) ⟨fun _ _ => trivial, hs _ rfl⟩
  obtain ⟨v, rfl, ι', h2, h3, h4⟩ := hh
  refine hQ o _ w' ι' (fun ho => ?_) ⟨h2, ((Z2d (s := s) 2).trans ht.ev).trans h3, (hn.mono h3).put h4, (Z7G _ _ _).trans ht.defers⟩
  subst ho;generalize hz : Value.slice none xs.length cap = z at hf;cases hf with
  | nil => rfl
  | empty => rfl
  | sl => cases hz
theorem clone_calls (hX : CtxOK X) {f : FuncId} {fu : Func} (hf : X.P.funcs[f]? = some fu) (hb : fu.body = some (cloneBody t b)) (hn : fu.ntmps = 8) (hr : fu.results = #[.tmp 2]) (hg : ∀ g, X.glob g = none)
  (hT : CloneT X.P t el sz by_ zs) {s : St} (hi : Inv s) {xs : List (List FV)} {v : Value} (hl : xs.all (fun y => y.length == sz) = true) (hroom : xs.length * by_ ≤ room) (hv : PVR s (.v (.sl xs)) v) :
  Calls X.P f #[v] s.w fun en w' => ∃ v', en = .returned v' ∧ Post s (.v (.sl xs)) s.σ v' w' := by
 have hv1 : PVRs s.under [.v (.sl xs)] #[v] := ⟨rfl, fun i x hx => by
  cases i with
  | zero => cases hx; exact Z8g rfl hv
  | succ i => simp at hx⟩
 have hiu := Z8M hi
 have he := env_of (s := s.under) (k := 8) hv1
 have hG : ∀ s, Z0W X s := fun s g cells h => by rw [hg] at h; cases h
 refine (callsIn_wide (n := 0)).1 (callsIn_of_wp_marks hf hb trivial ?_ rfl)
 rw [hn]
 refine wpIn_wide.2 ?_
 have fin : ∀ e σ a' w ι (σ3 : Heap), Aft s.under 8 { tmps := #[v] ++ Array.replicate (8 - (#[v] : Array Value).size) undef, defers := [] } e σ a' w ι → Z1O σ (e 2) = some (.v (.sl xs), σ3) →
   bodyPostM Fence.wide 0 X.P fu (fun en w' => ∃ v', en = .returned v' ∧ Post s (.v (.sl xs)) s.σ v' w') .ret a' w := by
  intro e σ a' w ι σ3 ht h4;refine leaves_ok (X := X) (fu := fu) (xs := [e 2]) rfl ht (by rw [hr]; rfl) fun v w' hp => ⟨v, rfl, ?_⟩
  exact Z7W hi hp h4
 refine wp_seq ?_
 refine wp_mono (Z6V (X := X) (s := s.under) hX (fn := f) (hG _) hiu he (Q := fun ex e' σ' => ex = .normal ∧ e' 0 = .v (.sl xs)) ?_) ?_
 ·show Runs X 8 f (Code.region 0 (List.toArray [_]) false) _ ⟨0, fun _ => .none⟩ _
  refine Runs.region rfl ?_;refine Ops.assign (v := .nils) rfl rfl ?_
  exact Ops.nil ⟨rfl, rfl⟩
 rintro ex a1 w1 ⟨x1, e1, σ1, ι1, ⟨rfl, k0⟩, rfl, ht1⟩
 simp only [Ex.out, Exit.then]
 refine wp_seq (wp_seq ?_)
 refine cloneOps_wp (s := ⟨w1, s.under.Y, σ1, ι1⟩) hX (hG _) ht1.inv ht1.env hT k0 ?_
 intro o a2 w2 ι2 ho ht2
 have ht12 := ht1.trans ht2.aft
 simp only [Exit.then]
 generalize he2 : putD 8 (putD 8 e1 (some 3) (.v (.sl xs))) (some 4) (.v (.bool o.isNone)) = e2 at ht2 ht12
 have q0 : e2 0 = .v (.sl xs) := by rw [← he2]; simpa [putD, upd] using k0
 have q4 : e2 4 = .v (.bool o.isNone) := by rw [← he2]; simp [putD, upd]
 refine wp_mono (Z6V (X := X) (s := ⟨w2, s.under.Y, ⟨σ1.nx + 2, σ1.ent⟩, ι2⟩) hX (fn := f) (hG _) ht2.inv ht2.env (Q := fun ex e' σ' => (xs = [] ∧ ex = .ret ∧ e' 2 = .nils) ∨ (ex = .normal ∧ e' 0 = .v (.sl xs))) ?_) ?_
 ·cases o with
  | none =>
   refine Runs.yes (by simp only [Z1, q4]; rfl) ?_
   refine Runs.then ?_;refine Runs.region (l := [_]) rfl ?_
   refine Ops.assign (v := .nils) rfl rfl ?_
   refine Ops.nil ?_;refine Runs.ret ?_;exact .inl ⟨ho rfl, rfl, rfl⟩
  | some o =>
   refine Runs.no (by simp only [Z1, q4]; rfl) ?_
   exact Runs.skip (.inr ⟨rfl, q0⟩)
 rintro ex a3 w3 ⟨x3, e3, σ3, ι3, hq, rfl, ht3⟩
 have ht13 := ht12.trans ht3
 rcases hq with ⟨rfl, rfl, k2⟩ | ⟨rfl, k3⟩
 ·simp only [Ex.out, Exit.then];exact fin e3 σ3 a3 w3 ι3 σ3 ht13 (by rw [k2]; rfl)
 ·simp only [Ex.out, Exit.then];refine wp_mono (Z6V (X := X) (s := ⟨w3, s.under.Y, σ3, ι3⟩) hX (fn := f) (hG _) ht3.inv ht3.env (cloneD_runs hT hl hroom k3)) ?_
  rintro ex a4 w4 ⟨x4, e4, σ4, ι4, ⟨rfl, lo, hi4, L, k, H4, hk⟩, rfl, ht4⟩;obtain ⟨σ5, q, _⟩ := expR_ok H4 (ExpR.one (.c (.s k hk)))
  exact fin e4 σ4 a4 w4 ι4 σ5 (ht13.trans ht4) q
end Go.Dn

namespace Go.Dn
open Go
theorem Has.perm {σ : Heap} {lo hi : Nat} {L L' : List Res} (H : Has σ lo hi L) (hp : L.Perm L') : Has σ lo hi L' := by
 have mem : ∀ {A : List Res}, (∀ (k : Nat) (r : Res), A[k]? = some r → r.holds σ) ↔ ∀ r ∈ A, r.holds σ := fun {A} =>
  ⟨fun h r hr => by obtain ⟨k, hk⟩ := List.getElem?_of_mem hr; exact h k r hk, fun h k r hk => h r (List.mem_of_getElem? hk)⟩
 have pw : L.Pairwise (fun r s => ∀ id, r.owner = some id → s.owner ≠ some id) := by
  rw [List.pairwise_iff_getElem];intro i j hi' hj hij;exact H.sep i j _ _ (by omega) (List.getElem?_eq_getElem hi') (List.getElem?_eq_getElem hj)
 have pw' : L'.Pairwise (fun r s => ∀ id, r.owner = some id → s.owner ≠ some id) := (hp.pairwise_iff (fun {a b} h id h1 h2 => h id h2 h1)).1 pw
 refine ⟨mem.2 fun r hr => mem.1 H.holds r (hp.mem_iff.2 hr), fun k r hk => ?_, fun i j r s hij h1 h2 => ?_, H.le⟩
 ·obtain ⟨k', hk'⟩ := List.getElem?_of_mem (hp.mem_iff.2 (List.mem_of_getElem? hk))
  exact H.lt k' r hk'
 ·obtain ⟨hi', rfl⟩ := List.getElem?_eq_some_iff.1 h1
  obtain ⟨hj', rfl⟩ := List.getElem?_eq_some_iff.1 h2
  rw [List.pairwise_iff_getElem] at pw'
  rcases Nat.lt_or_ge i j with h | h
  ·exact pw' i j hi' hj' h
  ·intro id h3 h4;exact pw' j i hj' hi' (by omega) id h4 h3
def pdOf : Ex → Option Code
 | .normal => none
 | .exit t => some (.exit t)
 | .ret => some .ret
theorem Has.slCells {σ : Heap} {lo hi : Nat} {L : List Res} {k : Nat} {v : PV} {et : TypeId} {sz : Nat} {xs : List (List FV)} {lv : Bool} (H : Has σ lo hi L) (h : L[k]? = some (.sl v et sz xs lv)) : v.cells = some [v] := by
 rcases (H.holds k _ h).2 with ⟨rfl, _⟩ | ⟨id, rfl, _⟩ <;> rfl
theorem Runs.env {X : Ctx} {n : Nat} {fn : FuncId} {c : Code} {e : Env} {σ : Heap} {Q : Ex → Env → Heap → Prop} (l : List (Nat × PV)) (he : Z5 e l) (h : ∀ e0, Runs X n fn c (sets e0 l) σ Q) : Runs X n fn c e σ Q := by
 obtain ⟨e0, rfl⟩ := he.ex
 exact h e0
section
variable {X : Ctx}
def YldH (X : Ctx) (id : Nat) {S T : Type} (C : S → List Res → Prop) (pvT : T → List PV) (y : S → T → Option (S × Bool)) : Prop :=
 ∀ s t s' b, y s t = some (s', b) → ∀ σ lo hi O L, C s L → Has σ lo hi (O ++ L) → ∃ σ' L', Z0R X (.yld id) (pvT t) σ = some (.v (.bool b), σ') ∧ C s' L' ∧ Hs σ' (O ++ L')
def ItF (X : Ctx) (f : FuncId) (args : List PV) {S : Type} (C : S → List Res → Prop) (s s' : S) : Prop :=
 ∀ σ L, C s L → Hs σ L → ∃ σ' L', Z0R X (.fn f) args σ = some (.tup [], σ') ∧ C s' L' ∧ Hs σ' L'
structure EndsI {S : Type} (C : S → List Res → Prop) (s : S) (x : Ex) (e : Env) (σ : Heap) : Prop where
 out : (x = .normal ∨ x = .ret) ∧ ∃ L, C s L ∧ Hs σ L
theorem EndsI.H {S : Type} {C : S → List Res → Prop} {s : S} {x : Ex} {e : Env} {σ : Heap} {lo hi : Nat} {L L0 : List Res} (hx : x = .normal ∨ x = .ret) (H : Has σ lo hi L) (k : Nat) (hk : L.drop k = L0) (hC : C s L0) : EndsI C s x e σ :=
 ⟨hx, L0, hC, (hk ▸ H.drop k : Has σ lo hi L0).all⟩
theorem ItF.of {f : FuncId} {args : List PV} {S : Type} {C : S → List Res → Prop} {s s' : S} {fu : Func} {c : Code} {m : Nat} (hf : X.P.funcs[f]? = some fu) (hb : fu.body = some c) (hr : fu.results = #[]) (hi : X.intr f args = none) (hk : X.keep f = false) (ho : X.opn f = false) (hs : args.all PV.still = true)
  (hp : args.all PV.pure = false) (hm : max fu.ntmps args.length = m) (h : ∀ σ L, C s L → Hs σ L → Runs X m f c (Z5h args) σ (EndsI C s')) : ItF X f args C s s' := by
 subst hm
 intro σ L hC H
 obtain ⟨lf, x, e', σ1, h1, hE⟩ := (h σ L hC H).run
 obtain ⟨hx, L', hC', H'⟩ := hE.out
 refine ⟨σ1, L', Z2Q (lf := lf) ?_, hC', H'⟩
 have hbody : Z1N X (Z0R X) lf f args σ = some (.tup [], σ1) := by
  simp only [Z1N, hf, hb, h1]
  rcases hx with rfl | rfl <;> simp [hr, Z0L, Z1j]
 simp only [Z4G, hi, hk, Bool.false_eq_true, if_false, Z4t hs, ho, hp, hbody, Option.bind_some]
 rfl
section
variable {n : Nat} {dr : Bool} {fn : FuncId} {ops : Array Oper} {base i : Nat} {l : List Oper} {e : Env} {σ : Heap} {K : Env → Heap → Prop} {Q : Ex → Env → Heap → Prop}
variable {d : Nat} {t : TypeId} {p : String} {af : Array Edge} {x : Operand} {lo hi : Nat} {L : List Res}
theorem Ops.callY {S T : Type} {C : S → List Res → Prop} {pvT : T → List PV} {y : S → T → Option (S × Bool)} {id : Nat} {args : Array Operand} {ts : Array TypeId} {s s' : S} {z : T} {b : Bool} (O : List Res) (H : Has σ lo hi (O ++ L)) (hC : C s L) (hx : Z1 X e x = some (.yld id)) (ha : Zl X e args.toList = some (pvT z))
  (hy : YldH X id C pvT y) (hq : y s z = some (s', b)) (hdr : dr = false) (hd : Nat.blt d n = true)
  (hk : ∀ σ' L', C s' L' → Hs σ' (O ++ L') → Ops X n dr ops base (i + 1) l (set e d (.v (.bool b))) σ' K) :
  Ops X n dr ops base i (⟨some d, .call { callee := .value x, args := args, argTypes := ts }, t, p, af, none⟩ :: l) e σ K := by
 obtain ⟨σ', L', q1, q2, q3⟩ := hy _ _ _ _ hq σ lo hi O L hC H
 exact .plain (x := .v (.bool b)) (σ1 := σ') (by simp only [ZD, Z07, ha, hx, q1]) (fun h => by rw [hdr] at h; cases h) hd (hk σ' L' q2 q3)
end
def RangeC (id : Nat) (fn : FuncId) (e : Env) (n : Nat) (ps : List Nat) (as_ bo : Code) {S : Type} (Co : S → List Res → Prop) (pd : Nat → Option Code) : S × Nat → List Res → Prop :=
 fun s L => ∃ M, Co s.1 M ∧ L = .loop id fn e n ps as_ bo (if s.2 = 0 then .ready else .done) (pd s.2) :: M
variable {n : Nat} {fn : FuncId} {e : Env} {σ : Heap} {Q : Ex → Env → Heap → Prop}
def BodyOK (X : Ctx) (n : Nat) (fn : FuncId) (e : Env) (ps : List Nat) (as_ bo : Code) {S T : Type} (Co : S → List Res → Prop) (pvT : T → List PV) (yb : S → T → Option (S × Nat)) (pd : Nat → Option Code) : Prop :=
 ∀ (R0 R1 : Res) s t s' p, yb s t = some (s', p) → ∀ σ M O, Co s M → Hs σ (R0 :: (M ++ O)) →
  Runs X n fn as_ (Z3g e n ps (pvT t)) σ fun x e1 σ1 => x = .normal ∧ ∃ M1, Hs σ1 (R0 :: (M1 ++ O)) ∧
   ∀ σ2, Hs σ2 (R1 :: (M1 ++ O)) → Runs X n fn bo e1 σ2 fun x e2 σ3 => (pdOf x = pd p ∧ (x = .normal ↔ p = 0)) ∧ ∃ M2, Co s' M2 ∧ Hs σ3 (R1 :: (M2 ++ O))
theorem rangeY_ok {S T : Type} {ps : List Nat} {as_ bo : Code} {Co : S → List Res → Prop} {pvT : T → List PV} {yb : S → T → Option (S × Nat)} {pd : Nat → Option Code} (hpd : pd 0 = none) (hlen : ∀ t, ps.length = (pvT t).length) (hpure : ∀ t, (pvT t).all PV.pure = true)
  (hbody : BodyOK X n fn e ps as_ bo Co pvT yb pd) (id : Nat) : YldH X id (RangeC id fn e n ps as_ bo Co pd) pvT (Z2A yb) := by
 rintro ⟨s, p⟩ t ⟨s', p'⟩ b hy σ lo hi O L ⟨M, hM, rfl⟩ H
 unfold Z2A at hy
 simp only at hy hM
 split at hy
 ·rename_i hp0;subst hp0;rw [Option.map_eq_some_iff] at hy;obtain ⟨r, hr, he⟩ := hy
  simp only [Prod.mk.injEq] at he;obtain ⟨rfl, rfl⟩ := he
  simp only [if_true, hpd] at H;have H1 : Hs σ (.loop id fn e n ps as_ bo .ready none :: (M ++ O)) := (H.perm (by rw [← List.cons_append]; exact List.perm_append_comm)).all
  obtain ⟨l1, x1, e1, σ1, r1, rfl, M1, H2, hb⟩ := (hbody (.loop id fn e n ps as_ bo .ready none) (.loop id fn e n ps as_ bo .busy none) s t s' p' hr σ M O hM H1).run
  have hent : σ1.ent id = .loop fn e n ps as_ bo .ready none := H2.holds 0 _ rfl
  have H3 : Hs (σ1.put id (.loop fn e n ps as_ bo .busy none)) (.loop id fn e n ps as_ bo .busy none :: (M1 ++ O)) := (H2.put (k := 0) rfl rfl (r' := .loop id fn e n ps as_ bo .busy none) Z1x rfl).all
  obtain ⟨l2, x2, e2, σ3, r2, ⟨hx, hx0⟩, M2, hM2, H4⟩ := (hb _ H3).run
  have hent0 : σ.ent id = .loop fn e n ps as_ bo .ready none := H1.holds 0 _ rfl
  have fin : ∀ (st : LoopState) (pc : Option Code), Hs (σ3.put id (.loop fn e n ps as_ bo st pc)) (O ++ (.loop id fn e n ps as_ bo st pc :: M2)) := fun st pc =>
   ((H4.put (k := 0) rfl rfl (r' := .loop id fn e n ps as_ bo st pc) Z1x rfl).perm (by rw [List.set_cons_zero, ← List.cons_append]; exact List.perm_append_comm)).all
  have call : ∀ (st : LoopState) (pc : Option Code) (b : Bool), (match x2 with
    | .normal => some (PV.v (.bool true), σ3.put id (.loop fn e n ps as_ bo .ready none))
    | .exit t => some (PV.v (.bool false), σ3.put id (.loop fn e n ps as_ bo .done (some (.exit t))))
    | .ret => some (PV.v (.bool false), σ3.put id (.loop fn e n ps as_ bo .done (some .ret)))) = some (.v (.bool b), σ3.put id (.loop fn e n ps as_ bo st pc)) →
    Z0R X (.yld id) (pvT t) σ = some (.v (.bool b), σ3.put id (.loop fn e n ps as_ bo st pc)) := by
   intro st pc b hm;refine Z2Q (lf := max l1 l2) ?_
   simp only [Z4G, hent0, hlen t, if_true, Z2g (hpure t), Z2M (Nat.le_max_left l1 l2) r1, hent, Z2M (Nat.le_max_right l1 l2) r2];exact hm
  cases x2 with
  | normal =>
   have hp0 := hx0.1 rfl
   subst hp0;exact ⟨_, _, call .ready none true rfl, ⟨M2, hM2, by simp [hpd]⟩, fin .ready none⟩
  | exit t' =>
   have hp0 : p' ≠ 0 := fun h => by have := hx0.2 h; cases this
   have hbeq : (p' == 0) = false := by simpa using hp0
   rw [hbeq];exact ⟨_, _, call .done (some (.exit t')) false rfl, ⟨M2, hM2, by simp only [if_neg hp0, ← hx, pdOf]⟩, fin .done _⟩
  | ret =>
   have hp0 : p' ≠ 0 := fun h => by have := hx0.2 h; cases this
   have hbeq : (p' == 0) = false := by simpa using hp0
   rw [hbeq];exact ⟨_, _, call .done (some .ret) false rfl, ⟨M2, hM2, by simp only [if_neg hp0, ← hx, pdOf]⟩, fin .done _⟩
 ·cases hy
theorem Runs.rangeH {S T : Type} {g : Operand} {ps : Array Tmp} {as_ bo : Code} {f : FuncId} {first caps : List PV} {M0 : List Res} (H : Hs σ M0) (hg : Z1 X e g = some (.clo f first caps))
  (Co : S → List Res → Prop) (pvT : T → List PV) (yb : S → T → Option (S × Nat)) (pd : Nat → Option Code) (hpd : pd 0 = none) (hjd : ∀ p, ∃ x, Z5C (pd p) = some x) {s0 : S} {r : S × Nat} (h0 : Co s0 M0) (hlen : ∀ t, ps.toList.length = (pvT t).length) (hpure : ∀ t, (pvT t).all PV.pure = true)
  (hbody : BodyOK X n fn e ps.toList as_ bo Co pvT yb pd)
  (hit : ∀ id, YldH X id (RangeC id fn e n ps.toList as_ bo Co pd) pvT (Z2A yb) → ItF X f (first ++ [.yld id] ++ caps) (RangeC id fn e n ps.toList as_ bo Co pd) (s0, 0) r)
  (hq : ∀ x σ' M', Z5C (pd r.2) = some x → Co r.1 M' → Hs σ' M' → Q x e σ') : Runs X n fn (.rangeFunc g ps as_ bo) e σ Q := by
 obtain ⟨m, ent⟩ := σ
 let σ1 : Heap := ⟨m + 1, upd ent m (.loop fn e n ps.toList as_ bo .ready none)⟩
 have H1 : Hs σ1 (.loop m fn e n ps.toList as_ bo .ready none :: M0) := by
  have h1 : Has (⟨m + 1, ent⟩ : Heap) m (m + 1) M0 := H.enter 1
  exact (h1.push (b := m) (en := .loop fn e n ps.toList as_ bo .ready none) (Nat.le_refl _) (Nat.lt_succ_self _) (r' := .loop m fn e n ps.toList as_ bo .ready none) Z1x rfl).all
 obtain ⟨σ2, L', hc, ⟨M', hM', rfl⟩, H2⟩ := hit m (rangeY_ok hpd hlen hpure hbody m) σ1 _ ⟨M0, h0, by simp [hpd]⟩ H1
 have hent : σ2.ent m = .loop fn e n ps.toList as_ bo (if r.2 = 0 then .ready else .done) (pd r.2) := H2.holds 0 _ rfl
 have hnb : (if r.2 = 0 then LoopState.ready else LoopState.done) ≠ LoopState.busy := by split <;> simp
 have Hf : Hs (σ2.put m (.loop fn e n ps.toList as_ bo .exhausted (pd r.2))) M' := ((H2.put (k := 0) rfl rfl (r' := .loop m fn e n ps.toList as_ bo .exhausted (pd r.2)) Z1x rfl).erase 0).all
 obtain ⟨x, hx⟩ := hjd r.2
 refine ⟨0, x, e, _, ?_, hq x _ M' hx hM' Hf⟩
 simp only [ZF, hg]
 rw [show Z0R X (.fn f) (first ++ [PV.yld m] ++ caps) ⟨m + 1, upd ent m (.loop fn e n ps.toList as_ bo .ready none)⟩ = some (.tup [], σ2) from hc]
 simp only [hent, if_neg hnb, hx]
theorem callO_of {f : FuncId} {args : List PV} {fu : Func} {c : Code} {m : Nat} {σ : Heap} {Post : PV → Heap → Prop} (hf : X.P.funcs[f]? = some fu) (hb : fu.body = some c) (hi : X.intr f args = none) (hk : X.keep f = false) (ho : X.opn f = true) (hp : args.all PV.pure = true) (hm : max fu.ntmps args.length = m)
  (h : Runs X m f c (Z5h args) σ fun x e σ' => (x = .normal ∨ x = .ret) ∧ ∃ xs, Z0L X.P e σ' fu.results.toList = some xs ∧ Post (Z1j xs) σ') : ∃ r σ', Z0R X (.fn f) args σ = some (r, σ') ∧ Post r σ' := by
 subst hm
 obtain ⟨lf, x, e', σ1, h1, hx, xs, h2, h3⟩ := h.run
 refine ⟨Z1j xs, σ1, Z2Q (lf := lf) ?_, h3⟩
 have hbody : Z1N X (Z0R X) lf f args σ = some (Z1j xs, σ1) := by
  simp only [Z1N, hf, hb, h1]
  rcases hx with rfl | rfl <;> simp only [h2, Option.map_some]
 simp only [Z4G, hi, hk, Bool.false_eq_true, if_false, Z2g hp, ho, if_true, hbody]
theorem Ops.callO {n : Nat} {dr : Bool} {ops : Array Oper} {base i : Nat} {l : List Oper} {e : Env} {σ : Heap} {K : Env → Heap → Prop} {d : Nat} {t : TypeId} {p : String} {af : Array Edge}
  {f : FuncId} {args : Array Operand} {ts : Array TypeId} {ys : List PV} {Post : PV → Heap → Prop} (ha : Zl X e args.toList = some ys) (hf : ∃ r σ', Z0R X (.fn f) ys σ = some (r, σ') ∧ Post r σ') (hdr : dr = true → Z39 (Region.before ops) ops i = true) (hd : Nat.blt d n = true)
  (hk : ∀ r σ', Post r σ' → Ops X n dr ops base (i + 1) l (set e d r) σ' K) :
  Ops X n dr ops base i (⟨some d, .call { callee := .value (.func f), args := args, argTypes := ts }, t, p, af, none⟩ :: l) e σ K := by
 obtain ⟨r, σ', q1, q2⟩ := hf
 exact .plain (x := r) (σ1 := σ') (by simp only [ZD, Z07, ha, Z1, q1]) (fun h => Z6R (hdr h)) hd (hk r σ' q2)
end
end Go.Dn

namespace Go.Dn
open Go
theorem Has.Zg {σ : Heap} {lo hi : Nat} {T : List Res} (A : List Res) (ks : List Nat) (hn : ks.Nodup) (hk : ks.all (Nat.blt · A.length) = true) (H : Has σ lo hi (A ++ T)) : Has σ lo hi (Dn.pick A ks ++ T) := by
 have hk' : ∀ k ∈ ks, k < A.length := fun k h => by
  have := List.all_eq_true.1 hk k h
  exact Nat.le_of_ble_eq_true this
 have h := H.pick (ks ++ (List.range T.length).map (A.length + ·)) (by
  refine List.nodup_append.2 ⟨hn, ?_, ?_⟩
  ·exact List.Pairwise.map _ (fun a b hab => by omega) List.nodup_range
  ·intro a ha b hb;obtain ⟨j, _, rfl⟩ := List.mem_map.1 hb
   have := hk' a ha
   omega)
 have fc : ∀ (f g : Nat → Option Res) (l : List Nat), (∀ k ∈ l, f k = g k) → l.filterMap f = l.filterMap g := by
  intro f g l
  induction l with
  | nil => intro _; rfl
  | cons k l ih =>
   intro h;rw [List.filterMap_cons, List.filterMap_cons, h k List.mem_cons_self, ih fun k hk => h k (List.mem_cons_of_mem _ hk)]
 have fr : ∀ (T : List Res), List.filterMap (fun j => T[j]?) (List.range T.length) = T := by
  intro T
  induction T with
  | nil => rfl
  | cons r T ih =>
   rw [List.length_cons, List.range_succ_eq_map, List.filterMap_cons, List.filterMap_map];simp only [List.getElem?_cons_zero]
   congr 1
 have e : Dn.pick (A ++ T) (ks ++ (List.range T.length).map (A.length + ·)) = Dn.pick A ks ++ T := by
  unfold Dn.pick;rw [List.filterMap_append]
  congr 1
  ·exact fc _ _ _ fun k hm => List.getElem?_append_left (hk' k hm)
  ·rw [List.filterMap_map];refine Eq.trans (fc _ _ _ fun j _ => ?_) (fr T)
   simp [Function.comp, List.getElem?_append_right]
 rw [← e]; exact h
theorem Has.mem {σ : Heap} {lo hi : Nat} {L : List Res} (H : Has σ lo hi L) : ∀ r ∈ L, r.holds σ ∧ ∀ id, r.owner = some id → (id < lo ∨ hi ≤ id) ∧ id < σ.nx := fun r hr => by
 obtain ⟨k, hk⟩ := List.getElem?_of_mem hr
 exact ⟨H.holds k r hk, H.lt k r hk⟩
abbrev Apart (r s : Res) : Prop := ∀ id, r.owner = some id → s.owner ≠ some id
theorem Has.pw {σ : Heap} {lo hi : Nat} {L : List Res} (H : Has σ lo hi L) : L.Pairwise Apart := by
 rw [List.pairwise_iff_getElem]
 intro i j hi' hj hij
 exact H.sep i j _ _ (by omega) (List.getElem?_eq_getElem hi') (List.getElem?_eq_getElem hj)
theorem Has.mk' {σ : Heap} {lo hi : Nat} {L : List Res} (hm : ∀ r ∈ L, r.holds σ ∧ ∀ id, r.owner = some id → (id < lo ∨ hi ≤ id) ∧ id < σ.nx) (hp : L.Pairwise Apart) (hle : hi ≤ σ.nx) : Has σ lo hi L := by
 refine ⟨fun k r hk => (hm r (List.mem_of_getElem? hk)).1, fun k r hk => (hm r (List.mem_of_getElem? hk)).2, fun i j r s hij h1 h2 => ?_, hle⟩
 obtain ⟨hi', rfl⟩ := List.getElem?_eq_some_iff.1 h1
 obtain ⟨hj', rfl⟩ := List.getElem?_eq_some_iff.1 h2
 rw [List.pairwise_iff_getElem] at hp
 rcases Nat.lt_or_ge i j with h | h
 ·exact hp i j hi' hj' h
 ·intro id h3 h4;exact hp j i hj' hi' (by omega) id h4 h3
def holes (lo hi : Nat) : List Res := .floor hi :: (List.range (hi - lo)).map fun j => .hole (lo + j)
theorem mem_holes {lo hi : Nat} {r : Res} (h : r ∈ holes lo hi) : r = .floor hi ∨ ∃ id, r = .hole id ∧ lo ≤ id ∧ id < hi := by
 rcases List.mem_cons.1 h with h | h
 ·exact .inl h
 ·obtain ⟨j, hj, rfl⟩ := List.mem_map.1 h
  have := List.mem_range.1 hj
  exact .inr ⟨_, rfl, by omega, by omega⟩
theorem Has.holesIn {σ : Heap} {lo hi : Nat} {L : List Res} (H : Has σ lo hi L) : Hs σ (L ++ holes lo hi) := by
 refine Has.mk' (fun r hr => ?_) ?_ (Nat.le_refl _)
 ·rcases List.mem_append.1 hr with h | h
  ·exact ⟨(H.mem r h).1, fun id ho => ⟨.inl ((H.mem r h).2 id ho).2, ((H.mem r h).2 id ho).2⟩⟩
  ·rcases mem_holes h with rfl | ⟨id, rfl, h1, h2⟩
   ·exact ⟨H.le, fun id ho => by cases ho⟩
   ·refine ⟨trivial, fun id' ho => ?_⟩
    cases ho;have := H.le
    exact ⟨.inl (by omega), by omega⟩
 ·refine List.pairwise_append.2 ⟨H.pw, ?_, ?_⟩
  ·refine List.pairwise_cons.2 ⟨fun r _ id ho => (by cases ho), ?_⟩
   refine List.Pairwise.map _ ?_ List.nodup_range;intro a b hab id h1 h2;have h1 : lo + a = id := Option.some.inj h1
   have h2 : lo + b = id := Option.some.inj h2
   omega
  ·intro r hr s hs id h1 h2;have := ((H.mem r hr).2 id h1).1
   rcases mem_holes hs with rfl | ⟨id', rfl, h3, h4⟩
   ·cases h2
   ·cases h2; omega
theorem Has.holesOut {σ : Heap} {lo hi : Nat} {A L : List Res} (H : Hs σ (A ++ (L ++ holes lo hi))) : Has σ lo hi (A ++ L) := by
 rw [← List.append_assoc] at H
 have hp := List.pairwise_append.1 H.pw
 refine Has.mk' (fun r hr => ?_) hp.1 ?_
 ·have h1 := H.mem r (List.mem_append_left _ hr)
  refine ⟨h1.1, fun id ho => ⟨?_, (h1.2 id ho).2⟩⟩
  rcases Nat.lt_or_ge id lo with h | h
  ·exact .inl h
  ·rcases Nat.lt_or_ge id hi with h' | h'
   ·exact absurd rfl (hp.2.2 r hr (.hole id) (List.mem_cons_of_mem _ (List.mem_map.2 ⟨id - lo, List.mem_range.2 (by omega), by congr 1; omega⟩)) id ho)
   ·exact .inr h'
 ·exact (H.mem (.floor hi) (List.mem_append_right _ List.mem_cons_self)).1
section
variable {X : Ctx} {f : FuncId} {fu : Func} {c : Code} {m : Nat} {σ : Heap} {cv : PV} {ys args : List PV} {L : List Res} {PostA : PV → List Res → Prop}
def CallI (X : Ctx) (cv : PV) (ys : List PV) (σ : Heap) (T : List Res) (PostA : PV → List Res → Prop) : Prop := ∃ r σ' A, callV X cv ys σ = some (r, σ') ∧ PostA r A ∧ Hs σ' (A ++ T)
theorem callI_of (hf : X.P.funcs[f]? = some fu) (hb : fu.body = some c) (hcv : ∀ σ, callV X cv ys σ = Z0R X (.fn f) args σ) (hi : X.intr f args = none) (hk : X.keep f = true) (ho : X.opn f = true) (hm : max fu.ntmps args.length = m) {T : List Res}
  (h : Runs X m f c (Z5h args) σ fun x e σ' => (x = .normal ∨ x = .ret) ∧ ∃ xs, Z0L X.P e σ' fu.results.toList = some xs ∧ ∃ A, PostA (Z1j xs) A ∧ Hs σ' (A ++ T)) : CallI X cv ys σ T PostA := by
 subst hm
 obtain ⟨lf, x, e', σ1, h1, hx, xs, h2, A, h3, h4⟩ := h.run
 refine ⟨Z1j xs, σ1, A, ?_, h3, h4⟩
 rw [hcv]
 refine Z2Q (lf := lf) ?_
 have hbody : Z1N X (Z0R X) lf f args σ = some (Z1j xs, σ1) := by
  simp only [Z1N, hf, hb, h1]
  rcases hx with rfl | rfl <;> simp only [h2, Option.map_some]
 simp only [Z4G, hi, hk, if_true, ho, hbody]
theorem callIO_of (hf : X.P.funcs[f]? = some fu) (hb : fu.body = some c) (hcv : ∀ σ, callV X cv ys σ = Z0R X (.fn f) args σ) (hi : X.intr f args = none) (hk : X.keep f = false) (ho : X.opn f = true) (hp : args.all PV.pure = true) (hm : max fu.ntmps args.length = m) {T : List Res}
  (h : Runs X m f c (Z5h args) σ fun x e σ' => (x = .normal ∨ x = .ret) ∧ ∃ xs, Z0L X.P e σ' fu.results.toList = some xs ∧ ∃ A, PostA (Z1j xs) A ∧ Hs σ' (A ++ T)) : CallI X cv ys σ T PostA := by
 obtain ⟨r, σ', h1, A, h2, h3⟩ := callO_of (Post := fun r σ' => ∃ A, PostA r A ∧ Hs σ' (A ++ T)) hf hb hi hk ho hp hm h
 exact ⟨r, σ', A, by rw [hcv]; exact h1, h2, h3⟩
end
section
variable {X : Ctx} {n : Nat} {dr : Bool} {fn : FuncId} {ops : Array Oper} {base i : Nat} {l : List Oper} {e : Env} {σ : Heap} {K : Env → Heap → Prop}
variable {d : Nat} {t t1 : TypeId} {p : String} {af : Array Edge} {x : Operand} {lo hi : Nat} {L : List Res}
theorem callV_step {cv : PV} {args : List PV} {r : PV} {σ' : Heap} {c : Call} {id0 : Nat} (hc : c.callee = .value x) (hx : Z1 X e x = some cv) (ha : Zl X e c.args.toList = some args) (h : Dn.callV X cv args σ = some (r, σ')) : Z07 X (Z0R X) e σ id0 c = some (r, σ') := by
 simp only [Z07, ha, hc, hx]
 unfold Dn.callV at h
 split at h
 ·exact h
 ·exact h
 ·cases h
theorem Sub.more {C L M : List Res} (h : Sub C L) : Sub C (L ++ M) := by
 induction h with
 | nil => exact .nil
 | cons k h t ih =>
  refine .cons k ?_ ih;rw [List.getElem?_append_left (List.getElem?_eq_some_iff.1 h).1, h]
theorem callI_back {cv : PV} {ys : List PV} {PostA : PV → List Res → Prop} (A : List Res) (H : Has σ lo hi (A ++ L)) (hf : ∀ T, (∀ C, Sub C L → Sub C T) → Hs σ (A ++ T) → CallI X cv ys σ T PostA) :
  ∃ r σ' A', Dn.callV X cv ys σ = some (r, σ') ∧ PostA r A' ∧ Has σ' lo hi (A' ++ L) := by
 have hsub : ∀ C, Sub C L → Sub C (L ++ holes lo hi) := fun C h => h.more
 have H1 := H.holesIn
 rw [List.append_assoc] at H1
 obtain ⟨r, σ', A', h1, h2, h3⟩ := hf (L ++ holes lo hi) hsub H1
 exact ⟨r, σ', A', h1, h2, h3.holesOut⟩
theorem Ops.callI {cv : PV} {args : Array Operand} {ts : Array TypeId} {ys : List PV} {PostA : PV → List Res → Prop} (A : List Res) (H : Has σ lo hi (A ++ L)) (hx : Z1 X e x = some cv) (ha : Zl X e args.toList = some ys) (hf : ∀ T, (∀ C, Sub C L → Sub C T) → Hs σ (A ++ T) → CallI X cv ys σ T PostA) (hdr : dr = true → Z39 (Region.before ops) ops i = true) (hd : Nat.blt d n = true)
  (hk : ∀ r A' σ', PostA r A' → Has σ' lo hi (A' ++ L) → Ops X n dr ops base (i + 1) l (set e d r) σ' K) :
  Ops X n dr ops base i (⟨some d, .call { callee := .value x, args := args, argTypes := ts }, t, p, af, none⟩ :: l) e σ K := by
 obtain ⟨r, σ', A', q1, q2, q3⟩ := callI_back A H hf
 exact .plain (x := r) (σ1 := σ') (by simp only [ZD]; exact callV_step rfl hx ha q1) (fun h => Z6R (hdr h)) hd (hk r A' σ' q2 q3)
def FnO (X : Ctx) (f : FuncId) (args : List PV) (PostA : PV → List Res → Prop) : Prop := ∀ σ T, Hs σ T → CallI X (.v (.fn f)) args σ T PostA
theorem FnO.of {f : FuncId} {fu : Func} {c : Code} {m : Nat} {args : List PV} {PostA : PV → List Res → Prop} (hf : X.P.funcs[f]? = some fu) (hb : fu.body = some c) (hi : X.intr f args = none) (hk : X.keep f = false) (ho : X.opn f = true) (hp : args.all PV.pure = true) (hm : max fu.ntmps args.length = m)
  (h : ∀ σ T, Hs σ T → Runs X m f c (Z5h args) σ fun x e σ' => (x = .normal ∨ x = .ret) ∧ ∃ xs, Z0L X.P e σ' fu.results.toList = some xs ∧ ∃ A, PostA (Z1j xs) A ∧ Hs σ' (A ++ T)) : FnO X f args PostA :=
 fun σ T H => callIO_of hf hb (fun _ => rfl) hi hk ho hp hm (h σ T H)
theorem Ops.callFO {f : FuncId} {args : Array Operand} {ts : Array TypeId} {ys : List PV} {PostA : PV → List Res → Prop} (H : Has σ lo hi L) (ha : Zl X e args.toList = some ys) (hf : FnO X f ys PostA) (hdr : dr = true → Z39 (Region.before ops) ops i = true) (hd : Nat.blt d n = true)
  (hk : ∀ r A' σ', PostA r A' → Has σ' lo hi (A' ++ L) → Ops X n dr ops base (i + 1) l (set e d r) σ' K) :
  Ops X n dr ops base i (⟨some d, .call { callee := .value (.func f), args := args, argTypes := ts }, t, p, af, none⟩ :: l) e σ K :=
 Ops.callI [] H rfl ha (fun T _ H => hf σ T H) hdr hd hk
inductive ExpP : List Res → List (Nat × PV) → List (Nat × PV) → List Res → Prop
 | nil {L : List Res} : ExpP L [] [] L
 | keep {L L' : List Res} {j : Nat} {x : PV} {ps qs : List (Nat × PV)} (h : Z5j x = false) (t : ExpP L ps qs L') : ExpP L ((j, x) :: ps) ((j, x) :: qs) L'
 | exp {L L1 L2 : List Res} {j : Nat} {x y : PV} {ps qs : List (Nat × PV)} (h : ExpV L x y L1) (t : ExpP L1 ps qs L2) : ExpP L ((j, x) :: ps) ((j, y) :: qs) L2
theorem ZAD {x : PV} {y : FV} {L' : List Res} (H : Has σ lo hi L) (h : ExpC L x y L') (hr : isRef x = false) : x = .v y ∧ L' = L := by
 cases h with
 | v y => exact ⟨rfl, rfl⟩
 | n => cases hr
 | ro h =>
  rcases h with ⟨rfl, rfl⟩ | rfl
  ·cases hr
  ·exact ⟨rfl, rfl⟩
 | s k h =>
  rcases (H.sl h).2 with ⟨rfl, _⟩ | ⟨id, rfl, _⟩ <;> cases hr
theorem Z91 : ∀ {xs : List PV} {ys : List FV} {L L' : List Res}, Has σ lo hi L → ExpCs L xs ys L' → xs.any isRef = false → xs = vs ys ∧ L' = L
 | [], ys, L, L', H, h, _ => by cases h; exact ⟨rfl, rfl⟩
 | x :: xs, ys, L, L', H, h, hr => by
  simp only [List.any_cons, Bool.or_eq_false_iff] at hr;cases h with
  | cons h t =>
   obtain ⟨rfl, rfl⟩ := ZAD H h hr.1
   obtain ⟨rfl, rfl⟩ := Z91 H t hr.2
   exact ⟨rfl, rfl⟩
theorem expV_noref {x y : PV} {L' : List Res} (H : Has σ lo hi L) (h : ExpV L x y L') (hr : Z5j x = false) : y = x ∧ L' = L := by
 cases h with
 | c h =>
  have : isRef x = false := by cases x <;> first | rfl | exact hr
  obtain ⟨rfl, rfl⟩ := ZAD H h this
  exact ⟨rfl, rfl⟩
 | a h =>
  obtain ⟨rfl, rfl⟩ := Z91 H h hr
  exact ⟨rfl, rfl⟩
 | p h => exact ⟨rfl, rfl⟩
theorem fvsOf_vs (l : List FV) : fvsOf (vs l) = some l := by
 induction l with
 | nil => rfl
 | cons x l ih => show (fvsOf (vs l)).map (x :: ·) = _; rw [ih]; rfl
theorem frzC_ok {x : PV} {y : FV} {L' : List Res} (H : Has σ lo hi L) (h : ExpC L x y L') : ∃ σ', Z3C σ x = some (.v y, σ') ∧ Has σ' lo hi L' ∧ σ'.nx = σ.nx := by
 cases h with
 | v y => exact ⟨σ, rfl, H, rfl⟩
 | n => exact ⟨σ, rfl, H, rfl⟩
 | ro h => rcases h with ⟨rfl, rfl⟩ | rfl <;> exact ⟨σ, rfl, H, rfl⟩
 | @s _ et sz xs lv k h =>
  obtain ⟨hs, hv⟩ := H.sl h
  rcases hv with ⟨rfl, rfl⟩ | ⟨id, rfl, hb⟩
  ·exact ⟨σ, rfl, H.say h ⟨by simp, .inl ⟨rfl, rfl⟩⟩ rfl, rfl⟩
  ·refine ⟨σ.put id (.blk et (vs xs.flatten) false), ?_, H.put h rfl (r' := .sl (.buf id xs.length sz) et sz xs false) ⟨hs, .inr ⟨id, rfl, Z1x⟩⟩ rfl, rfl⟩
   simp only [Z3C, hb];rw [if_pos (by rw [Z1D, Z0l hs]), fvsOf_vs, Option.map_some, Z7X hs]
theorem frzCs_ok : ∀ {xs : List PV} {σ : Heap} {L L' : List Res} {ys : List FV}, Has σ lo hi L → ExpCs L xs ys L' → ∃ σ', Z2G σ xs = some (vs ys, σ') ∧ Has σ' lo hi L' ∧ σ'.nx = σ.nx
 | [], σ, L, L', ys, H, h => by cases h; exact ⟨σ, rfl, H, rfl⟩
 | x :: xs, σ, L, L', ys, H, h => by
  cases h with
  | cons h t =>
   obtain ⟨σ1, q1, q2, q3⟩ := frzC_ok H h
   obtain ⟨σ2, p1, p2, p3⟩ := frzCs_ok q2 t
   exact ⟨σ2, by simp only [Z2G, q1, Option.bind_some, p1]; rfl, p2, p3.trans q3⟩
theorem frzV_ok {x y : PV} {L' : List Res} (H : Has σ lo hi L) (h : ExpV L x y L') (hn : Z5j x = true) : ∃ σ', Z2i σ x = some (y, σ') ∧ Has σ' lo hi L' ∧ σ'.nx = σ.nx := by
 cases h with
 | c h =>
  obtain ⟨σ', q1, q2, q3⟩ := frzC_ok H h
  refine ⟨σ', ?_, q2, q3⟩;cases h with
  | v y => cases hn
  | n => simp only [Z2i, q1]
  | ro h =>
   rcases h with ⟨rfl, rfl⟩ | rfl
   ·simp only [Z2i, q1]
   ·cases hn
  | s k h =>
   obtain ⟨_, ⟨rfl, rfl⟩ | ⟨id, rfl, hb⟩⟩ := H.sl h
   ·simp only [Z2i, q1]
   ·simp only [Z2i, q1]
 | a h =>
  obtain ⟨σ', q1, q2, q3⟩ := frzCs_ok H h
  exact ⟨σ', by simp only [Z2i, q1, Option.bind_some], q2, q3⟩
 | p h =>
  exfalso
  cases x <;> simp [PV.pure] at h <;> simp [Z5j] at hn
  obtain ⟨z, hz, hz2⟩ := hn
  have := h z hz
  cases z <;> simp [PV.isV] at this
  simp [isRef] at hz2
theorem expP_ok : ∀ {ps qs : List (Nat × PV)} {σ : Heap} {L L' : List Res}, Has σ lo hi L → ExpP L ps qs L' → ∃ σ', Z0Y σ ps = some (qs, σ') ∧ Has σ' lo hi L' ∧ σ'.nx = σ.nx
 | [], qs, σ, L, L', H, h => by cases h; exact ⟨σ, rfl, H, rfl⟩
 | p :: ps, qs, σ, L, L', H, h => by
  cases h with
  | keep h t =>
   obtain ⟨σ1, q1, q2, q3⟩ := expP_ok H t
   exact ⟨σ1, by simp only [Z0Y, h, Bool.false_eq_true, if_false, q1, Option.bind_some], q2, q3⟩
  | @exp _ L1 _ j x y ps qs h t =>
   by_cases hr : Z5j x = true
   ·obtain ⟨σ1, q1, q2, q3⟩ := frzV_ok H h hr
    obtain ⟨σ2, p1, p2, p3⟩ := expP_ok q2 t
    exact ⟨σ2, by simp only [Z0Y, hr, if_true, q1, Option.bind_some, p1], p2, p3.trans q3⟩
   ·have hr : Z5j x = false := by simpa using hr
    obtain ⟨rfl, rfl⟩ := expV_noref H h hr
    obtain ⟨σ2, p1, p2, p3⟩ := expP_ok H t
    exact ⟨σ2, by simp only [Z0Y, hr, Bool.false_eq_true, if_false, Option.bind_some, p1], p2, p3⟩
def FrzOK (ops : Array Oper) (base i : Nat) (pp : List (Nat × PV)) : Prop :=
 Z39 (Region.before ops) ops i = true ∨ ∃ ms : List Nat, (pp.flatMap fun p => Z4v p.2) = ms.map (base + ·) ∧
  (ms.all fun m => Nat.blt m ops.size && ((Region.before ops).getD i 0).testBit m && (List.range ops.size).all fun j => !(unord (Region.before ops) i j && ((Region.before ops).getD j 0).testBit m)) = true
theorem ask_frz {parts : Array (Nat × Operand)} {len : Nat} {pp : List (Nat × PV)} (hp : Z36 X e parts.toList = some pp) (h : FrzOK ops base i pp) : Zx X ops base i ⟨some d, .buildSlice t1 len parts, t, p, af, none⟩ e = true := by
 rcases h with h | ⟨ms, h1, h2⟩
 ·exact Z6R h
 ·refine ask0 ?_;have hf : frozen X e (.buildSlice t1 len parts) = ms.map (base + ·) := by simp only [frozen, hp, h1]
  simp only [Zn, Z05, hf];refine List.all_eq_true.2 fun k hk => ?_
  obtain ⟨m, hm, rfl⟩ := List.mem_map.1 hk
  have := List.all_eq_true.1 h2 m hm
  simp only [Bool.and_eq_true] at this;simp only [Nat.add_sub_cancel_left, Bool.and_eq_true, decide_eq_true_eq];exact ⟨⟨⟨Nat.le_add_right _ _, by have := blt_lt this.1.1; omega⟩, this.1.2⟩, this.2⟩
theorem Ops.Z8C {parts : Array (Nat × Operand)} {len sz : Nat} {el : TypeId} {zs : List PV} {pp qq : List (Nat × PV)} {L' : List Res} (xs : List (List FV)) (H : Has σ lo hi L) (hlo : lo ≤ base + i) (hhi : base + i < hi)
  (ht : tslice X.P t1 = some el) (hp : Z36 X e parts.toList = some pp) (hE : ExpP L pp qq L') (hs : tsize X.P el = some sz) (hz : tzero X.P el = some zs) (hc : (zs.length == sz && sz != 0 && Nat.ble (len * sz) 1000000) = true)
  (hf : Z5o (fun i => some (i * sz, sz)) (List.replicate len zs).flatten qq = some (vs xs.flatten)) (hl : xs.length = len) (hx : xs.all (fun y => y.length == sz) = true) (hd : Nat.blt d n = true) (hdr : dr = true → FrzOK ops base i pp)
  (hk : ∀ σ', Has σ' (base + i + 1) hi (.sl (.buf (base + i) len sz) el sz xs true :: L') → Ops X n dr ops base (i + 1) l (set e d (.buf (base + i) len sz)) σ' K) (hlit : X.lit = false := by rfl) :
  Ops X n dr ops base i (⟨some d, .buildSlice t1 len parts, t, p, af, none⟩ :: l) e σ K := by
 simp only [Bool.and_eq_true, beq_iff_eq, bne_iff_ne, ne_eq, Nat.ble_eq] at hc
 obtain ⟨σ1, q1, H1, q3⟩ := expP_ok H hE
 have hl0 : (X.lit && len != 0) = false := by rw [hlit]; rfl
 refine .plain (x := .buf (base + i) len sz) (σ1 := σ1.put (base + i) (.blk el (vs xs.flatten) true)) ?_ (fun h => ask_frz hp (hdr h)) hd (hk _ (H1.push hlo hhi (r' := .sl (.buf (base + i) len sz) el sz xs true) ?_ rfl))
 ·simp only [ZD, Z1A, hp, Option.bind_some, q1, Z1r, ht, hs, hz];rw [if_pos ⟨hc.1.1, hc.1.2, hc.2⟩, hf]; simp only [litR, hl0]; rfl
 ·exact ⟨fun y hy => by have := List.all_eq_true.1 hx y hy; simpa using this, .inr ⟨base + i, by rw [hl], Z1x⟩⟩
end
end Go.Dn

namespace Go.Dn
open Go
section
variable {X : Ctx} {n : Nat} {fn : FuncId} {ops : Array Oper} {base i : Nat} {l : List Oper} {e : Env} {σ : Heap} {K : Env → Heap → Prop}
variable {d : Nat} {t t1 : TypeId} {p : String} {af : Array Edge} {x y z : Operand} {lo hi k : Nat} {L : List Res}
end
theorem Ops.nila {X : Ctx} {n : Nat} {dr : Bool} {ops : Array Oper} {base i : Nat} {e : Env} {σ : Heap} {K : Env → Heap → Prop} {lo hi : Nat} {L : List Res} (H : Has σ lo hi L) (h : Hs σ L → K e σ) : Ops X n dr ops base i [] e σ K := .nil (h H.all)
section
variable {X : Ctx} {n : Nat} {dr : Bool} {ops : Array Oper} {base i : Nat} {l : List Oper} {e : Env} {σ : Heap} {K : Env → Heap → Prop}
variable {d : Nat} {t t1 : TypeId} {p : String} {af : Array Edge} {x y z : Operand} {lo hi k : Nat} {L : List Res}
end
end Go.Dn

namespace Go.Dn
open Go
def Res.solid : Res → Bool
 | .hole _ => false
 | _ => true
def star (σ : Heap) : Res → Res
 | .hole id => .fix id (σ.ent id)
 | r => r
theorem Z9d {σ : Heap} {r : Res} : (star σ r).owner = r.owner := by cases r <;> rfl
theorem star_holds {σ : Heap} {r : Res} (h : r.holds σ) : (star σ r).holds σ := by cases r <;> first | exact h | exact rfl
theorem solid_star {σ : Heap} {r : Res} (h : r.solid = true) : star σ r = r := by cases r <;> first | rfl | cases h
section
variable {σ : Heap} {lo hi : Nat} {L C : List Res}
theorem Has.star (H : Has σ lo hi L) : Has σ σ.nx σ.nx (L.map (star σ)) := by
 refine ⟨fun k r h => ?_, fun k r h id ho => ?_, fun j k r s hjk h1 h2 id ho => ?_, Nat.le_refl _⟩
 ·rw [List.getElem?_map, Option.map_eq_some_iff] at h;obtain ⟨q, hq, rfl⟩ := h
  exact star_holds (H.holds k q hq)
 ·rw [List.getElem?_map, Option.map_eq_some_iff] at h;obtain ⟨q, hq, rfl⟩ := h
  rw [Z9d] at ho;have := (H.lt k q hq id ho).2
  exact ⟨.inl this, this⟩
 ·rw [List.getElem?_map, Option.map_eq_some_iff] at h1 h2;obtain ⟨q, hq, rfl⟩ := h1
  obtain ⟨q', hq', rfl⟩ := h2
  rw [Z9d] at ho ⊢;exact H.sep j k q q' hjk hq hq' id ho
theorem Has.add (H : Has σ σ.nx σ.nx L) {id : Nat} (hl : id < σ.nx) (hn : ∀ r ∈ L, r.owner ≠ some id) : Has σ σ.nx σ.nx (.fix id (σ.ent id) :: L) := by
 refine ⟨fun j s h => ?_, fun j s h id' ho2 => ?_, fun i j s t hij h1 h2 id' hs => ?_, H.le⟩
 ·cases j with
  | zero => cases h; exact rfl
  | succ j => exact H.holds j s h
 ·cases j with
  | zero => cases h; cases ho2; exact ⟨.inl hl, hl⟩
  | succ j => exact H.lt j s h id' ho2
 ·cases i with
  | zero =>
   cases h1;cases hs;cases j with
   | zero => exact absurd rfl hij
   | succ j => exact hn t (List.mem_of_getElem? h2)
  | succ i =>
   cases j with
   | zero =>
    cases h2;intro e;cases e;exact hn s (List.mem_of_getElem? h1) hs
   | succ j => exact H.sep i j s t (fun e => hij (by rw [e])) h1 h2 id' hs
def fixL (σ : Heap) (L : List Res) : Nat → List Res
 | 0 => L.map (star σ)
 | k + 1 => if (fixL σ L k).any (fun r => r.owner == some k) then fixL σ L k else .fix k (σ.ent k) :: fixL σ L k
theorem Sub.star {C L : List Res} (h : Sub C L) : C.all Res.solid = true → Sub C (L.map (star σ)) := by
 induction h with
 | nil => intro _; exact .nil
 | cons k h t ih =>
  intro hs;simp only [List.all_cons, Bool.and_eq_true] at hs;exact .cons k (by rw [List.getElem?_map, h, Option.map_some, solid_star hs.1]) (ih hs.2)
end
section
variable {X : Ctx} {n : Nat} {dr : Bool} {fn : FuncId} {ops : Array Oper} {base i : Nat} {l : List Oper} {e : Env} {σ : Heap} {K : Env → Heap → Prop}
variable {d : Nat} {t : TypeId} {p : String} {af : Array Edge} {x : Operand} {lo hi : Nat} {L C : List Res}
end
inductive FzC (L : List Res) : PV → FV → Prop
 | v (y : FV) : FzC L (.v y) y
 | n : FzC L .nils (.sl [])
 | ro {v : PV} {xs : List (List FV)} (h : RO v xs) : FzC L v (.sl xs)
 | s {v : PV} {et : TypeId} {sz : Nat} {xs : List (List FV)} (k : Nat) (h : L[k]? = some (.sl v et sz xs false)) : FzC L v (.sl xs)
inductive FzCs (L : List Res) : List PV → List FV → Prop
 | nil : FzCs L [] []
 | cons {x : PV} {y : FV} {xs : List PV} {ys : List FV} (h : FzC L x y) (t : FzCs L xs ys) : FzCs L (x :: xs) (y :: ys)
inductive FzV (L : List Res) : PV → PV → Prop
 | c {x : PV} {y : FV} (h : FzC L x y) : FzV L x (.v y)
 | a {xs : List PV} {ys : List FV} (h : FzCs L xs ys) : FzV L (.agg xs) (.agg (vs ys))
 | p {x : PV} (h : x.pure = true) : FzV L x x
inductive FzVs (L : List Res) : List PV → List PV → Prop
 | nil : FzVs L [] []
 | cons {x y : PV} {xs ys : List PV} (h : FzV L x y) (t : FzVs L xs ys) : FzVs L (x :: xs) (y :: ys)
section
variable {σ : Heap} {lo hi : Nat} {L : List Res}
end
def PV.one : PV → Bool
 | .v _ => true
 | .fptr _ => true
 | .ptr _ _ _ => true
 | .clo _ _ _ => true
 | .yld _ => true
 | _ => false
theorem Z58 {x : PV} (h : x.one = true) : x.still = true := by cases x <;> first | rfl | cases h
theorem one_cells {x : PV} (h : x.one = true) : x.cells = some [x] := by cases x <;> first | rfl | cases h
end Go.Dn

namespace Go.Dn
open Go
def cF (n : Nat) : List FV := [.fn n]
def tailsOK (ops : Array Oper) : Nat → List Oper → Bool
 | _, [] => true
 | k, o :: l => (o.after.all fun e => !Region.binds .any e || decide (e.on < k)) && (l.all fun oj => oj.after.any (fun e => Region.binds .any e && e.on == k) || o.apart ops oj) && tailsOK ops (k + 1) l
section
variable {X : Ctx} {n : Nat} {dr : Bool} {ops : Array Oper} {base i : Nat} {l : List Oper} {e : Env} {σ : Heap} {K : Env → Heap → Prop}
variable {d : Nat} {t t1 : TypeId} {p : String} {af : Array Edge} {x y : Operand} {lo hi : Nat} {L : List Res}
theorem Ops.appendNt {α : Type} {c : α → List FV} {ys r : List α} {el : TypeId} {sz by_ : Nat} {w : PV} {zs : List PV} (H : Has σ lo hi L) (hlo : lo ≤ base + i) (hhi : base + i < hi) (k : Nat) (hk : L[k]? = some (.sl .nils el sz (([] : List α).map c) true))
  (hx : Z1 X e x = some .nils) (hy : Z1 X e y = some w) (hb : Bring L sz w (ys.map c)) (hr : app? by_ [] ys = some r) (ht : tslice X.P t1 = some el) (hs : tsize X.P el = some sz) (hby : tbytes X.P el = some by_) (hz : tzero X.P el = some zs)
  (hc : (sz != 0 && by_ != 0 && zs.length == sz) = true)
  (ha : dr = true → ∀ id, w.owner = some id → Seen ops base i id true) (hd : Nat.blt d n = true)
  (hk' : ∀ v' σ', (v' = .nils ∨ ∃ m, v' = .buf (base + i) m sz) → Has σ' (base + i + 1) hi (L.set k (.sl v' el sz (r.map c) true)) → Ops X n dr ops base (i + 1) l (set e d v') σ' K) :
  Ops X n dr ops base i (⟨some d, .call { callee := .builtin .append, args := #[x, y], argTypes := #[t1, t1] }, t, p, af, none⟩ :: l) e σ K := by
 unfold app? at hr
 split at hr
 case isFalse => cases hr
 rename_i hroom
 cases hr
 simp only [Bool.and_eq_true, beq_iff_eq, bne_iff_ne, ne_eq] at hc
 obtain ⟨hb1, hb2⟩ := brought H hb
 obtain ⟨hsz, hv⟩ := H.sl hk
 have hn : ¬(sz = 0 ∨ by_ = 0 ∨ (some zs).map List.length ≠ some sz) := by
  rintro (h | h | h)
  ·exact hc.1.1 h
  ·exact hc.1.2 h
  ·exact h (by rw [Option.map_some, hc.2])
 have ask : dr = true → Zx X ops base i ⟨some d, .call { callee := .builtin .append, args := #[x, y], argTypes := #[t1, t1] }, t, p, af, none⟩ e = true := fun h =>
  Z7O (ids := vids .nils ++ vids w) rfl (by simp only [touched, Zi, List.flatMap_cons, List.flatMap_nil, hx, hy, List.append_nil]) (fun id hid => by
   rcases List.mem_append.1 hid with hid | hid
   ·cases hid
   ·exact ha h id (Z70 hid (Z9F H hb)))
 have start : ZD X (Z0R X) e σ (base + i) (.call { callee := .builtin .append, args := #[x, y], argTypes := #[t1, t1] }) = Z16 X.P σ (base + i) t1 .nils w := by
  simp only [ZD, Z07, Zl, hx, hy, Option.bind_some, Z0P, if_true]
 by_cases h0 : ys = []
 ·subst h0;refine .plain (x := .nils) (σ1 := σ) ?_ ask hd (hk' _ _ (.inl rfl) ((H.weak (Nat.le_trans hlo (Nat.le_succ _)) (Nat.le_refl _)).say hk (r' := .sl .nils el sz (([] ++ [] : List α).map c) true) ⟨by simp, .inl ⟨rfl, rfl⟩⟩ rfl))
  rw [start];simp only [Z16, ht, hs, hby, hb1, hz, if_neg hn, List.map_nil, List.length_nil, if_true]
 ·have hl : (ys.map c).length ≠ 0 := fun h => h0 (List.map_eq_nil_iff.1 (List.length_eq_zero_iff.1 h))
  have hroom' : (ys.map c).length * by_ ≤ room := by simpa using hroom
  refine .plain (x := .buf (base + i) (ys.map c).length sz) (σ1 := σ.put (base + i) (.blk el (vs (ys.map c).flatten) true)) ?_ ask hd
   (hk' _ _ (.inr ⟨_, rfl⟩) (H.renew hk hlo hhi (r' := .sl (.buf (base + i) (ys.map c).length sz) el sz (([] ++ ys).map c) true) ⟨hb2, .inr ⟨base + i, rfl, Z1x⟩⟩ rfl))
  rw [start];simp only [Z16, ht, hs, hby, hb1, hz, if_neg hn, if_neg hl, if_pos hroom']
theorem frz_one {ops : Array Oper} {base i j : Nat} {pp : List (Nat × PV)} {w : PV} {sz : Nat} (hw : w = .nils ∨ ∃ m, w = .buf (base + j) m sz) (hp : (pp.flatMap fun p => Z4v p.2) = (bufId w ++ []) ++ [])
  (hj : ([j].all fun m => Nat.blt m ops.size && ((Region.before ops).getD i 0).testBit m && (List.range ops.size).all fun k => !(unord (Region.before ops) i k && ((Region.before ops).getD k 0).testBit m)) = true) : FrzOK ops base i pp := by
 right
 rcases hw with rfl | ⟨m, rfl⟩
 ·exact ⟨[], by rw [hp]; rfl, rfl⟩
 ·exact ⟨[j], by rw [hp]; rfl, hj⟩
end
end Go.Dn

namespace Go.Dn
open Go Go.Proofs
def cloneV (sz by_ : Nat) : List PV → Option PV
 | [.v (.sl xs)] => if (xs.all fun y => y.length == sz) = true ∧ xs.length * by_ ≤ room then some (.v (.sl xs)) else none
 | _ => none
def gcdV : List PV → Option PV
 | [.v (.int .u64 a), .v (.int .u64 b)] => if (0 ≤ a ∧ a ≤ 18446744073709551615) ∧ 0 ≤ b ∧ b ≤ 18446744073709551615 then some (.v (.int .u64 (Int.gcd a b))) else none
 | _ => none
noncomputable def CA : Ctx := { P := Try.prog, glob := fun _ => none, intr := fun f args => if f = 78 then gcdV args else if f = 38 then cloneV 2 16 args else none, opn := fun f => f == 54 || f == 63 || f == 65 || f == 95, keep := fun f => false, lit := true }
noncomputable def C0 : Ctx := { P := Try.prog, glob := fun _ => none, intr := fun _ _ => none, opn := fun _ => false, keep := fun _ => false }
theorem prog_ok : ProgOK Try.prog := by
 refine ⟨fun f fn h => ?_, by kernel_rfl⟩
 have hall : Try.prog.funcs.all (fun fn => !(fn.name == "runtime.NumGoroutine")) = true := by kernel_rfl
 have := Array.all_eq_true_iff_forall_mem.1 hall fn (Array.mem_of_getElem? h)
 simpa using this
theorem c0_ok : CtxOK C0 := ⟨prog_ok, fun f args r h => by cases h⟩
theorem prog_call (f : FuncId) (fu : Func) (vs : Array Value) (w : World) (hf : Try.prog.funcs[f]? = some fu) (hb : fu.body.isSome = true) : (callFunc f vs).run Try.prog w = .ok (.enter f vs) w := by
 have hp : (program).run Try.prog w = .ok Try.prog w := rfl
 simp only [callFunc, Sem.run_bind, hp, Result.andThen_ok, hf, prog_ok.names f fu hf]
 cases hc : fu.body with
 | none => rw [hc] at hb; cases hb
 | some c => simp
def InUg (a : Int) : Prop := 0 ≤ a ∧ a ≤ 18446744073709551615
abbrev u64v (a : Int) : PV := .v (.int .u64 a)
def uOf : Value → Nat | .int _ q => q.toNat | _ => 0
def gcdJ (s0 : St) (a0 : Act) (g : Nat) (a : Act) (w : World) : Prop := ∃ (e : Env) (σ : Heap) (ι : Nat → Nat) (x y : Int), Aft s0 12 a0 (set (set e 0 (u64v x)) 1 (u64v y)) σ a w ι ∧ InUg x ∧ InUg y ∧ Int.gcd x y = g
theorem gcd_step {x y : Int} (hx : 0 ≤ x) (hy : 0 ≤ y) : Int.gcd y (x.tmod y) = Int.gcd x y := by
 obtain ⟨m, rfl⟩ := Int.eq_ofNat_of_zero_le hx
 obtain ⟨k, rfl⟩ := Int.eq_ofNat_of_zero_le hy
 have : ((m : Int).tmod (k : Int)) = ((m % k : Nat) : Int) := rfl
 rw [this]
 show Nat.gcd k (m % k) = Nat.gcd m k
 rw [Nat.gcd_comm m k, Nat.gcd_rec k m, Nat.gcd_comm]
theorem gcd_loop {s0 : St} {a0 : Act} {g : Nat} {A B : Code} {Q : Exit → Act → World → Prop}
  (hA : ∀ (e : Env) (x y : Int) (m : Nat) (ent : Nat → Ent), Runs C0 12 78 A (set (set e 0 (u64v x)) 1 (u64v y)) ⟨m, ent⟩ fun ex e' σ' => (y = 0 ∧ ex = .ret ∧ e' 4 = u64v x) ∨ (y ≠ 0 ∧ ex = .normal ∧ e' 0 = u64v x ∧ e' 1 = u64v y))
  (hB : ∀ (e : Env) (x y : Int) (m : Nat) (ent : Nat → Ent), y ≠ 0 → Runs C0 12 78 B (set (set e 0 (u64v x)) 1 (u64v y)) ⟨m, ent⟩ fun ex e' σ' => ex = .normal ∧ e' 0 = u64v y ∧ e' 1 = u64v (x.tmod y))
  (hQ : ∀ e σ a w ι, Aft s0 12 a0 e σ a w ι → e 4 = u64v g → Q .ret a w) :
  ∀ a w, gcdJ s0 a0 g a w → (Code.seq A (.seq B (.goto 0))).wp Try.prog (Exit.jump 0 (fun a' w' => gcdJ s0 a0 g a' w' ∧ uOf (a'.tmps.getD 1 Go.undef) < uOf (a.tmps.getD 1 Go.undef)) Q) a w := by
 rintro a w ⟨e, σ, ι, x, y, h0, hx, hy, hg⟩
 refine wp_seq ?_
 have hG : Z0W C0 ⟨w, s0.Y, σ, ι⟩ := fun g cells hg => by cases hg
 have h1 := Z6V c0_ok (fn := 78) hG h0.inv h0.env (c := A) (hA e x y σ.nx σ.ent)
 refine wp_mono h1 fun ex a1 w1 hh => ?_
 obtain ⟨x1, e1, σ1, ι1, hq, rfl, ht⟩ := hh
 have ht1 := h0.trans ht
 rcases hq with ⟨rfl, rfl, h4⟩ | ⟨hy0, rfl, k0, k1⟩
 ·refine hQ e1 σ1 a1 w1 ι1 ht1 ?_
  rw [h4, ← hg]
  have : ((Int.gcd x 0 : Nat) : Int) = x := by rw [Int.gcd_zero_right]; have := hx.1; omega
  rw [this]
 ·simp only [Ex.out, Exit.then]
  refine wp_seq ?_
  have he1 : EnvR ⟨w1, s0.Y, σ1, ι1⟩ 12 (set (set e1 0 (u64v x)) 1 (u64v y)) a1 := by
   rw [← Z53 k0, ← Z53 k1]
   exact ht.env
  have hG1 : Z0W C0 ⟨w1, s0.Y, σ1, ι1⟩ := fun g cells hg => by cases hg
  have h2 := Z6V c0_ok (fn := 78) hG1 ht.inv he1 (c := B) (hB e1 x y σ1.nx σ1.ent hy0)
  refine wp_mono h2 fun ex a2 w2 hh => ?_
  obtain ⟨x2, e2, σ2, ι2, ⟨rfl, j0, j1⟩, rfl, ht2⟩ := hh
  have ht3 := ht1.trans ht2
  have hm1 : 0 ≤ x.tmod y := Int.tmod_nonneg y hx.1
  have hm2 : x.tmod y < y := Int.tmod_lt_of_pos x (by have := hy.1; omega)
  simp only [Ex.out, Exit.then]
  refine wp_goto ⟨rfl, ⟨e2, σ2, ι2, y, x.tmod y, ?_, hy, ⟨hm1, by have := hy.2; omega⟩, ?_⟩, ?_⟩
  ·rw [← Z53 j0, ← Z53 j1]
   exact ht3
  ·rw [← hg]
   exact gcd_step hx.1 hy.1
  ·have u1 := ht2.env.2 1
   rw [j1] at u1
   have u2 := h0.env.2 1
   rw [int_val u1, int_val u2]
   simp only [uOf]
   omega
set_option maxRecDepth 100000 in
theorem gcd_calls {s : St} (hi : Inv s) {a b : Int} (ha : InUg a) (hb : InUg b) : Calls Try.prog 78 #[.int .u64 a, .int .u64 b] s.w fun en w' => ∃ v, en = .returned v ∧ ∃ σ', Post s.under (u64v (Int.gcd a b)) σ' v w' := by
 have hv : PVRs s.under [u64v a, u64v b] #[.int .u64 a, .int .u64 b] := by
  refine ⟨rfl, fun i x hx => ?_⟩
  match i with
  | 0 => simp at hx; subst hx; exact .v (.int _ _)
  | 1 => simp at hx; subst hx; exact .v (.int _ _)
  | i + 2 => simp at hx
 have he := env_of (s := s.under) (k := 12) hv
 have hiu := Z8M hi
 have hG : Z0W C0 s.under := fun g cells hg => by cases hg
 refine (callsIn_wide (n := 0)).1 (callsIn_of_wp_marks Try.func78 rfl trivial ?_ rfl)
 refine wpIn_wide.2 ?_
 have hQ : ∀ e σ a' w ι, Aft s.under 12 { tmps := #[Value.int .u64 a, Value.int .u64 b] ++ Array.replicate (12 - 2) undef, defers := [] } e σ a' w ι → e 4 = u64v (Int.gcd a b) →
   bodyPostM Fence.wide 0 Try.prog Try.f78 (fun en w' => ∃ v, en = .returned v ∧ ∃ σ', Post s.under (u64v (Int.gcd a b)) σ' v w') .ret a' w := by
  intro e σ a' w ι ht h4
  exact leaves_ok (X := C0) (fu := Try.f78) (xs := [e 4]) rfl ht rfl fun v w' hp => ⟨v, rfl, σ, by rw [← h4]; exact hp⟩
 refine wp_seq ?_
 refine wp_mono (Z6V (X := C0) (s := s.under) c0_ok (fn := 78) hG hiu he (Q := fun ex e' σ' => ex = .normal ∧ e' 0 = u64v a ∧ e' 1 = u64v b) ?_) ?_
 ·show Runs C0 12 78 _ _ ⟨0, fun _ => .none⟩ _
  repeat' first
   | (apply Ops.moveV; exact rfl; exact rfl)
   | (apply Ops.int; exact rfl; exact rfl; exact rfl; exact rfl; exact rfl)
   | (apply Ops.Z7r; exact rfl; exact rfl)
   | apply Runs.then
   | (apply Runs.region; exact rfl)
   | apply Ops.nil
   | (apply Ops.extract; exact rfl; exact rfl; exact rfl)
   | (apply Ops.moveT; exact rfl; exact rfl)
   | (apply Ops.moveA; exact rfl; exact rfl)
   | (apply Ops.Z7e; exact rfl; exact rfl)
   | (apply Ops.not; exact rfl; exact rfl)
   | (apply Ops.neg; exact rfl; exact rfl)
   | (apply Ops.conv; exact rfl; exact rfl; exact rfl; exact rfl)
   | (apply Ops.shr; exact rfl; exact rfl; decide; exact rfl)
   | (apply Ops.shl; exact rfl; exact rfl; decide; exact rfl)
   | (apply Ops.neB; exact rfl; exact rfl; exact rfl; exact rfl)
   | (apply Ops.eqB; exact rfl; exact rfl; exact rfl; exact rfl)
   | (apply Ops.pickTV; exact rfl; exact rfl; exact rfl)
   | (apply Ops.pickFV; exact rfl; exact rfl; exact rfl)
   | (apply Ops.want; exact rfl; exact rfl)
   | (apply Ops.pass; exact rfl; exact rfl; exact rfl)
   | (apply Ops.Z24; exact rfl; exact rfl; exact rfl)
   | (apply Runs.drawn; kernel_rfl; exact rfl)
   | apply Runs.inBlock
   | (apply Ops.knownT; exact rfl; exact rfl; assumption)
   | (apply Ops.knownF; exact rfl; exact rfl; assumption)
   | (refine Ops.split rfl rfl ?_ ?_ <;> intro _)
   | (apply Runs.yes; exact rfl)
   | (apply Runs.no; exact rfl)
   | (apply Runs.yesB; exact rfl; assumption)
   | (apply Runs.noB; exact rfl; assumption)
   | (refine Runs.whether rfl ?_ ?_ <;> intro _)
   | apply Runs.skip
   | apply Runs.ret
   | apply Runs.exit
   | (apply Ends.ret; exact rfl; exact rfl)
   | (apply Ends.normal; exact rfl; exact rfl)
  all_goals exact ⟨rfl, rfl, rfl⟩
 rintro ex a1 w1 ⟨x1, e1, σ1, ι1, ⟨rfl, k0, k1⟩, rfl, ht⟩
 have ht' : Aft s.under 12 { tmps := #[Value.int .u64 a, Value.int .u64 b] ++ Array.replicate (12 - 2) undef, defers := [] } (set (set e1 0 (u64v a)) 1 (u64v b)) σ1 a1 w1 ι1 := by
  rw [← Z53 k0, ← Z53 k1]
  exact ht
 simp only [Ex.out, Exit.then]
 refine wp_scope_jumps 0 (gcdJ s.under { tmps := #[Value.int .u64 a, Value.int .u64 b] ++ Array.replicate (12 - 2) undef, defers := [] } (Int.gcd a b)) (fun a' _ => uOf (a'.tmps.getD 1 Go.undef)) rfl ?_ ?_
 ·refine wp_seq (wp_label ?_)
  refine wp_mono (gcd_loop ?_ ?_ hQ a1 w1 ⟨e1, σ1, ι1, a, b, ht', ha, hb, rfl⟩) fun ex a2 w2 hh => ?_
  ·intro e x y m ent
   repeat' first
    | (apply Ops.moveV; exact rfl; exact rfl)
    | (apply Ops.int; exact rfl; exact rfl; exact rfl; exact rfl; exact rfl)
    | (apply Ops.Z7r; exact rfl; exact rfl)
    | apply Runs.then
    | (apply Runs.region; exact rfl)
    | apply Ops.nil
    | (apply Ops.extract; exact rfl; exact rfl; exact rfl)
    | (apply Ops.moveT; exact rfl; exact rfl)
    | (apply Ops.moveA; exact rfl; exact rfl)
    | (apply Ops.Z7e; exact rfl; exact rfl)
    | (apply Ops.not; exact rfl; exact rfl)
    | (apply Ops.neg; exact rfl; exact rfl)
    | (apply Ops.conv; exact rfl; exact rfl; exact rfl; exact rfl)
    | (apply Ops.shr; exact rfl; exact rfl; decide; exact rfl)
    | (apply Ops.shl; exact rfl; exact rfl; decide; exact rfl)
    | (apply Ops.neB; exact rfl; exact rfl; exact rfl; exact rfl)
    | (apply Ops.eqB; exact rfl; exact rfl; exact rfl; exact rfl)
    | (apply Ops.pickTV; exact rfl; exact rfl; exact rfl)
    | (apply Ops.pickFV; exact rfl; exact rfl; exact rfl)
    | (apply Ops.want; exact rfl; exact rfl)
    | (apply Ops.pass; exact rfl; exact rfl; exact rfl)
    | (apply Ops.Z24; exact rfl; exact rfl; exact rfl)
    | (apply Runs.drawn; kernel_rfl; exact rfl)
    | apply Runs.inBlock
    | (apply Ops.knownT; exact rfl; exact rfl; assumption)
    | (apply Ops.knownF; exact rfl; exact rfl; assumption)
    | (refine Ops.split rfl rfl ?_ ?_ <;> intro _)
    | (apply Runs.yes; exact rfl)
    | (apply Runs.no; exact rfl)
    | (apply Runs.yesB; exact rfl; assumption)
    | (apply Runs.noB; exact rfl; assumption)
    | (refine Runs.whether rfl ?_ ?_ <;> intro _)
    | apply Runs.skip
    | apply Runs.ret
    | apply Runs.exit
    | (apply Ends.ret; exact rfl; exact rfl)
    | (apply Ends.normal; exact rfl; exact rfl)
   ·rename_i h
    exact .inl ⟨eq_of_beq h, rfl, rfl⟩
   ·rename_i h
    exact .inr ⟨ne_of_beq_false h, rfl, rfl, rfl⟩
  ·intro e x y m ent hy
   repeat' first
    | (apply Ops.moveV; exact rfl; exact rfl)
    | (apply Ops.int; exact rfl; exact rfl; exact rfl; exact rfl; exact rfl)
    | (apply Ops.Z7r; exact rfl; exact rfl)
    | apply Runs.then
    | (apply Runs.region; exact rfl)
    | apply Ops.nil
    | (apply Ops.extract; exact rfl; exact rfl; exact rfl)
    | (apply Ops.moveT; exact rfl; exact rfl)
    | (apply Ops.moveA; exact rfl; exact rfl)
    | (apply Ops.Z7e; exact rfl; exact rfl)
    | (apply Ops.not; exact rfl; exact rfl)
    | (apply Ops.neg; exact rfl; exact rfl)
    | (apply Ops.conv; exact rfl; exact rfl; exact rfl; exact rfl)
    | (apply Ops.shr; exact rfl; exact rfl; decide; exact rfl)
    | (apply Ops.shl; exact rfl; exact rfl; decide; exact rfl)
    | (apply Ops.neB; exact rfl; exact rfl; exact rfl; exact rfl)
    | (apply Ops.eqB; exact rfl; exact rfl; exact rfl; exact rfl)
    | (apply Ops.pickTV; exact rfl; exact rfl; exact rfl)
    | (apply Ops.pickFV; exact rfl; exact rfl; exact rfl)
    | (apply Ops.want; exact rfl; exact rfl)
    | (apply Ops.pass; exact rfl; exact rfl; exact rfl)
    | (apply Ops.Z24; exact rfl; exact rfl; exact rfl)
    | (apply Runs.drawn; kernel_rfl; exact rfl)
    | apply Runs.inBlock
    | refine Ops.rem rfl rfl hy rfl ?_
    | (apply Ops.knownT; exact rfl; exact rfl; assumption)
    | (apply Ops.knownF; exact rfl; exact rfl; assumption)
    | (refine Ops.split rfl rfl ?_ ?_ <;> intro _)
    | (apply Runs.yes; exact rfl)
    | (apply Runs.no; exact rfl)
    | (apply Runs.yesB; exact rfl; assumption)
    | (apply Runs.noB; exact rfl; assumption)
    | (refine Runs.whether rfl ?_ ?_ <;> intro _)
    | apply Runs.skip
    | apply Runs.ret
    | apply Runs.exit
    | (apply Ends.ret; exact rfl; exact rfl)
    | (apply Ends.normal; exact rfl; exact rfl)
   all_goals exact ⟨rfl, rfl, rfl⟩
  ·cases ex <;> first | exact hh | exact ⟨hh.1, hh.2.1⟩
 ·intro a2 w2 hj
  refine wp_seq (wp_skip ?_)
  refine gcd_loop ?_ ?_ hQ a2 w2 hj
  ·intro e x y m ent
   repeat' first
    | (apply Ops.moveV; exact rfl; exact rfl)
    | (apply Ops.int; exact rfl; exact rfl; exact rfl; exact rfl; exact rfl)
    | (apply Ops.Z7r; exact rfl; exact rfl)
    | apply Runs.then
    | (apply Runs.region; exact rfl)
    | apply Ops.nil
    | (apply Ops.extract; exact rfl; exact rfl; exact rfl)
    | (apply Ops.moveT; exact rfl; exact rfl)
    | (apply Ops.moveA; exact rfl; exact rfl)
    | (apply Ops.Z7e; exact rfl; exact rfl)
    | (apply Ops.not; exact rfl; exact rfl)
    | (apply Ops.neg; exact rfl; exact rfl)
    | (apply Ops.conv; exact rfl; exact rfl; exact rfl; exact rfl)
    | (apply Ops.shr; exact rfl; exact rfl; decide; exact rfl)
    | (apply Ops.shl; exact rfl; exact rfl; decide; exact rfl)
    | (apply Ops.neB; exact rfl; exact rfl; exact rfl; exact rfl)
    | (apply Ops.eqB; exact rfl; exact rfl; exact rfl; exact rfl)
    | (apply Ops.pickTV; exact rfl; exact rfl; exact rfl)
    | (apply Ops.pickFV; exact rfl; exact rfl; exact rfl)
    | (apply Ops.want; exact rfl; exact rfl)
    | (apply Ops.pass; exact rfl; exact rfl; exact rfl)
    | (apply Ops.Z24; exact rfl; exact rfl; exact rfl)
    | (apply Runs.drawn; kernel_rfl; exact rfl)
    | apply Runs.inBlock
    | (apply Ops.knownT; exact rfl; exact rfl; assumption)
    | (apply Ops.knownF; exact rfl; exact rfl; assumption)
    | (refine Ops.split rfl rfl ?_ ?_ <;> intro _)
    | (apply Runs.yes; exact rfl)
    | (apply Runs.no; exact rfl)
    | (apply Runs.yesB; exact rfl; assumption)
    | (apply Runs.noB; exact rfl; assumption)
    | (refine Runs.whether rfl ?_ ?_ <;> intro _)
    | apply Runs.skip
    | apply Runs.ret
    | apply Runs.exit
    | (apply Ends.ret; exact rfl; exact rfl)
    | (apply Ends.normal; exact rfl; exact rfl)
   ·rename_i h
    exact .inl ⟨eq_of_beq h, rfl, rfl⟩
   ·rename_i h
    exact .inr ⟨ne_of_beq_false h, rfl, rfl, rfl⟩
  ·intro e x y m ent hy
   repeat' first
    | (apply Ops.moveV; exact rfl; exact rfl)
    | (apply Ops.int; exact rfl; exact rfl; exact rfl; exact rfl; exact rfl)
    | (apply Ops.Z7r; exact rfl; exact rfl)
    | apply Runs.then
    | (apply Runs.region; exact rfl)
    | apply Ops.nil
    | (apply Ops.extract; exact rfl; exact rfl; exact rfl)
    | (apply Ops.moveT; exact rfl; exact rfl)
    | (apply Ops.moveA; exact rfl; exact rfl)
    | (apply Ops.Z7e; exact rfl; exact rfl)
    | (apply Ops.not; exact rfl; exact rfl)
    | (apply Ops.neg; exact rfl; exact rfl)
    | (apply Ops.conv; exact rfl; exact rfl; exact rfl; exact rfl)
    | (apply Ops.shr; exact rfl; exact rfl; decide; exact rfl)
    | (apply Ops.shl; exact rfl; exact rfl; decide; exact rfl)
    | (apply Ops.neB; exact rfl; exact rfl; exact rfl; exact rfl)
    | (apply Ops.eqB; exact rfl; exact rfl; exact rfl; exact rfl)
    | (apply Ops.pickTV; exact rfl; exact rfl; exact rfl)
    | (apply Ops.pickFV; exact rfl; exact rfl; exact rfl)
    | (apply Ops.want; exact rfl; exact rfl)
    | (apply Ops.pass; exact rfl; exact rfl; exact rfl)
    | (apply Ops.Z24; exact rfl; exact rfl; exact rfl)
    | (apply Runs.drawn; kernel_rfl; exact rfl)
    | apply Runs.inBlock
    | refine Ops.rem rfl rfl hy rfl ?_
    | (apply Ops.knownT; exact rfl; exact rfl; assumption)
    | (apply Ops.knownF; exact rfl; exact rfl; assumption)
    | (refine Ops.split rfl rfl ?_ ?_ <;> intro _)
    | (apply Runs.yes; exact rfl)
    | (apply Runs.no; exact rfl)
    | (apply Runs.yesB; exact rfl; assumption)
    | (apply Runs.noB; exact rfl; assumption)
    | (refine Runs.whether rfl ?_ ?_ <;> intro _)
    | apply Runs.skip
    | apply Runs.ret
    | apply Runs.exit
    | (apply Ends.ret; exact rfl; exact rfl)
    | (apply Ends.normal; exact rfl; exact rfl)
   all_goals exact ⟨rfl, rfl, rfl⟩
set_option maxRecDepth 100000 in
theorem cloneT38 : CloneT Try.prog 37 59 2 16 [.v (.int .i64 0), .v (.int .i64 0)] := ⟨rfl, rfl, rfl, rfl, rfl⟩
theorem pvrs_one' {s : St} {x : PV} {vs : Array Value} (h : PVRs s [x] vs) : ∃ v, vs = #[v] ∧ PVR s x v := by
 obtain ⟨hl, hx⟩ := h
 have : vs.size = 1 := hl.symm
 refine ⟨vs.getD 0 Go.undef, ?_, hx 0 x rfl⟩
 apply Array.ext
 ·simpa using this
 ·intro i h1 h2
  have : i = 0 := by simp at h2; omega
  subst this
  simp [Array.getD, h1]
theorem ca_ok : CtxOK CA := by
 refine ⟨prog_ok, fun f args r h s hi hG vs hv hp => ?_⟩
 simp only [CA] at h
 split at h
 ·rename_i hf
  subst hf
  refine ⟨prog_call 78 _ _ _ Try.func78 rfl, ?_⟩
  unfold gcdV at h
  split at h
  ·rename_i a b
   split at h
   ·rename_i hab
    cases h
    obtain ⟨v0, v1, rfl, h0, h1⟩ := pvrs_two hv
    obtain rfl := Z1v h0
    obtain rfl := Z1v h1
    exact intr_under hi rfl (gcd_calls hi hab.1 hab.2)
   ·cases h
  ·cases h
 split at h
 ·rename_i hf
  subst hf
  refine ⟨prog_call 38 _ _ _ Try.func38 rfl, ?_⟩
  unfold cloneV at h
  split at h
  ·split at h
   ·rename_i xs hx
    cases h
    obtain ⟨v, rfl, hv1⟩ := pvrs_one' hv
    exact clone_calls (X := C0) (b := 4) c0_ok Try.func38 rfl rfl rfl (fun _ => rfl) cloneT38 hi hx.1 hx.2 hv1
   ·cases h
  ·cases h
 cases h
noncomputable def CX : Ctx := { P := Try.prog, glob := fun _ => none, intr := fun f args => CA.intr f args, opn := fun f => f == 31 || f == 54 || f == 63 || f == 65 || f == 95, keep := fun f => f == 63 }
theorem cx_ok : CtxOK CX := by
 refine ⟨prog_ok, fun f args r h s hi hG vs hv hp => ?_⟩
 simp only [CX] at h
 exact ca_ok.intr f args r h s hi hG vs hv hp
theorem cx_intr38 (args : List PV) : CX.intr 38 args = cloneV 2 16 args := rfl
theorem cx_intr78 (args : List PV) : CX.intr 78 args = gcdV args := rfl
end Go.Dn

namespace Go.Dn
open Go
noncomputable section
structure Span where
 From : Int
 To : Int
 deriving DecidableEq
def Span.cs (x : Span) : List FV := [(.int .i64 x.From), (.int .i64 x.To)]
def Span.ok (x : Span) : Prop := okI .i64 x.From ∧ okI .i64 x.To
structure Granule where
 Index : Int
 Ticks : (List Span)
 deriving DecidableEq
def Granule.cs (x : Granule) : List FV := [(.int .i64 x.Index), (.sl (x.Ticks.map Span.cs))]
def Granule.ok (x : Granule) : Prop := okI .i64 x.Index ∧ okL 16 Span.ok x.Ticks
structure Form where
 Period : Int
 Count : Int
 Core : (List (List Span))
 Odd : (List Granule)
 deriving DecidableEq
def Form.cs (x : Form) : List FV := [(.int .i64 x.Period), (.int .i64 x.Count), (.sl (x.Core.map (cL Span.cs))), (.sl (x.Odd.map Granule.cs))]
def Form.ok (x : Form) : Prop := okI .i64 x.Period ∧ okI .i64 x.Count ∧ okL 24 (okL 16 Span.ok) x.Core ∧ okL 32 Granule.ok x.Odd
structure Bound where
 Inf : Int
 N : Int
 deriving DecidableEq
def Bound.cs (x : Bound) : List FV := [(.int .i8 x.Inf), (.int .i64 x.N)]
def Bound.ok (x : Bound) : Prop := okI .i8 x.Inf ∧ okI .i64 x.N
structure Arr9_u32 where
 d0 : Int
 d1 : Int
 d2 : Int
 d3 : Int
 d4 : Int
 d5 : Int
 d6 : Int
 d7 : Int
 d8 : Int
 deriving DecidableEq
def Arr9_u32.cs (x : Arr9_u32) : List FV := [(.int .u32 x.d0), (.int .u32 x.d1), (.int .u32 x.d2), (.int .u32 x.d3), (.int .u32 x.d4), (.int .u32 x.d5), (.int .u32 x.d6), (.int .u32 x.d7), (.int .u32 x.d8)]
def Arr9_u32.ok (x : Arr9_u32) : Prop := okI .u32 x.d0 ∧ okI .u32 x.d1 ∧ okI .u32 x.d2 ∧ okI .u32 x.d3 ∧ okI .u32 x.d4 ∧ okI .u32 x.d5 ∧ okI .u32 x.d6 ∧ okI .u32 x.d7 ∧ okI .u32 x.d8
structure epactref01_long where
 minus : Bool
 digits : Arr9_u32
 deriving DecidableEq
def epactref01_long.cs (x : epactref01_long) : List FV := [(.bool x.minus), (.int .u32 x.digits.d0), (.int .u32 x.digits.d1), (.int .u32 x.digits.d2), (.int .u32 x.digits.d3), (.int .u32 x.digits.d4), (.int .u32 x.digits.d5), (.int .u32 x.digits.d6), (.int .u32 x.digits.d7), (.int .u32 x.digits.d8)]
def epactref01_long.ok (x : epactref01_long) : Prop := okB x.minus ∧ Arr9_u32.ok x.digits
def Z06.s0 (f : Form) (s1 : Int × Int) : Option ((Int × Int) ⊕ (Int)) :=
 (bif (decide (s1.2 < (f.Core.length : Int))) then
  (at? f.Core s1.2).bind fun x1 =>
  some (.inl ((w64 (s1.1 + (x1.length : Int))), (w64 (s1.2 + 1))))
 else
  some (.inr s1.1))
def Z06.s1 (f : Form) (s2 : Int × Int) : Option ((Int × Int) ⊕ (Int)) :=
 (bif (decide (s2.2 < (f.Odd.length : Int))) then
  (at? f.Odd s2.2).bind fun x2 =>
  some (.inl ((w64 (s2.1 + (x2.Ticks.length : Int))), (w64 (s2.2 + 1))))
 else
  some (.inr s2.1))
def Z06 (f : Form) : Option (Int) :=
 (ZM (Z06.s0 f) (0, 0)).bind fun (y1 : Int) =>
 (ZM (Z06.s1 f) (y1, 0)).bind fun (y2 : Int) =>
 some y2
def Z0q (f : Form) : Option (Bool) :=
 (
  (bif ((decide ((f.Core.length : Int) ≤ 12)) && (decide ((f.Odd.length : Int) ≤ 8))) then
   (Z06 f).bind fun x1 =>
   some (decide (x1 ≤ 60))
  else
   some false)).bind fun (y1 : Bool) =>
 some y1
def ZW (t : Int) : Bool :=
 ((decide (t ≥ (-1099511627776))) && (decide (t ≤ 1099511627776)))
def Z09.s0 (l : (List Span)) (s1 : Int) : Option ((Int) ⊕ (Jx (Unit) (Bool))) :=
 (bif (decide (s1 < (l.length : Int))) then
  (at? l s1).bind fun x1 =>
  (
   (bif (((!(ZW x1.From)) || (!(ZW x1.To))) || (decide (x1.From > x1.To))) then
    some true
   else
    (
     (bif (decide (s1 > 0)) then
      (at? l (w64 (s1 - 1))).bind fun x2 =>
      some (decide (x1.From < (w64 (x2.To + 2))))
     else
      some false)).bind fun (y3 : Bool) =>
    some y3)).bind fun (y2 : Bool) =>
  (bif y2 then
   some (.inr (.ret false))
  else
   some (.inl (w64 (s1 + 1))))
 else
  some (.inr (.go ())))
def Z09 (l : (List Span)) : Option (Bool) :=
 (ZM (Z09.s0 l) 0).bind fun (y1 : Jx (Unit) (Bool)) =>
 y1.elim (fun r' =>
   some r') fun a2 =>
 some true
def Zo (i : Int) : Bool :=
 ((decide (i ≥ (-1099511627776))) && (decide (i ≤ 1099511627776)))
def Zm.s0 (f : Form) (s1 : Int) : Option ((Int) ⊕ (Jx (Unit) (Bool))) :=
 (bif (decide (s1 < (f.Core.length : Int))) then
  (at? f.Core s1).bind fun x1 =>
  (Z09 x1).bind fun x2 =>
  (bif (!x2) then
   some (.inr (.ret false))
  else
   some (.inl (w64 (s1 + 1))))
 else
  some (.inr (.go ())))
def Zm.s1 (f : Form) (s2 : Int) : Option ((Int) ⊕ (Jx (Unit) (Bool))) :=
 (bif (decide (s2 < (f.Odd.length : Int))) then
  (at? f.Odd s2).bind fun x3 =>
  (Z09 x3.Ticks).bind fun x4 =>
  (
   (bif ((!x4) || (!(Zo x3.Index))) then
    some true
   else
    (
     (bif (decide (s2 > 0)) then
      (at? f.Odd (w64 (s2 - 1))).bind fun x5 =>
      some (decide (x3.Index ≤ x5.Index))
     else
      some false)).bind fun (y4 : Bool) =>
    some y4)).bind fun (y3 : Bool) =>
  (bif y3 then
   some (.inr (.ret false))
  else
   some (.inl (w64 (s2 + 1))))
 else
  some (.inr (.go ())))
def Zm (f : Form) : Option (Bool) :=
 (bif ((((f.Count != (f.Core.length : Int)) || ((f.Count == 0) != (f.Period == 0))) || (decide (f.Period < 0))) || (decide (f.Period > 1099511627776))) then
  some false
 else
  (ZM (Zm.s0 f) 0).bind fun (y1 : Jx (Unit) (Bool)) =>
  y1.elim (fun r' =>
    some r') fun a2 =>
  (ZM (Zm.s1 f) 0).bind fun (y2 : Jx (Unit) (Bool)) =>
  y2.elim (fun r' =>
    some r') fun a4 =>
  some true)
def Z0C.s0 (f : Form) (s2 : Int × (List (List Span))) : Option ((Int × (List (List Span))) ⊕ ((List (List Span)))) :=
 (bif (decide (s2.1 < (f.Core.length : Int))) then
  (
   (
    (at? f.Core s2.1).bind fun x1 =>
    (bif (decide ((x1.length : Int) > 0)) then
     (app? 24 s2.2 [x1]).bind fun x2 =>
     some x2
    else
     some s2.2)).bind fun (y3 : (List (List Span))) =>
   some y3).bind fun (y2 : (List (List Span))) =>
  some (.inl ((w64 (s2.1 + 1)), y2))
 else
  some (.inr s2.2))
def Z0C.s1 (f : Form) (y1 : (List (List Span))) (s3 : Int) : Option ((Int) ⊕ (Jx (Unit) (Bool))) :=
 (bif (decide (s3 < (y1.length : Int))) then
  (
   (
    (at? y1 s3).bind fun x3 =>
    (nz? (y1.length : Int)).bind fun u1 =>
    (at? y1 ((w64 (s3 + 1)).tmod (y1.length : Int))).bind fun x4 =>
    (
     (bif ((w64 (s3 + 1)) == (y1.length : Int)) then
      some f.Period
     else
      some 0)).bind fun (y7 : Int) =>
    (at? x3 (w64 ((x3.length : Int) - 1))).bind fun x5 =>
    (at? x4 0).bind fun x6 =>
    (bif (decide (x5.To ≥ (w64 (x6.From + y7)))) then
     some (.ret false)
    else
     some (.go ()))).bind fun (y6 : Jx (Unit) (Bool)) =>
   y6.elim (fun r' =>
     some (.ret r')) fun a4 =>
   some (.go ())).bind fun (y5 : Jx (Unit) (Bool)) =>
  y5.elim (fun r' =>
    some (.inr (.ret r'))) fun a5 =>
  some (.inl (w64 (s3 + 1)))
 else
  some (.inr (.go ())))
def Z0C (f : Form) : Option (Bool) :=
 (ZM (Z0C.s0 f) (0, [])).bind fun (y1 : (List (List Span))) =>
 (ZM (Z0C.s1 f y1) 0).bind fun (y4 : Jx (Unit) (Bool)) =>
 y4.elim (fun r' =>
   some r') fun a6 =>
 some true
def Z6.s0 (x' : (List Granule)) (target : Int) (cmp : Granule → Int → Option Int) (s1 : Int × Int) : Option ((Int × Int) ⊕ (Int)) :=
 (bif (decide (s1.1 < s1.2)) then
  (
   (at? x' (w64 ((IntKind.u64.wrap (w64 (s1.1 + s1.2))).fdiv (2 ^ 1)))).bind fun x1 =>
   (cmp x1 target).bind fun x2 =>
   (bif (decide (x2 < 0)) then
    some ((w64 ((w64 ((IntKind.u64.wrap (w64 (s1.1 + s1.2))).fdiv (2 ^ 1))) + 1)), s1.2)
   else
    some (s1.1, (w64 ((IntKind.u64.wrap (w64 (s1.1 + s1.2))).fdiv (2 ^ 1)))))).bind fun (y2 : Int × Int) =>
  some (.inl (y2.1, y2.2))
 else
  some (.inr s1.1))
def Z6 (x' : (List Granule)) (target : Int) (cmp : Granule → Int → Option Int) : Option (Int × Bool) :=
 (ZM (Z6.s0 x' target cmp) (0, (x'.length : Int))).bind fun (y1 : Int) =>
 (
  (bif (decide (y1 < (x'.length : Int))) then
   (at? x' y1).bind fun x3 =>
   (cmp x3 target).bind fun x4 =>
   some (x4 == 0)
  else
   some false)).bind fun (y3 : Bool) =>
 some (y1, y3)
def Z01 (x' : Int) : Bool :=
 (x' != x')
def Z0Z (x' : Int) (y : Int) : Int :=
 (bif (Z01 x') then
  (bif (Z01 y) then
   0
  else
   (-1))
 else
  (bif (Z01 y) then
   1
  else
   (bif (decide (x' < y)) then
    (-1)
   else
    (bif (decide (x' > y)) then
     1
    else
     0))))
def Z2y (g : Granule) (i : Int) : Int :=
 (Z0Z g.Index i)
def Z3t (f : Form) (i : Int) : Option (Int × Bool) :=
 (Z6 f.Odd i (fun z0 z1 => some (Z2y z0 z1))).bind fun x1 =>
 some (x1.1, x1.2)
def Z0j (a : Int) (b : Int) : Option (Int × Int × Int) :=
 (bif (b == 0) then
  some (0, 0, 11)
 else
  (bif ((b == (-1)) && (a == (-9223372036854775808))) then
   some (0, 0, 10)
  else
   (nz? b).bind fun u1 =>
   (nz? b).bind fun u2 =>
   (
    (bif (((a.tmod b) != 0) && ((decide ((a.tmod b) < 0)) != (decide (b < 0)))) then
     some ((w64 ((w64 (a.tdiv b)) - 1)), (w64 ((a.tmod b) + b)))
    else
     some ((w64 (a.tdiv b)), (a.tmod b)))).bind fun (y1 : Int × Int) =>
   some (y1.1, y1.2, 0)))
def Z2 (a : Int) : Int :=
 (bif (decide (a < 0)) then
  (IntKind.u64.wrap (0 - (IntKind.u64.wrap a)))
 else
  (IntKind.u64.wrap a))
def Z4 (x' : Int) (y : Int) : Int × Int :=
 ((IntKind.u64.wrap ((IntKind.u64.wrap ((IntKind.u64.wrap ((x'.fdiv (2 ^ 32)) * (y.fdiv (2 ^ 32)))) + ((IntKind.u64.wrap ((IntKind.u64.wrap ((x'.fdiv (2 ^ 32)) * (iAnd .u64 y 4294967295))) + ((IntKind.u64.wrap ((iAnd .u64 x' 4294967295) * (iAnd .u64 y 4294967295))).fdiv (2 ^ 32)))).fdiv (2 ^ 32)))) + ((IntKind.u64.wrap ((iAnd .u64 (IntKind.u64.wrap ((IntKind.u64.wrap ((x'.fdiv (2 ^ 32)) * (iAnd .u64 y 4294967295))) + ((IntKind.u64.wrap ((iAnd .u64 x' 4294967295) * (iAnd .u64 y 4294967295))).fdiv (2 ^ 32)))) 4294967295) + (IntKind.u64.wrap ((iAnd .u64 x' 4294967295) * (y.fdiv (2 ^ 32)))))).fdiv (2 ^ 32)))), (IntKind.u64.wrap (x' * y)))
def ZX (n : Int) (minus : Bool) : Int × Int :=
 (bif (minus && (decide (n ≤ 9223372036854775808))) then
  ((w64 (IntKind.u64.wrap (0 - n))), 0)
 else
  (bif ((!minus) && (decide (n ≤ 9223372036854775807))) then
   ((w64 n), 0)
  else
   (0, 10)))
def Z9 (a : Int) (b : Int) : Int × Int :=
 (bif (((Z4 (Z2 a) (Z2 b)).1) != 0) then
  (0, 10)
 else
  ((ZX ((Z4 (Z2 a) (Z2 b)).2) ((decide (a < 0)) != (decide (b < 0)))).1, (ZX ((Z4 (Z2 a) (Z2 b)).2) ((decide (a < 0)) != (decide (b < 0)))).2))
def Z29 (f : Form) (i : Int) : Option ((List Span) × Int × Int) :=
 (Z3t f i).bind fun x1 =>
 (bif x1.2 then
  (at? f.Odd x1.1).bind fun x2 =>
  some (x2.Ticks, 0, 0)
 else
  (bif (f.Count == 0) then
   some ([], 0, 0)
  else
   (Z0j i f.Count).bind fun x3 =>
   (at? f.Core x3.2.1).bind fun x4 =>
   some (x4, (Z9 x3.1 f.Period).1, (Z9 x3.1 f.Period).2)))
def ZA (a : Int) (b : Int) : Int × Int :=
 (bif (((decide ((w64 (a + b)) > a)) != (decide (b > 0))) && (b != 0)) then
  (0, 10)
 else
  ((w64 (a + b)), 0))
def Z0E.s0 (l : (List Span)) (by' : Int) (s2 : Int × (List Span)) : Option ((Int × (List Span)) ⊕ (Jx ((List Span)) ((List Span) × Int))) :=
 (bif (decide (s2.1 < (l.length : Int))) then
  (at? l s2.1).bind fun x1 =>
  (bif ((((((ZA x1.From by').2) != 0) || (((ZA x1.To by').2) != 0)) || (!(ZW ((ZA x1.From by').1)))) || (!(ZW ((ZA x1.To by').1)))) then
   some (.inr (.ret ([], 20)))
  else
   (app? 16 s2.2 [(Span.mk ((ZA x1.From by').1) ((ZA x1.To by').1))]).bind fun x2 =>
   some (.inl ((w64 (s2.1 + 1)), x2)))
 else
  some (.inr (.go s2.2)))
def Z0E (l : (List Span)) (by' : Int) : Option ((List Span) × Int) :=
 (ZM (Z0E.s0 l by') (0, [])).bind fun (y1 : Jx ((List Span)) ((List Span) × Int)) =>
 y1.elim (fun r' =>
   some r') fun a2 =>
 some (a2, 0)
def Z0B (f : Form) (i : Int) : Option ((List Span) × Int) :=
 (bif (!(Zo i)) then
  some ([], 20)
 else
  (Z29 f i).bind fun x1 =>
  (bif ((x1.1.length : Int) == 0) then
   some ([], 0)
  else
   (bif (x1.2.2 != 0) then
    some ([], 20)
   else
    (Z0E x1.1 x1.2.1).bind fun x2 =>
    some (x2.1, x2.2))))
def ZE.s0 (s : (List (List Span))) (f : (List Span) → Option Bool) (s1 : Int) : Option ((Int) ⊕ (Jx (Unit) (Int))) :=
 (bif (decide (s1 < (s.length : Int))) then
  (at? s s1).bind fun x1 =>
  (f x1).bind fun x2 =>
  (bif x2 then
   some (.inr (.ret s1))
  else
   some (.inl (w64 (s1 + 1))))
 else
  some (.inr (.go ())))
def ZE (s : (List (List Span))) (f : (List Span) → Option Bool) : Option (Int) :=
 (ZM (ZE.s0 s f) 0).bind fun (y1 : Jx (Unit) (Int)) =>
 y1.elim (fun r' =>
   some r') fun a2 =>
 some (-1)
def Za (s : (List (List Span))) (f : (List Span) → Option Bool) : Option (Bool) :=
 (ZE s f).bind fun x1 =>
 some (decide (x1 ≥ 0))
def Z3o (l : (List Span)) : Bool :=
 (decide ((l.length : Int) > 0))
def Z2b (f : Form) : Option (Bool) :=
 (Za f.Core (fun z0 => some (Z3o z0))).bind fun x1 =>
 some (!x1)
def Z3U (f : Form) (i : Int) : Option (Bool) :=
 (Z29 f i).bind fun x1 =>
 some (decide ((x1.1.length : Int) > 0))
def Zu.s0 (f : Form) (by' : Int) (s1 : Int) : Option ((Int) ⊕ (Jx (Unit) (Int × Bool))) :=
 (bif ((decide (s1 ≥ 0)) && (decide (s1 < (f.Odd.length : Int)))) then
  (at? f.Odd s1).bind fun x3 =>
  (bif (decide ((x3.Ticks.length : Int) > 0)) then
   (at? f.Odd s1).bind fun x4 =>
   some (.inr (.ret (x4.Index, true)))
  else
   some (.inl (w64 (s1 + by'))))
 else
  some (.inr (.go ())))
def Zu.s1 (f : Form) (by' : Int) (s2 : Int) : Option ((Int) ⊕ (Jx (Unit) (Int × Bool))) :=
 (bif (Zo s2) then
  (Z3U f s2).bind fun x5 =>
  (bif x5 then
   some (.inr (.ret (s2, true)))
  else
   some (.inl (w64 (s2 + by'))))
 else
  some (.inr (.go ())))
def Zu (f : Form) (from' : Int) (by' : Int) : Option (Int × Bool) :=
 (Z2b f).bind fun x1 =>
 (bif x1 then
  (Z3t f from').bind fun x2 =>
  (
   (bif ((decide (by' < 0)) && (!x2.2)) then
    some (w64 (x2.1 - 1))
   else
    some x2.1)).bind fun (y1 : Int) =>
  (ZM (Zu.s0 f by') y1).bind fun (y2 : Jx (Unit) (Int × Bool)) =>
  y2.elim (fun r' =>
    some r') fun a2 =>
  some (0, false)
 else
  (ZM (Zu.s1 f by') from').bind fun (y3 : Jx (Unit) (Int × Bool)) =>
  y3.elim (fun r' =>
    some r') fun a4 =>
  some (0, false))
def Z18 (f : Form) (i : Int) : Option (Int × Bool) :=
 (bif (decide (i ≤ (-1099511627776))) then
  some (0, false)
 else
  (Zu f (iMin (w64 (i - 1)) 1099511627776) (-1)).bind fun x1 =>
  some (x1.1, x1.2))
def Z0u (f : Form) (i : Int) : Option (Int × Bool) :=
 (bif (decide (i ≥ 1099511627776)) then
  some (0, false)
 else
  (Zu f (iMax (w64 (i + 1)) (-1099511627776)) 1).bind fun x1 =>
  some (x1.1, x1.2))
def Z0V (a : (List Span)) (b : (List Span)) : Option (Bool) :=
 (
  (bif (((a.length : Int) == 0) || ((b.length : Int) == 0)) then
   some true
  else
   (at? a (w64 ((a.length : Int) - 1))).bind fun x1 =>
   (at? b 0).bind fun x2 =>
   some (decide (x1.To < x2.From)))).bind fun (y1 : Bool) =>
 some y1
def Z1T (f : Form) (i : Int) : Option (Bool) :=
 (Z0B f i).bind fun x1 =>
 (bif (x1.2 != 0) then
  some false
 else
  (Z18 f i).bind fun x2 =>
  (Z0u f i).bind fun x3 =>
  (
   (bif x2.2 then
    (Z0B f x2.1).bind fun x4 =>
    (bif (x4.2 != 0) then
     some (.ret false)
    else
     some (.go x4.1))
   else
    some (.go []))).bind fun (y1 : Jx ((List Span)) (Bool)) =>
  y1.elim (fun r' =>
    some r') fun a2 =>
  (
   (bif x3.2 then
    (Z0B f x3.1).bind fun x5 =>
    (bif (x5.2 != 0) then
     some (.ret false)
    else
     some (.go x5.1))
   else
    some (.go []))).bind fun (y2 : Jx ((List Span)) (Bool)) =>
  y2.elim (fun r' =>
    some r') fun a4 =>
  (Z0V a2 x1.1).bind fun x6 =>
  (
   (bif x6 then
    (Z0V x1.1 a4).bind fun x7 =>
    some x7
   else
    some false)).bind fun (y3 : Bool) =>
  (
   (bif y3 then
    (Z0V a2 a4).bind fun x8 =>
    some x8
   else
    some false)).bind fun (y4 : Bool) =>
  some y4)
def Z03.s0 (f : Form) (s1 : Int) : Option ((Int) ⊕ (Jx (Unit) (Int))) :=
 (bif (decide (s1 < (f.Odd.length : Int))) then
  (at? f.Odd s1).bind fun x4 =>
  (Z1T f x4.Index).bind fun x5 =>
  (bif (!x5) then
   some (.inr (.ret 50))
  else
   some (.inl (w64 (s1 + 1))))
 else
  some (.inr (.go ())))
def Z03 (f : Form) : Option (Int) :=
 (
  (bif ((decide ((f.Core.length : Int) > 6000)) || (decide ((f.Odd.length : Int) > 6000))) then
   some true
  else
   (Z06 f).bind fun x1 =>
   some (decide (x1 > 60000)))).bind fun (y1 : Bool) =>
 (bif y1 then
  some 3
 else
  (Zm f).bind fun x2 =>
  (
   (bif (!x2) then
    some true
   else
    (Z0C f).bind fun x3 =>
    some (!x3))).bind fun (y2 : Bool) =>
  (bif y2 then
   some 50
  else
   (ZM (Z03.s0 f) 0).bind fun (y3 : Jx (Unit) (Int)) =>
   y3.elim (fun r' =>
     some r') fun a2 =>
   some 0))
def Z3S (f : Form) : Option (Bool) :=
 (Z0q f).bind fun x1 =>
 (
  (bif x1 then
   (Z03 f).bind fun x2 =>
   some (x2 == 0)
  else
   some false)).bind fun (y1 : Bool) =>
 some y1
def Z0d : Bool := true
def ZT.s0 (s1' : (List Span)) (s2' : (List Span)) (s1 : Int) : Option ((Int) ⊕ (Jx (Unit) (Bool))) :=
 (bif (decide (s1 < (s1'.length : Int))) then
  (at? s1' s1).bind fun x1 =>
  (at? s2' s1).bind fun x2 =>
  (bif (!((x1.From == x2.From) && ((x1.To == x2.To) && true))) then
   some (.inr (.ret false))
  else
   some (.inl (w64 (s1 + 1))))
 else
  some (.inr (.go ())))
def ZT (s1' : (List Span)) (s2' : (List Span)) : Option (Bool) :=
 (bif ((s1'.length : Int) != (s2'.length : Int)) then
  some false
 else
  (ZM (ZT.s0 s1' s2') 0).bind fun (y1 : Jx (Unit) (Bool)) =>
  y1.elim (fun r' =>
    some r') fun a2 =>
  some true)
def Z0h (a : (List Span)) (b : (List Span)) : Option (Bool) :=
 (ZT a b).bind fun x1 =>
 some x1
def epactlaw05_FormOrder (f : Form) (i : Int) (k : Int) : Option (Bool) :=
 (Z3S f).bind fun x1 =>
 (bif (!x1) then
  some Z0d
 else
  (Z0B f (iMin i k)).bind fun x2 =>
  (Z0B f (iMax i k)).bind fun x3 =>
  (bif ((x2.2 != 0) || (x3.2 != 0)) then
   some ((((x2.2 == 0) || ((x2.2 == 20) && ((x2.1.length : Int) == 0))) && ((x3.2 == 0) || ((x3.2 == 20) && ((x3.1.length : Int) == 0)))) && Z0d)
  else
   (Z09 x2.1).bind fun x4 =>
   (
    (bif x4 then
     (Z09 x3.1).bind fun x5 =>
     some x5
    else
     some false)).bind fun (y1 : Bool) =>
   (
    (bif y1 then
     (
      (bif ((iMin i k) == (iMax i k)) then
       (Z0h x2.1 x3.1).bind fun x6 =>
       some x6
      else
       some false)).bind fun (y3 : Bool) =>
     (
      (bif y3 then
       some true
      else
       (
        (bif (decide ((iMin i k) < (iMax i k))) then
         (Z0V x2.1 x3.1).bind fun x7 =>
         some x7
        else
         some false)).bind fun (y5 : Bool) =>
       some y5)).bind fun (y4 : Bool) =>
     some y4
    else
     some false)).bind fun (y2 : Bool) =>
   some (y2 && Z0d)))
def Z3L.s0 (f : Form) (i : Int) (s1 : Int) : Option ((Int) ⊕ (Jx (Unit) (Bool))) :=
 (bif (decide (s1 < (f.Odd.length : Int))) then
  (at? f.Odd s1).bind fun x1 =>
  (bif (x1.Index == i) then
   some (.inr (.ret true))
  else
   some (.inl (w64 (s1 + 1))))
 else
  some (.inr (.go ())))
def Z3L (f : Form) (i : Int) : Option (Bool) :=
 (ZM (Z3L.s0 f i) 0).bind fun (y1 : Jx (Unit) (Bool)) =>
 y1.elim (fun r' =>
   some r') fun a2 =>
 some false
def epactlaw05_FormTurns (f : Form) (i : Int) : Option (Bool) :=
 (Z3S f).bind fun x1 =>
 (
  (bif ((!x1) || (f.Count == 0)) then
   some true
  else
   (Z3L f ((w64 i).tmod 1048576)).bind fun x2 =>
   some x2)).bind fun (y1 : Bool) =>
 (
  (bif y1 then
   some true
  else
   (Z3L f (w64 (((w64 i).tmod 1048576) + f.Count))).bind fun x3 =>
   some x3)).bind fun (y2 : Bool) =>
 (bif y2 then
  some Z0d
 else
  (Z0B f ((w64 i).tmod 1048576)).bind fun x4 =>
  (Z0B f (w64 (((w64 i).tmod 1048576) + f.Count))).bind fun x5 =>
  (bif ((x4.2 != 0) || (x5.2 != 0)) then
   some Z0d
  else
   (Z0E x4.1 f.Period).bind fun x6 =>
   (
    (bif (x6.2 == 0) then
     (Z0h x6.1 x5.1).bind fun x7 =>
     some x7
    else
     some false)).bind fun (y3 : Bool) =>
   some (y3 && Z0d)))
def Z1k.s0 (f : Form) (i : Int) (x2 : Int × Bool) (s1 : Int) : Option ((Int) ⊕ (Jx (Int) (Bool))) :=
 (bif ((x2.2 && (decide (s1 < x2.1))) && (decide (s1 < (w64 (((w64 i).fdiv (2 ^ 1)) + 40))))) then
  (Z0B f s1).bind fun x4 =>
  (bif ((x4.2 == 0) && (decide ((x4.1.length : Int) > 0))) then
   some (.inr (.ret false))
  else
   some (.inl (w64 (s1 + 1))))
 else
  some (.inr (.go ((w64 i).fdiv (2 ^ 1)))))
def Z1k.s1 (f : Form) (x3 : Int × Bool) (a2 : Int) (s2 : Int) : Option ((Int) ⊕ (Jx (Unit) (Bool))) :=
 (bif ((x3.2 && (decide (s2 > x3.1))) && (decide (s2 > (w64 (a2 - 40))))) then
  (Z0B f s2).bind fun x5 =>
  (bif ((x5.2 == 0) && (decide ((x5.1.length : Int) > 0))) then
   some (.inr (.ret false))
  else
   some (.inl (w64 (s2 - 1))))
 else
  some (.inr (.go ())))
def Z1k (f : Form) (i : Int) : Option (Bool) :=
 (Z3S f).bind fun x1 =>
 (bif (!x1) then
  some Z0d
 else
  (Z0u f ((w64 i).fdiv (2 ^ 1))).bind fun x2 =>
  (Z18 f ((w64 i).fdiv (2 ^ 1))).bind fun x3 =>
  (bif ((x2.2 && (decide (x2.1 ≤ ((w64 i).fdiv (2 ^ 1))))) || (x3.2 && (decide (x3.1 ≥ ((w64 i).fdiv (2 ^ 1)))))) then
   some false
  else
   (ZM (Z1k.s0 f i x2) (w64 (((w64 i).fdiv (2 ^ 1)) + 1))).bind fun (y1 : Jx (Int) (Bool)) =>
   y1.elim (fun r' =>
     some r') fun a2 =>
   (ZM (Z1k.s1 f x3 a2) (w64 (a2 - 1))).bind fun (y2 : Jx (Unit) (Bool)) =>
   y2.elim (fun r' =>
     some r') fun a4 =>
   (
    (bif x2.2 then
     (Z18 f x2.1).bind fun x6 =>
     (bif ((x6.2 && (decide (x6.1 > a2))) || (x3.2 && ((!x6.2) || (decide (x6.1 < x3.1))))) then
      some (.ret false)
     else
      some (.go ()))
    else
     some (.go ()))).bind fun (y3 : Jx (Unit) (Bool)) =>
   y3.elim (fun r' =>
     some r') fun a6 =>
   some Z0d))
def ZB.s0 (s1' : (List Span)) (s2' : (List Span)) (eq : Span → Span → Option Bool) (s1 : Int) : Option ((Int) ⊕ (Jx (Unit) (Bool))) :=
 (bif (decide (s1 < (s1'.length : Int))) then
  (at? s1' s1).bind fun x1 =>
  (at? s2' s1).bind fun x2 =>
  (eq x1 x2).bind fun x3 =>
  (bif (!x3) then
   some (.inr (.ret false))
  else
   some (.inl (w64 (s1 + 1))))
 else
  some (.inr (.go ())))
def ZB (s1' : (List Span)) (s2' : (List Span)) (eq : Span → Span → Option Bool) : Option (Bool) :=
 (bif ((s1'.length : Int) != (s2'.length : Int)) then
  some false
 else
  (ZM (ZB.s0 s1' s2' eq) 0).bind fun (y1 : Jx (Unit) (Bool)) =>
  y1.elim (fun r' =>
    some r') fun a2 =>
  some true)
def Z0I.s0 (s1' : (List (List Span))) (s2' : (List (List Span))) (eq : (List Span) → (List Span) → Option Bool) (s1 : Int) : Option ((Int) ⊕ (Jx (Unit) (Bool))) :=
 (bif (decide (s1 < (s1'.length : Int))) then
  (at? s1' s1).bind fun x1 =>
  (at? s2' s1).bind fun x2 =>
  (eq x1 x2).bind fun x3 =>
  (bif (!x3) then
   some (.inr (.ret false))
  else
   some (.inl (w64 (s1 + 1))))
 else
  some (.inr (.go ())))
def Z0I (s1' : (List (List Span))) (s2' : (List (List Span))) (eq : (List Span) → (List Span) → Option Bool) : Option (Bool) :=
 (bif ((s1'.length : Int) != (s2'.length : Int)) then
  some false
 else
  (ZM (Z0I.s0 s1' s2' eq) 0).bind fun (y1 : Jx (Unit) (Bool)) =>
  y1.elim (fun r' =>
    some r') fun a2 =>
  some true)
def Zw.s0 (s1' : (List Granule)) (s2' : (List Granule)) (eq : Granule → Granule → Option Bool) (s1 : Int) : Option ((Int) ⊕ (Jx (Unit) (Bool))) :=
 (bif (decide (s1 < (s1'.length : Int))) then
  (at? s1' s1).bind fun x1 =>
  (at? s2' s1).bind fun x2 =>
  (eq x1 x2).bind fun x3 =>
  (bif (!x3) then
   some (.inr (.ret false))
  else
   some (.inl (w64 (s1 + 1))))
 else
  some (.inr (.go ())))
def Zw (s1' : (List Granule)) (s2' : (List Granule)) (eq : Granule → Granule → Option Bool) : Option (Bool) :=
 (bif ((s1'.length : Int) != (s2'.length : Int)) then
  some false
 else
  (ZM (Zw.s0 s1' s2' eq) 0).bind fun (y1 : Jx (Unit) (Bool)) =>
  y1.elim (fun r' =>
    some r') fun a2 =>
  some true)
def Ze.s0 (a : (List Span)) (b : (List Span)) (s1 : Int) : Option ((Int) ⊕ (Jx (Unit) (Bool))) :=
 (bif (decide (s1 < (a.length : Int))) then
  (at? a s1).bind fun x1 =>
  (at? b s1).bind fun x2 =>
  (bif (!((x2.From == x1.From) && ((x2.To == x1.To) && true))) then
   some (.inr (.ret false))
  else
   some (.inl (w64 (s1 + 1))))
 else
  some (.inr (.go ())))
def Ze (a : (List Span)) (b : (List Span)) : Option (Bool) :=
 (bif ((a.length : Int) != (b.length : Int)) then
  some false
 else
  (ZM (Ze.s0 a b) 0).bind fun (y1 : Jx (Unit) (Bool)) =>
  y1.elim (fun r' =>
    some r') fun a2 =>
  some true)
def ZK.s0 (a : Form) (b : Form) (s1 : Int) : Option ((Int) ⊕ (Jx (Unit) (Bool))) :=
 (bif (decide (s1 < (a.Core.length : Int))) then
  (at? a.Core s1).bind fun x1 =>
  (at? b.Core s1).bind fun x2 =>
  (Ze x1 x2).bind fun x3 =>
  (bif (!x3) then
   some (.inr (.ret false))
  else
   some (.inl (w64 (s1 + 1))))
 else
  some (.inr (.go ())))
def ZK.s1 (a : Form) (b : Form) (s2 : Int) : Option ((Int) ⊕ (Jx (Unit) (Bool))) :=
 (bif (decide (s2 < (a.Odd.length : Int))) then
  (at? a.Odd s2).bind fun x4 =>
  (at? b.Odd s2).bind fun x5 =>
  (
   (bif (x4.Index != x5.Index) then
    some true
   else
    (at? b.Odd s2).bind fun x6 =>
    (Ze x4.Ticks x6.Ticks).bind fun x7 =>
    some (!x7))).bind fun (y3 : Bool) =>
  (bif y3 then
   some (.inr (.ret false))
  else
   some (.inl (w64 (s2 + 1))))
 else
  some (.inr (.go ())))
def ZK (a : Form) (b : Form) : Option (Bool) :=
 (bif ((((a.Period != b.Period) || (a.Count != b.Count)) || ((a.Core.length : Int) != (b.Core.length : Int))) || ((a.Odd.length : Int) != (b.Odd.length : Int))) then
  some false
 else
  (ZM (ZK.s0 a b) 0).bind fun (y1 : Jx (Unit) (Bool)) =>
  y1.elim (fun r' =>
    some r') fun a2 =>
  (ZM (ZK.s1 a b) 0).bind fun (y2 : Jx (Unit) (Bool)) =>
  y2.elim (fun r' =>
    some r') fun a4 =>
  some true)
def Z3Q (f : Form) : Option (Bool) :=
 (Z0q f).bind fun x1 =>
 (
  (bif x1 then
   (Z03 f).bind fun x2 =>
   some (x2 == 0)
  else
   some false)).bind fun (y1 : Bool) =>
 some y1
def Z2w.s0 (f : Form) (most : Int) (s1 : Int) : Option ((Int) ⊕ (Jx (Unit) (Bool))) :=
 (bif (decide (s1 < (f.Odd.length : Int))) then
  (at? f.Odd s1).bind fun x1 =>
  (bif ((decide (x1.Index < (w64 (0 - most)))) || (decide (x1.Index > most))) then
   some (.inr (.ret false))
  else
   some (.inl (w64 (s1 + 1))))
 else
  some (.inr (.go ())))
def Z2w (f : Form) (most : Int) : Option (Bool) :=
 (ZM (Z2w.s0 f most) 0).bind fun (y1 : Jx (Unit) (Bool)) =>
 y1.elim (fun r' =>
   some r') fun a2 =>
 some true
def Z1n : Bool := true
def Z45 (l : (List Span)) : Bool :=
 (decide ((l.length : Int) > 0))
def Z32 (f : Form) : Option (Bool) :=
 (Za f.Core (fun z0 => some (Z45 z0))).bind fun x1 =>
 some (!x1)
def Zt.s0 (p1' : Int) {S : Type} (yield : S → Int → Option (S × Bool)) (s1 : Int × S) : Option ((Int × S) ⊕ (Jx (S) (S))) :=
 (bif (decide (s1.1 ≤ p1')) then
  (nz? s1.1).bind fun u1 =>
  (
   (bif ((p1'.tmod s1.1) == 0) then
    (yield s1.2 s1.1).bind fun x1 =>
    some ((!x1.2), x1.1)
   else
    some (false, s1.2))).bind fun (y2 : Bool × S) =>
  (bif y2.1 then
   some (.inr (.ret y2.2))
  else
   some (.inl ((w64 (s1.1 + 1)), y2.2)))
 else
  some (.inr (.go s1.2)))
def Zt {S : Type} (p1' : Int) (yield : S → Int → Option (S × Bool)) (st' : S) : Option (S) :=
 (ZM (Zt.s0 p1' yield) (1, st')).bind fun (y1 : Jx (S) (S)) =>
 y1.elim (fun r' =>
   some r') fun a2 =>
 some a2
def Z10 (x' : Span) (y : Span) (p2' : Int) : Bool :=
 (((w64 (y.From - x'.From)) == p2') && ((w64 (y.To - x'.To)) == p2'))
def Z1f (a : (List Span)) (b : (List Span)) (by' : Int) : Option (Bool) :=
 (ZB a b (fun z0 z1 => some (Z10 z0 z1 by'))).bind fun x1 =>
 some x1
def Z0c.s0 (f : Form) (d : Int) (by' : Int) (s1 : Int) : Option ((Int) ⊕ (Jx (Unit) (Bool))) :=
 (bif (decide (s1 < (f.Core.length : Int))) then
  (
   (
    (at? f.Core s1).bind fun x1 =>
    (
     (bif (decide ((w64 (s1 + d)) ≥ f.Count)) then
      some ((w64 ((w64 (s1 + d)) - f.Count)), f.Period)
     else
      some ((w64 (s1 + d)), 0))).bind fun (y4 : Int × Int) =>
    (at? f.Core y4.1).bind fun x2 =>
    (Z1f x1 x2 (w64 (by' - y4.2))).bind fun x3 =>
    (bif (!x3) then
     some (.ret false)
    else
     some (.go ()))).bind fun (y3 : Jx (Unit) (Bool)) =>
   y3.elim (fun r' =>
     some (.ret r')) fun a4 =>
   some (.go ())).bind fun (y2 : Jx (Unit) (Bool)) =>
  y2.elim (fun r' =>
    some (.inr (.ret r'))) fun a5 =>
  some (.inl (w64 (s1 + 1)))
 else
  some (.inr (.go ())))
def Z0c (f : Form) (d : Int) (by' : Int) : Option (Bool) :=
 (ZM (Z0c.s0 f d by') 0).bind fun (y1 : Jx (Unit) (Bool)) =>
 y1.elim (fun r' =>
   some r') fun a6 =>
 some true
def Zp.s1 (x4 : (List (List Span))) (s3 : Int × (List (List Span))) : Option ((Int × (List (List Span))) ⊕ ((List (List Span)))) :=
 (bif (decide (s3.1 < (x4.length : Int))) then
  (at? x4 s3.1).bind fun x5 =>
  (clone? 16 x5).bind fun x6 =>
  (app? 24 s3.2 [x6]).bind fun x7 =>
  some (.inl ((w64 (s3.1 + 1)), x7))
 else
  some (.inr s3.2))
def Zp.b0 (f : Form) (s2 : (List (List Span)) × Int × Int) (z2 : Int) : Option (((List (List Span)) × Int × Int) × Nat) :=
 (nz? z2).bind fun u1 =>
 (Z0j f.Period (w64 (f.Count.tdiv z2))).bind fun x2 =>
 (
  (bif (x2.2.1 != 0) then
   some true
  else
   (Z0c f z2 x2.1).bind fun x3 =>
   some (!x3))).bind fun (y3 : Bool) =>
 (bif y3 then
  some ((s2.1, s2.2.1, s2.2.2), 0)
 else
  (cut? f.Core 0 z2).bind fun x4 =>
  (ZM (Zp.s1 x4) (0, s2.1)).bind fun (y4 : (List (List Span))) =>
  some ((y4, x2.1, z2), 1))
def Zp (f : Form) : Option (Form) :=
 (Z32 f).bind fun x1 =>
 (bif x1 then
  some (Form.mk 0 0 [] [])
 else
  (
   (Zt f.Count (Z2A (Zp.b0 f)) (([], 0, 0), 0)).bind fun (y2 : ((List (List Span)) × Int × Int) × Nat) =>
   (bif (y2.2 == 0) then
    some (y2.1.1, y2.1.2.1, y2.1.2.2)
   else
    some (y2.1.1, y2.1.2.1, y2.1.2.2))).bind fun (y1 : (List (List Span)) × Int × Int) =>
  some (Form.mk y1.2.1 y1.2.2 y1.1 []))
def Z2L (f : Form) (g : Granule) : Option (Bool) :=
 (Z0B f g.Index).bind fun x1 =>
 (
  (bif (x1.2 == 0) then
   (Z0h x1.1 g.Ticks).bind fun x2 =>
   some x2
  else
   some false)).bind fun (y1 : Bool) =>
 some y1
def ZV.s0 (f : Form) (x1 : Form) (s2 : Int × (List Granule)) : Option ((Int × (List Granule)) ⊕ ((List Granule))) :=
 (bif (decide (s2.1 < (f.Odd.length : Int))) then
  (
   (
    (at? f.Odd s2.1).bind fun x2 =>
    (Z2L x1 x2).bind fun x3 =>
    (bif (!x3) then
     (clone? 16 x2.Ticks).bind fun x4 =>
     (app? 32 s2.2 [(Granule.mk x2.Index x4)]).bind fun x5 =>
     some x5
    else
     some s2.2)).bind fun (y3 : (List Granule)) =>
   some y3).bind fun (y2 : (List Granule)) =>
  some (.inl ((w64 (s2.1 + 1)), y2))
 else
  some (.inr s2.2))
def ZV (f : Form) : Option (Form) :=
 (Zp f).bind fun x1 =>
 (ZM (ZV.s0 f x1) (0, [])).bind fun (y1 : (List Granule)) =>
 some (Form.mk x1.Period x1.Count x1.Core y1)
def canon_equal_1 (x' : Granule) (y : Granule) : Option (Bool) :=
 (
  (bif (x'.Index == y.Index) then
   (Z0h x'.Ticks y.Ticks).bind fun x1 =>
   some x1
  else
   some false)).bind fun (y1 : Bool) =>
 some y1
def Z8y (a : Form) (b : Form) : Option (Bool) :=
 (
  (bif ((a.Period == b.Period) && (a.Count == b.Count)) then
   (Z0I a.Core b.Core (fun z0 z1 => Z0h z0 z1)).bind fun x1 =>
   some x1
  else
   some false)).bind fun (y1 : Bool) =>
 (
  (bif y1 then
   (Zw a.Odd b.Odd (fun z0 z1 => canon_equal_1 z0 z1)).bind fun x2 =>
   some x2
  else
   some false)).bind fun (y2 : Bool) =>
 some y2
def ZA3 (f : Form) (g : Form) : Option (Bool) :=
 (ZV f).bind fun x1 =>
 (ZV g).bind fun x2 =>
 (Z8y x1 x2).bind fun x3 =>
 some x3
def Z3p.s0 (f : Form) (g : Form) (s1 : Int) : Option ((Int) ⊕ (Jx (Bool) (Bool))) :=
 (bif (decide (s1 ≤ 2000)) then
  (Z0B f s1).bind fun x5 =>
  (Z0B g s1).bind fun x6 =>
  (bif ((x5.2 != 0) || (x6.2 != 0)) then
   some (.inr (.ret Z1n))
  else
   (Z0h x5.1 x6.1).bind fun x7 =>
   (bif (!x7) then
    some (.inr (.go false))
   else
    some (.inl (w64 (s1 + 1)))))
 else
  some (.inr (.go true)))
def Z3p (f : Form) (g : Form) : Option (Bool) :=
 (Z3Q f).bind fun x1 =>
 (
  (bif (!x1) then
   some true
  else
   (Z3Q g).bind fun x2 =>
   some (!x2))).bind fun (y1 : Bool) =>
 (
  (bif y1 then
   some true
  else
   (Z2w f 200).bind fun x3 =>
   some (!x3))).bind fun (y2 : Bool) =>
 (
  (bif y2 then
   some true
  else
   (Z2w g 200).bind fun x4 =>
   some (!x4))).bind fun (y3 : Bool) =>
 (bif ((y3 || (decide (f.Period > 32768))) || (decide (g.Period > 32768))) then
  some Z1n
 else
  (ZM (Z3p.s0 f g) (-2000)).bind fun (y4 : Jx (Bool) (Bool)) =>
  y4.elim (fun r' =>
    some r') fun a2 =>
  (ZA3 f g).bind fun x8 =>
  (
   (bif (x8 == a2) then
    (ZV f).bind fun x9 =>
    (ZV g).bind fun x10 =>
    (ZK x9 x10).bind fun x11 =>
    some (x11 == a2)
   else
    some false)).bind fun (y5 : Bool) =>
  some (y5 && Z1n))
def canon_Is (f : Form) : Option (Bool) :=
 (ZV f).bind fun x1 =>
 (Z8y f x1).bind fun x2 =>
 some x2
def Z3N.s0 (f : Form) (i : Int) (x2 : Form) (s1 : Int) : Option ((Int) ⊕ (Jx (Unit) (Bool))) :=
 (bif (decide (s1 < ([i, 0, 1, (-1), (w64 ((i.tmod 50) - 25))].length : Int))) then
  (at? [i, 0, 1, (-1), (w64 ((i.tmod 50) - 25))] s1).bind fun x9 =>
  (Z0B f x9).bind fun x10 =>
  (Z0B x2 x9).bind fun x11 =>
  (
   (bif (x10.2 != x11.2) then
    some true
   else
    (Z0h x10.1 x11.1).bind fun x12 =>
    some (!x12))).bind fun (y5 : Bool) =>
  (bif y5 then
   some (.inr (.ret false))
  else
   some (.inl (w64 (s1 + 1))))
 else
  some (.inr (.go ())))
def Z3N (f : Form) (i : Int) : Option (Bool) :=
 (Z3Q f).bind fun x1 =>
 (bif (!x1) then
  some Z1n
 else
  (ZV f).bind fun x2 =>
  (Z03 x2).bind fun x3 =>
  (
   (bif (x3 != 0) then
    some true
   else
    (canon_Is x2).bind fun x4 =>
    some (!x4))).bind fun (y1 : Bool) =>
  (
   (bif y1 then
    some true
   else
    (ZV x2).bind fun x5 =>
    (ZK x5 x2).bind fun x6 =>
    some (!x6))).bind fun (y2 : Bool) =>
  (
   (bif (((y2 || (decide (x2.Count > f.Count))) || (decide (x2.Period > f.Period))) || (decide ((x2.Odd.length : Int) > (f.Odd.length : Int)))) then
    some true
   else
    (Z06 x2).bind fun x7 =>
    (Z06 f).bind fun x8 =>
    some (decide (x7 > x8)))).bind fun (y3 : Bool) =>
  (bif y3 then
   some false
  else
   (ZM (Z3N.s0 f i x2) 0).bind fun (y4 : Jx (Unit) (Bool)) =>
   y4.elim (fun r' =>
     some r') fun a2 =>
   (ZA3 f x2).bind fun x13 =>
   some (x13 && Z1n)))
def Z3P (a : Bound) : Bool :=
 ((a.Inf == 0) || (((a.Inf == 1) || (a.Inf == (-1))) && (a.N == 0)))
def Z6D (a : Int) (b : Int) : Int × Int :=
 (bif (((decide ((w64 (a - b)) < a)) != (decide (b > 0))) && (b != 0)) then
  (0, 10)
 else
  ((w64 (a - b)), 0))
def Z7C (a : Bound) : Bound × Int :=
 (bif (!(Z3P a)) then
  ((Bound.mk 0 0), 2)
 else
  (bif (((Z6D 0 a.N).2) != 0) then
   ((Bound.mk 0 0), (Z6D 0 a.N).2)
  else
   ((Bound.mk (IntKind.i8.wrap (0 - a.Inf)) ((Z6D 0 a.N).1)), 0)))
def safe_Less (a : Bound) (b : Bound) : Bool :=
 (bif ((!(Z3P a)) || (!(Z3P b))) then
  false
 else
  (bif (a.Inf != b.Inf) then
   (decide (a.Inf < b.Inf))
  else
   (decide (a.N < b.N))))
def Z1G (f : Form) : Option (Bool) :=
 (Z0q f).bind fun x1 =>
 (
  (bif x1 then
   (Z03 f).bind fun x2 =>
   some (x2 == 0)
  else
   some false)).bind fun (y1 : Bool) =>
 some y1
def Z00 (a : Int) : Option (epactref01_long) :=
 (
  (
   (
    (bif (decide ((a.tmod 65536) < 0)) then
     (some (w64 (0 - (a.tmod 65536)))).bind fun x1 =>
     some x1
    else
     some (a.tmod 65536))).bind fun (y3 : Int) =>
   some ((w64 (a.tdiv 65536)), (IntKind.u32.wrap y3))).bind fun (y2 : Int × Int) =>
  some (y2.1, y2.2)).bind fun (y1 : Int × Int) =>
 (
  (
   (
    (bif (decide ((y1.1.tmod 65536) < 0)) then
     (some (w64 (0 - (y1.1.tmod 65536)))).bind fun x2 =>
     some x2
    else
     some (y1.1.tmod 65536))).bind fun (y6 : Int) =>
   (some (w64 (y1.1.tdiv 65536))).bind fun x3 =>
   some (x3, (IntKind.u32.wrap y6))).bind fun (y5 : Int × Int) =>
  some (y5.1, y5.2)).bind fun (y4 : Int × Int) =>
 (
  (
   (
    (bif (decide ((y4.1.tmod 65536) < 0)) then
     (some (w64 (0 - (y4.1.tmod 65536)))).bind fun x4 =>
     some x4
    else
     some (y4.1.tmod 65536))).bind fun (y9 : Int) =>
   (some (w64 (y4.1.tdiv 65536))).bind fun x5 =>
   some (x5, (IntKind.u32.wrap y9))).bind fun (y8 : Int × Int) =>
  some (y8.1, y8.2)).bind fun (y7 : Int × Int) =>
 (
  (
   (
    (bif (decide ((y7.1.tmod 65536) < 0)) then
     (some (w64 (0 - (y7.1.tmod 65536)))).bind fun x6 =>
     some x6
    else
     some (y7.1.tmod 65536))).bind fun (y12 : Int) =>
   (some (w64 (y7.1.tdiv 65536))).bind fun x7 =>
   some (x7, (IntKind.u32.wrap y12))).bind fun (y11 : Int × Int) =>
  some (y11.1, y11.2)).bind fun (y10 : Int × Int) =>
 some (epactref01_long.mk (decide (a < 0)) (Arr9_u32.mk y1.2 y4.2 y7.2 y10.2 0 0 0 0 0))
def Z22 (a : Arr9_u32) (b : Arr9_u32) : Option (Arr9_u32) :=
 (some (IntKind.u32.wrap ((IntKind.u32.wrap (a.d0 + b.d0)) + 0))).bind fun x1 =>
 (some (IntKind.u32.wrap (x1.tdiv 65536))).bind fun x2 =>
 (some (IntKind.u32.wrap ((IntKind.u32.wrap (a.d1 + b.d1)) + x2))).bind fun x3 =>
 (some (IntKind.u32.wrap (x3.tdiv 65536))).bind fun x4 =>
 (some (IntKind.u32.wrap ((IntKind.u32.wrap (a.d2 + b.d2)) + x4))).bind fun x5 =>
 (some (IntKind.u32.wrap (x5.tdiv 65536))).bind fun x6 =>
 (some (IntKind.u32.wrap ((IntKind.u32.wrap (a.d3 + b.d3)) + x6))).bind fun x7 =>
 (some (IntKind.u32.wrap (x7.tdiv 65536))).bind fun x8 =>
 (some (IntKind.u32.wrap ((IntKind.u32.wrap (a.d4 + b.d4)) + x8))).bind fun x9 =>
 (some (IntKind.u32.wrap (x9.tdiv 65536))).bind fun x10 =>
 (some (IntKind.u32.wrap ((IntKind.u32.wrap (a.d5 + b.d5)) + x10))).bind fun x11 =>
 (some (IntKind.u32.wrap (x11.tdiv 65536))).bind fun x12 =>
 (some (IntKind.u32.wrap ((IntKind.u32.wrap (a.d6 + b.d6)) + x12))).bind fun x13 =>
 (some (IntKind.u32.wrap (x13.tdiv 65536))).bind fun x14 =>
 (some (IntKind.u32.wrap ((IntKind.u32.wrap (a.d7 + b.d7)) + x14))).bind fun x15 =>
 (some (IntKind.u32.wrap (x15.tdiv 65536))).bind fun x16 =>
 (some (IntKind.u32.wrap ((IntKind.u32.wrap (a.d8 + b.d8)) + x16))).bind fun x17 =>
 (some (IntKind.u32.wrap (x17.tdiv 65536))).bind fun x18 =>
 some (Arr9_u32.mk (x1.tmod 65536) (x3.tmod 65536) (x5.tmod 65536) (x7.tmod 65536) (x9.tmod 65536) (x11.tmod 65536) (x13.tmod 65536) (x15.tmod 65536) (x17.tmod 65536))
def Z1m (a : Arr9_u32) (b : Arr9_u32) : Bool :=
 (bif (a.d8 != b.d8) then
  (decide (a.d8 < b.d8))
 else
  (bif (a.d7 != b.d7) then
   (decide (a.d7 < b.d7))
  else
   (bif (a.d6 != b.d6) then
    (decide (a.d6 < b.d6))
   else
    (bif (a.d5 != b.d5) then
     (decide (a.d5 < b.d5))
    else
     (bif (a.d4 != b.d4) then
      (decide (a.d4 < b.d4))
     else
      (bif (a.d3 != b.d3) then
       (decide (a.d3 < b.d3))
      else
       (bif (a.d2 != b.d2) then
        (decide (a.d2 < b.d2))
       else
        (bif (a.d1 != b.d1) then
         (decide (a.d1 < b.d1))
        else
         (bif (a.d0 != b.d0) then
          (decide (a.d0 < b.d0))
         else
          false)))))))))
def Z5i (a : Arr9_u32) (b : Arr9_u32) : Option (Arr9_u32) :=
 (some (IntKind.u32.wrap ((IntKind.u32.wrap ((IntKind.u32.wrap (a.d0 + 65536)) - b.d0)) - 0))).bind fun x1 =>
 (some (IntKind.u32.wrap (1 - (IntKind.u32.wrap (x1.tdiv 65536))))).bind fun x2 =>
 (some (IntKind.u32.wrap ((IntKind.u32.wrap ((IntKind.u32.wrap (a.d1 + 65536)) - b.d1)) - x2))).bind fun x3 =>
 (some (IntKind.u32.wrap (1 - (IntKind.u32.wrap (x3.tdiv 65536))))).bind fun x4 =>
 (some (IntKind.u32.wrap ((IntKind.u32.wrap ((IntKind.u32.wrap (a.d2 + 65536)) - b.d2)) - x4))).bind fun x5 =>
 (some (IntKind.u32.wrap (1 - (IntKind.u32.wrap (x5.tdiv 65536))))).bind fun x6 =>
 (some (IntKind.u32.wrap ((IntKind.u32.wrap ((IntKind.u32.wrap (a.d3 + 65536)) - b.d3)) - x6))).bind fun x7 =>
 (some (IntKind.u32.wrap (1 - (IntKind.u32.wrap (x7.tdiv 65536))))).bind fun x8 =>
 (some (IntKind.u32.wrap ((IntKind.u32.wrap ((IntKind.u32.wrap (a.d4 + 65536)) - b.d4)) - x8))).bind fun x9 =>
 (some (IntKind.u32.wrap (1 - (IntKind.u32.wrap (x9.tdiv 65536))))).bind fun x10 =>
 (some (IntKind.u32.wrap ((IntKind.u32.wrap ((IntKind.u32.wrap (a.d5 + 65536)) - b.d5)) - x10))).bind fun x11 =>
 (some (IntKind.u32.wrap (1 - (IntKind.u32.wrap (x11.tdiv 65536))))).bind fun x12 =>
 (some (IntKind.u32.wrap ((IntKind.u32.wrap ((IntKind.u32.wrap (a.d6 + 65536)) - b.d6)) - x12))).bind fun x13 =>
 (some (IntKind.u32.wrap (1 - (IntKind.u32.wrap (x13.tdiv 65536))))).bind fun x14 =>
 (some (IntKind.u32.wrap ((IntKind.u32.wrap ((IntKind.u32.wrap (a.d7 + 65536)) - b.d7)) - x14))).bind fun x15 =>
 (some (IntKind.u32.wrap (1 - (IntKind.u32.wrap (x15.tdiv 65536))))).bind fun x16 =>
 (some (IntKind.u32.wrap ((IntKind.u32.wrap ((IntKind.u32.wrap (a.d8 + 65536)) - b.d8)) - x16))).bind fun x17 =>
 (some (IntKind.u32.wrap (1 - (IntKind.u32.wrap (x17.tdiv 65536))))).bind fun x18 =>
 some (Arr9_u32.mk (x1.tmod 65536) (x3.tmod 65536) (x5.tmod 65536) (x7.tmod 65536) (x9.tmod 65536) (x11.tmod 65536) (x13.tmod 65536) (x15.tmod 65536) (x17.tmod 65536))
def Z38 (a : epactref01_long) (b : epactref01_long) : Option (epactref01_long) :=
 (bif (a.minus == b.minus) then
  (Z22 a.digits b.digits).bind fun x1 =>
  some (epactref01_long.mk a.minus x1)
 else
  (bif (Z1m a.digits b.digits) then
   (Z5i b.digits a.digits).bind fun x2 =>
   some (epactref01_long.mk b.minus x2)
  else
   (Z5i a.digits b.digits).bind fun x3 =>
   some (epactref01_long.mk a.minus x3)))
def Z2D (a : epactref01_long) : Option (Int × Int) :=
 (some (-9223372036854775808)).bind fun x1 =>
 (
  (bif (decide ((w64 a.digits.d8) > 0)) then
   some (.ret (0, 10))
  else
   some (.go ()))).bind fun (y1 : Jx (Unit) (Int × Int)) =>
 y1.elim (fun r' =>
   some r') fun a2 =>
 (
  (bif (decide ((w64 a.digits.d7) > 0)) then
   some (.ret (0, 10))
  else
   some (.go ()))).bind fun (y2 : Jx (Unit) (Int × Int)) =>
 y2.elim (fun r' =>
   some r') fun a4 =>
 (
  (bif (decide ((w64 a.digits.d6) > 0)) then
   some (.ret (0, 10))
  else
   some (.go ()))).bind fun (y3 : Jx (Unit) (Int × Int)) =>
 y3.elim (fun r' =>
   some r') fun a6 =>
 (
  (bif (decide ((w64 a.digits.d5) > 0)) then
   some (.ret (0, 10))
  else
   some (.go ()))).bind fun (y4 : Jx (Unit) (Int × Int)) =>
 y4.elim (fun r' =>
   some r') fun a8 =>
 (
  (bif (decide ((w64 a.digits.d4) > 0)) then
   some (.ret (0, 10))
  else
   some (.go ()))).bind fun (y5 : Jx (Unit) (Int × Int)) =>
 y5.elim (fun r' =>
   some r') fun a10 =>
 (
  (bif (decide (0 < (w64 ((w64 (x1 + (w64 a.digits.d3))).tdiv 65536)))) then
   some (.ret (0, 10))
  else
   (some (w64 (0 - (w64 a.digits.d3)))).bind fun x2 =>
   some (.go x2))).bind fun (y6 : Jx (Int) (Int × Int)) =>
 y6.elim (fun r' =>
   some r') fun a12 =>
 (
  (bif (decide (a12 < (w64 ((w64 (x1 + (w64 a.digits.d2))).tdiv 65536)))) then
   some (.ret (0, 10))
  else
   (some (w64 ((w64 (a12 * 65536)) - (w64 a.digits.d2)))).bind fun x3 =>
   some (.go x3))).bind fun (y7 : Jx (Int) (Int × Int)) =>
 y7.elim (fun r' =>
   some r') fun a14 =>
 (
  (bif (decide (a14 < (w64 ((w64 (x1 + (w64 a.digits.d1))).tdiv 65536)))) then
   some (.ret (0, 10))
  else
   (some (w64 ((w64 (a14 * 65536)) - (w64 a.digits.d1)))).bind fun x4 =>
   some (.go x4))).bind fun (y8 : Jx (Int) (Int × Int)) =>
 y8.elim (fun r' =>
   some r') fun a16 =>
 (
  (bif (decide (a16 < (w64 ((w64 (x1 + (w64 a.digits.d0))).tdiv 65536)))) then
   some (.ret (0, 10))
  else
   (some (w64 ((w64 (a16 * 65536)) - (w64 a.digits.d0)))).bind fun x5 =>
   some (.go x5))).bind fun (y9 : Jx (Int) (Int × Int)) =>
 y9.elim (fun r' =>
   some r') fun a18 =>
 (bif a.minus then
  some (a18, 0)
 else
  (bif (a18 == x1) then
   some (0, 10)
  else
   some ((w64 (0 - a18)), 0)))
def Z6O (a : Int) (b : Int) : Option (Int × Int) :=
 (Z00 a).bind fun x1 =>
 (Z00 b).bind fun x2 =>
 (Z38 x1 x2).bind fun x3 =>
 (Z2D x3).bind fun x4 =>
 some (x4.1, x4.2)
def Z4P (a : Int) (b : Int) : Option (Int × Int) :=
 (Z00 b).bind fun x1 =>
 (Z00 a).bind fun x2 =>
 (Z38 x2 (epactref01_long.mk (!x1.minus) x1.digits)).bind fun x3 =>
 (Z2D x3).bind fun x4 =>
 some (x4.1, x4.2)
def Z1t (a : epactref01_long) (b : epactref01_long) : Option (epactref01_long) :=
 (some (IntKind.u32.wrap ((IntKind.u32.wrap (a.digits.d0 * b.digits.d0)) + 0))).bind fun x1 =>
 (some (IntKind.u32.wrap (x1.tdiv 65536))).bind fun x2 =>
 (some (IntKind.u32.wrap ((IntKind.u32.wrap (a.digits.d0 * b.digits.d1)) + x2))).bind fun x3 =>
 (some (IntKind.u32.wrap (x3.tdiv 65536))).bind fun x4 =>
 (some (IntKind.u32.wrap ((IntKind.u32.wrap (a.digits.d0 * b.digits.d2)) + x4))).bind fun x5 =>
 (some (IntKind.u32.wrap (x5.tdiv 65536))).bind fun x6 =>
 (some (IntKind.u32.wrap ((IntKind.u32.wrap (a.digits.d0 * b.digits.d3)) + x6))).bind fun x7 =>
 (some (IntKind.u32.wrap (x7.tdiv 65536))).bind fun x8 =>
 (some (IntKind.u32.wrap ((IntKind.u32.wrap (a.digits.d0 * b.digits.d4)) + x8))).bind fun x9 =>
 (some (IntKind.u32.wrap (x9.tdiv 65536))).bind fun x10 =>
 (Z22 (Arr9_u32.mk 0 0 0 0 0 0 0 0 0) (Arr9_u32.mk (x1.tmod 65536) (x3.tmod 65536) (x5.tmod 65536) (x7.tmod 65536) (x9.tmod 65536) 0 0 0 0)).bind fun x11 =>
 (some (IntKind.u32.wrap ((IntKind.u32.wrap (a.digits.d1 * b.digits.d0)) + 0))).bind fun x12 =>
 (some (IntKind.u32.wrap (x12.tdiv 65536))).bind fun x13 =>
 (some (IntKind.u32.wrap ((IntKind.u32.wrap (a.digits.d1 * b.digits.d1)) + x13))).bind fun x14 =>
 (some (IntKind.u32.wrap (x14.tdiv 65536))).bind fun x15 =>
 (some (IntKind.u32.wrap ((IntKind.u32.wrap (a.digits.d1 * b.digits.d2)) + x15))).bind fun x16 =>
 (some (IntKind.u32.wrap (x16.tdiv 65536))).bind fun x17 =>
 (some (IntKind.u32.wrap ((IntKind.u32.wrap (a.digits.d1 * b.digits.d3)) + x17))).bind fun x18 =>
 (some (IntKind.u32.wrap (x18.tdiv 65536))).bind fun x19 =>
 (some (IntKind.u32.wrap ((IntKind.u32.wrap (a.digits.d1 * b.digits.d4)) + x19))).bind fun x20 =>
 (some (IntKind.u32.wrap (x20.tdiv 65536))).bind fun x21 =>
 (Z22 x11 (Arr9_u32.mk 0 (x12.tmod 65536) (x14.tmod 65536) (x16.tmod 65536) (x18.tmod 65536) (x20.tmod 65536) 0 0 0)).bind fun x22 =>
 (some (IntKind.u32.wrap ((IntKind.u32.wrap (a.digits.d2 * b.digits.d0)) + 0))).bind fun x23 =>
 (some (IntKind.u32.wrap (x23.tdiv 65536))).bind fun x24 =>
 (some (IntKind.u32.wrap ((IntKind.u32.wrap (a.digits.d2 * b.digits.d1)) + x24))).bind fun x25 =>
 (some (IntKind.u32.wrap (x25.tdiv 65536))).bind fun x26 =>
 (some (IntKind.u32.wrap ((IntKind.u32.wrap (a.digits.d2 * b.digits.d2)) + x26))).bind fun x27 =>
 (some (IntKind.u32.wrap (x27.tdiv 65536))).bind fun x28 =>
 (some (IntKind.u32.wrap ((IntKind.u32.wrap (a.digits.d2 * b.digits.d3)) + x28))).bind fun x29 =>
 (some (IntKind.u32.wrap (x29.tdiv 65536))).bind fun x30 =>
 (some (IntKind.u32.wrap ((IntKind.u32.wrap (a.digits.d2 * b.digits.d4)) + x30))).bind fun x31 =>
 (some (IntKind.u32.wrap (x31.tdiv 65536))).bind fun x32 =>
 (Z22 x22 (Arr9_u32.mk 0 0 (x23.tmod 65536) (x25.tmod 65536) (x27.tmod 65536) (x29.tmod 65536) (x31.tmod 65536) 0 0)).bind fun x33 =>
 (some (IntKind.u32.wrap ((IntKind.u32.wrap (a.digits.d3 * b.digits.d0)) + 0))).bind fun x34 =>
 (some (IntKind.u32.wrap (x34.tdiv 65536))).bind fun x35 =>
 (some (IntKind.u32.wrap ((IntKind.u32.wrap (a.digits.d3 * b.digits.d1)) + x35))).bind fun x36 =>
 (some (IntKind.u32.wrap (x36.tdiv 65536))).bind fun x37 =>
 (some (IntKind.u32.wrap ((IntKind.u32.wrap (a.digits.d3 * b.digits.d2)) + x37))).bind fun x38 =>
 (some (IntKind.u32.wrap (x38.tdiv 65536))).bind fun x39 =>
 (some (IntKind.u32.wrap ((IntKind.u32.wrap (a.digits.d3 * b.digits.d3)) + x39))).bind fun x40 =>
 (some (IntKind.u32.wrap (x40.tdiv 65536))).bind fun x41 =>
 (some (IntKind.u32.wrap ((IntKind.u32.wrap (a.digits.d3 * b.digits.d4)) + x41))).bind fun x42 =>
 (some (IntKind.u32.wrap (x42.tdiv 65536))).bind fun x43 =>
 (Z22 x33 (Arr9_u32.mk 0 0 0 (x34.tmod 65536) (x36.tmod 65536) (x38.tmod 65536) (x40.tmod 65536) (x42.tmod 65536) 0)).bind fun x44 =>
 some (epactref01_long.mk (a.minus != b.minus) x44)
def Z9b (a : Int) (b : Int) : Option (Int × Int) :=
 (Z00 a).bind fun x1 =>
 (Z00 b).bind fun x2 =>
 (Z1t x1 x2).bind fun x3 =>
 (Z2D x3).bind fun x4 =>
 some (x4.1, x4.2)
def Z8s (a : Int) (b : Int) : Option (Int × Int × Int) :=
 (bif (b == 0) then
  some (0, 0, 11)
 else
  (bif (b == (-1)) then
   (Z4P 0 a).bind fun x1 =>
   some (x1.1, 0, x1.2)
  else
   (nz? b).bind fun u1 =>
   (some (w64 (a - (w64 ((w64 (a.tdiv b)) * b))))).bind fun x2 =>
   (Z00 (w64 (a.tdiv b))).bind fun x3 =>
   (Z00 b).bind fun x4 =>
   (Z1t x3 x4).bind fun x5 =>
   (Z00 x2).bind fun x6 =>
   (Z38 x5 x6).bind fun x7 =>
   (Z00 a).bind fun x8 =>
   (bif ((((!(Z1m x7.digits x8.digits)) && (!(Z1m x8.digits x7.digits))) && ((x7.minus == x8.minus) || (a == 0))) && (((x2 == 0) || (((decide (b > 0)) && (decide (x2 > 0))) && (decide (x2 < b)))) || (((decide (b < 0)) && (decide (x2 < 0))) && (decide (x2 > b))))) then
    some ((w64 (a.tdiv b)), x2, 0)
   else
    (some (w64 ((w64 (a.tdiv b)) - 1))).bind fun x9 =>
    (Z00 x9).bind fun x10 =>
    (Z00 b).bind fun x11 =>
    (Z1t x10 x11).bind fun x12 =>
    (Z00 (w64 (x2 + b))).bind fun x13 =>
    (Z38 x12 x13).bind fun x14 =>
    (Z00 a).bind fun x15 =>
    (bif ((((!(Z1m x14.digits x15.digits)) && (!(Z1m x15.digits x14.digits))) && ((x14.minus == x15.minus) || (a == 0))) && ((((w64 (x2 + b)) == 0) || (((decide (b > 0)) && (decide ((w64 (x2 + b)) > 0))) && (decide ((w64 (x2 + b)) < b)))) || (((decide (b < 0)) && (decide ((w64 (x2 + b)) < 0))) && (decide ((w64 (x2 + b)) > b))))) then
     some (x9, (w64 (x2 + b)), 0)
    else
     (some (w64 ((w64 (x2 + b)) + b))).bind fun x16 =>
     some ((w64 (x9 - 1)), x16, 0)))))
def safe_Gcd (a : Int) (b : Int) : Option (Int × Int) :=
 (gcd? (Z2 a) (Z2 b)).bind fun x1 =>
 some ((ZX x1 false).1, (ZX x1 false).2)
def Z25 (a : Int) : Int :=
 (bif (decide (a < 0)) then
  (IntKind.u64.wrap ((IntKind.u64.wrap (w64 (0 - (w64 (a + 1))))) + 1))
 else
  (IntKind.u64.wrap a))
def Z2F.s0 (s1 : Int × Int × Int) : Option ((Int × Int × Int) ⊕ (Int × Int × Int)) :=
 (bif ((decide (s1.1 > 0)) && (decide (s1.2.1 > 0))) then
  (
   (bif (((s1.1.tmod 2) == 0) && ((s1.2.1.tmod 2) == 0)) then
    some ((IntKind.u64.wrap (s1.1.tdiv 2)), (IntKind.u64.wrap (s1.2.1.tdiv 2)), (IntKind.u64.wrap (s1.2.2 * 2)))
   else
    (bif ((s1.1.tmod 2) == 0) then
     some ((IntKind.u64.wrap (s1.1.tdiv 2)), s1.2.1, s1.2.2)
    else
     (bif ((s1.2.1.tmod 2) == 0) then
      some (s1.1, (IntKind.u64.wrap (s1.2.1.tdiv 2)), s1.2.2)
     else
      (bif (decide (s1.1 ≥ s1.2.1)) then
       some ((IntKind.u64.wrap (s1.1 - s1.2.1)), s1.2.1, s1.2.2)
      else
       some (s1.1, (IntKind.u64.wrap (s1.2.1 - s1.1)), s1.2.2)))))).bind fun (y2 : Int × Int × Int) =>
  some (.inl (y2.1, y2.2.1, y2.2.2))
 else
  some (.inr (s1.1, s1.2.1, s1.2.2)))
def Z2F (a : Int) (b : Int) : Option (Int) :=
 (ZM (Z2F.s0) (a, b, 1)).bind fun (y1 : Int × Int × Int) =>
 some (IntKind.u64.wrap ((IntKind.u64.wrap (y1.1 + y1.2.1)) * y1.2.2))
def ZAF (a : Int) (b : Int) : Option (Int × Int) :=
 (Z2F (Z25 a) (Z25 b)).bind fun x1 =>
 (bif (decide (x1 > 9223372036854775807)) then
  some (0, 10)
 else
  some ((w64 x1), 0))
def Z4y (a : Int) (b : Int) : Option (Int × Int) :=
 (bif (((Z2 a) == 0) || ((Z2 b) == 0)) then
  some (0, 0)
 else
  (gcd? (Z2 a) (Z2 b)).bind fun x1 =>
  (nz? x1).bind fun u1 =>
  (bif (((Z4 (IntKind.u64.wrap ((Z2 a).tdiv x1)) (Z2 b)).1) != 0) then
   some (0, 10)
  else
   some ((ZX ((Z4 (IntKind.u64.wrap ((Z2 a).tdiv x1)) (Z2 b)).2) false).1, (ZX ((Z4 (IntKind.u64.wrap ((Z2 a).tdiv x1)) (Z2 b)).2) false).2)))
def ZA5 (a : Int) (b : Int) : Option (Int × Int) :=
 (bif ((a == 0) || (b == 0)) then
  some (0, 0)
 else
  (Z2F (Z25 a) (Z25 b)).bind fun x1 =>
  (nz? x1).bind fun u1 =>
  (some (IntKind.u64.wrap ((Z25 a).tdiv x1))).bind fun x2 =>
  (Z00 0).bind fun x3 =>
  (Z00 b).bind fun x4 =>
  (some (IntKind.u64.wrap (x2.tdiv 65536))).bind fun x5 =>
  (some (IntKind.u64.wrap (x5.tdiv 65536))).bind fun x6 =>
  (some (IntKind.u64.wrap (x6.tdiv 65536))).bind fun x7 =>
  (some (IntKind.u64.wrap (x7.tdiv 65536))).bind fun x8 =>
  (Z1t (epactref01_long.mk x3.minus (Arr9_u32.mk (IntKind.u32.wrap (x2.tmod 65536)) (IntKind.u32.wrap (x5.tmod 65536)) (IntKind.u32.wrap (x6.tmod 65536)) (IntKind.u32.wrap (x7.tmod 65536)) x3.digits.d4 x3.digits.d5 x3.digits.d6 x3.digits.d7 x3.digits.d8)) (epactref01_long.mk false x4.digits)).bind fun x9 =>
  (Z2D x9).bind fun x10 =>
  some (x10.1, x10.2))
def Z56 : Bool := true
def epactlaw01_SafeTells (a : Int) (b : Int) : Option (Bool) :=
 (Z6O a b).bind fun x1 =>
 (bif ((((ZA a b).1) != x1.1) || (((ZA a b).2) != x1.2)) then
  some false
 else
  (Z4P a b).bind fun x2 =>
  (bif ((((Z6D a b).1) != x2.1) || (((Z6D a b).2) != x2.2)) then
   some false
  else
   (Z9b a b).bind fun x3 =>
   (bif ((((Z9 a b).1) != x3.1) || (((Z9 a b).2) != x3.2)) then
    some false
   else
    (Z0j a b).bind fun x4 =>
    (Z8s a b).bind fun x5 =>
    (bif (((x4.1 != x5.1) || (x4.2.1 != x5.2.1)) || (x4.2.2 != x5.2.2)) then
     some false
    else
     (safe_Gcd a b).bind fun x6 =>
     (ZAF a b).bind fun x7 =>
     (bif ((x6.1 != x7.1) || (x6.2 != x7.2)) then
      some false
     else
      (Z4y a b).bind fun x8 =>
      (ZA5 a b).bind fun x9 =>
      some (((x8.1 == x9.1) && (x8.2 == x9.2)) && Z56))))))
def safe_Sum (a : Bound) (b : Bound) : Bound × Int :=
 (bif ((!(Z3P a)) || (!(Z3P b))) then
  ((Bound.mk 0 0), 2)
 else
  (bif (((a.Inf != 0) && (b.Inf != 0)) && (a.Inf != b.Inf)) then
   ((Bound.mk 0 0), 10)
  else
   (bif (a.Inf != 0) then
    (a, 0)
   else
    (bif (b.Inf != 0) then
     (b, 0)
    else
     ((Bound.mk 0 ((ZA a.N b.N).1)), (ZA a.N b.N).2)))))
def Z1E (a : Bound) : Bool :=
 (bif (a.Inf == 0) then
  true
 else
  ((a.N == 0) && ((a.Inf == (-1)) || (a.Inf == 1))))
def ZAC (a : Bound) (b : Bound) : Option (Bound × Int) :=
 (bif ((!(Z1E a)) || (!(Z1E b))) then
  some ((Bound.mk 0 0), 2)
 else
  (bif ((a.Inf == 0) && (b.Inf == 0)) then
   (Z6O a.N b.N).bind fun x1 =>
   some ((Bound.mk 0 x1.1), x1.2)
  else
   (bif ((IntKind.i8.wrap (a.Inf * b.Inf)) == (-1)) then
    some ((Bound.mk 0 0), 10)
   else
    (bif (a.Inf == 0) then
     some (b, 0)
    else
     some (a, 0)))))
def Z8c (a : Bound) : Option (Bound × Int) :=
 (bif (!(Z1E a)) then
  some ((Bound.mk 0 0), 2)
 else
  (bif (a.Inf != 0) then
   some ((Bound.mk (IntKind.i8.wrap (0 - a.Inf)) 0), 0)
  else
   (Z4P 0 a.N).bind fun x1 =>
   some ((Bound.mk 0 x1.1), x1.2)))
def Z8V (a : Bound) : Bool :=
 (Z1E a)
def Z9L (a : Bound) (b : Bound) : Bool :=
 (bif ((!(Z1E a)) || (!(Z1E b))) then
  false
 else
  (bif ((a.Inf == 0) && (b.Inf == 0)) then
   (decide (a.N < b.N))
  else
   (decide (a.Inf < b.Inf))))
def epactlaw01_SafeBounds (a : Bound) (b : Bound) : Option (Bool) :=
 (ZAC a b).bind fun x1 =>
 (Z8c a).bind fun x2 =>
 some ((((((((((safe_Sum a b).1.Inf) == x1.1.Inf) && ((((safe_Sum a b).1.N) == x1.1.N) && true)) && (((safe_Sum a b).2) == x1.2)) && ((((Z7C a).1.Inf) == x2.1.Inf) && ((((Z7C a).1.N) == x2.1.N) && true))) && (((Z7C a).2) == x2.2)) && ((Z3P a) == (Z8V a))) && ((safe_Less a b) == (Z9L a b))) && Z56)
def ZN : Form :=
 (Form.mk 7 1 [[(Span.mk 0 4)]] [])
def ZR : Form :=
 (Form.mk 1 1 [[(Span.mk 0 0)]] [])
def Z0g (f : Form) (m : Int) : Option (Int × Int) :=
 (bif (f.Count == 0) then
  some (0, 0)
 else
  (Z4y f.Count m).bind fun x1 =>
  (nz? m).bind fun u1 =>
  some ((w64 (x1.1.tdiv m)), x1.1))
def Z0N.s0 {S : Type} (p1' : Int) (p2' : Int → Option ((List Span) × Int)) (p3' : Int) (yield : S → ((List Span) × Int) → Option (S × Bool)) (s1 : Int × S) : Option ((Int × S) ⊕ (Jx (S) (S))) :=
 (bif (decide (s1.1 < p1')) then
  (p2' (w64 (p3' + s1.1))).bind fun x1 =>
  (yield s1.2 (x1.1, x1.2)).bind fun x2 =>
  (bif (!x2.2) then
   some (.inr (.ret x2.1))
  else
   some (.inl ((w64 (s1.1 + 1)), x2.1)))
 else
  some (.inr (.go s1.2)))
def Z0N {S : Type} (p1' : Int) (p2' : Int → Option ((List Span) × Int)) (p3' : Int) (yield : S → ((List Span) × Int) → Option (S × Bool)) (st' : S) : Option (S) :=
 (ZM (Z0N.s0 p1' p2' p3' yield) (0, st')).bind fun (y1 : Jx (S) (S)) =>
 y1.elim (fun r' =>
   some r') fun a2 =>
 some a2
def Zk.b0 (s2 : (List Span) × Int) (z2 : (List Span) × Int) : Option (((List Span) × Int) × Nat) :=
 (
  (
   (bif (z2.2 != 0) then
    some (.ret ())
   else
    (
     (
      (bif ((decide ((s2.1.length : Int) > 0)) && (decide ((z2.1.length : Int) > 0))) then
       (at? z2.1 0).bind fun x1 =>
       (at? s2.1 (w64 ((s2.1.length : Int) - 1))).bind fun x2 =>
       some (x1.From == (w64 (x2.To + 1)))
      else
       some false)).bind fun (y6 : Bool) =>
     (bif y6 then
      (at? z2.1 0).bind fun x3 =>
      (at? s2.1 (w64 ((s2.1.length : Int) - 1))).bind fun x4 =>
      (cut? z2.1 1 (z2.1.length : Int)).bind fun x5 =>
      some (x5, (s2.1.set ((w64 ((s2.1.length : Int) - 1))).toNat (Span.mk x4.From x3.To)))
     else
      some (z2.1, s2.1))).bind fun (y5 : (List Span) × (List Span)) =>
    (app? 16 y5.2 y5.1).bind fun x6 =>
    some (.go x6))).bind fun (y4 : Jx ((List Span)) (Unit)) =>
  y4.elim (fun a6 =>
    some (.ret ())) fun a5 =>
  some (.go a5)).bind fun (y3 : Jx ((List Span)) (Unit)) =>
 y3.elim (fun a8 =>
   some ((s2.1, z2.2), 1)) fun a7 =>
 some ((a7, s2.2), 0)
def Zk (tell : Int → Option ((List Span) × Int)) (from' : Int) (many : Int) : Option ((List Span) × Int) :=
 (
  some ()).bind fun (y1 : Unit) =>
 (Z0N many tell from' (Z2A Zk.b0) (([], 0), 0)).bind fun (y2 : ((List Span) × Int) × Nat) =>
 (bif (y2.2 == 0) then
  some (y2.1.1, 0)
 else
  some ([], y2.1.2))
def Z1b (f : Form) (i : Int) : Option ((List Span) × Int) :=
 (bif (f.Count == 0) then
  some ([], 0)
 else
  (Z0j i f.Count).bind fun x1 =>
  (at? f.Core x1.2.1).bind fun x2 =>
  (bif ((x2.length : Int) == 0) then
   some ([], 0)
  else
   (bif ((x1.2.2 != 0) || (((Z9 x1.1 f.Period).2) != 0)) then
    some ([], 20)
   else
    (at? f.Core x1.2.1).bind fun x3 =>
    (Z0E x3 ((Z9 x1.1 f.Period).1)).bind fun x4 =>
    some (x4.1, x4.2))))
def Z0D (i : Int) (p1' : Form) : Option ((List Span) × Int) :=
 (Z1b p1' i).bind fun x1 =>
 some (x1.1, x1.2)
def Zd.s0 (f : Form) (s1 : Int × Int) : Option ((Int × Int) ⊕ (Int)) :=
 (bif (decide (s1.2 < (f.Core.length : Int))) then
  (at? f.Core s1.2).bind fun x2 =>
  some (.inl ((w64 (s1.1 + (x2.length : Int))), (w64 (s1.2 + 1))))
 else
  some (.inr s1.1))
def Zd.s1 (f : Form) (m : Int) (x1 : Int × Int) (s3 : Int × (List (List Span))) : Option ((Int × (List (List Span))) ⊕ (Jx ((List (List Span)) × Int) (Int))) :=
 (bif (decide (s3.1 < x1.1)) then
  (Zk (fun z0 => Z0D z0 f) (w64 (s3.1 * m)) m).bind fun x3 =>
  (bif (x3.2 != 0) then
   some (.inr (.ret x3.2))
  else
   (app? 24 s3.2 [x3.1]).bind fun x4 =>
   some (.inl ((w64 (s3.1 + 1)), x4)))
 else
  some (.inr (.go (s3.2, (Z9 f.Period (w64 (x1.2.tdiv f.Count))).1))))
def Zd (f : Form) (m : Int) : Option (Form × Int) :=
 (Z0g f m).bind fun x1 =>
 (bif (x1.1 == 0) then
  some ((Form.mk 0 0 [] []), 0)
 else
  (ZM (Zd.s0 f) (0, 0)).bind fun (y1 : Int) =>
  (nz? f.Count).bind fun u1 =>
  (bif (decide ((w64 (y1 * (w64 (x1.2.tdiv f.Count)))) > 60000)) then
   some ((Form.mk 0 0 [] []), 3)
  else
   (nz? f.Count).bind fun u2 =>
   (bif ((((Z9 f.Period (w64 (x1.2.tdiv f.Count))).2) != 0) || (decide (((Z9 f.Period (w64 (x1.2.tdiv f.Count))).1) > 1099511627776))) then
    some ((Form.mk 0 0 [] []), 20)
   else
    (ZM (Zd.s1 f m x1) (0, [])).bind fun (y2 : Jx ((List (List Span)) × Int) (Int)) =>
    y2.elim (fun a4 =>
      some ((Form.mk 0 0 [] []), a4)) fun a3 =>
    some ((Form.mk a3.2 x1.1 a3.1 []), 0))))
def Z1B (f : Form) : Option (Form × Int) :=
 (Z03 f).bind fun x1 =>
 (bif (x1 == 0) then
  (ZV f).bind fun x2 =>
  some (x2, 0)
 else
  (bif (x1 == 3) then
   some ((Form.mk 0 0 [] []), 3)
  else
   some ((Form.mk 0 0 [] []), 20)))
def Z0K (i : Int) (p1' : Form) : Option ((List Span) × Int) :=
 (Z0B p1' i).bind fun x1 =>
 some (x1.1, x1.2)
def ZU.s0 (f : Form) (m : Int) (s2 : Int × (List Granule)) : Option ((Int × (List Granule)) ⊕ (Jx ((List Granule)) (Form × Int))) :=
 (bif (decide (s2.1 < (f.Odd.length : Int))) then
  (
   (at? f.Odd s2.1).bind fun x2 =>
   (Z0j x2.Index m).bind fun x3 =>
   (
    (bif (decide ((s2.2.length : Int) > 0)) then
     (at? s2.2 (w64 ((s2.2.length : Int) - 1))).bind fun x4 =>
     some (x4.Index == x3.1)
    else
     some false)).bind fun (y3 : Bool) =>
   (bif y3 then
    some (.go s2.2)
   else
    (Zk (fun z0 => Z0K z0 f) (w64 (x3.1 * m)) m).bind fun x5 =>
    (bif (x5.2 != 0) then
     some (.ret ((Form.mk 0 0 [] []), 20))
    else
     (app? 32 s2.2 [(Granule.mk x3.1 x5.1)]).bind fun x6 =>
     some (.go x6)))).bind fun (y2 : Jx ((List Granule)) (Form × Int)) =>
  y2.elim (fun r' =>
    some (.inr (.ret r'))) fun a3 =>
  some (.inl ((w64 (s2.1 + 1)), a3))
 else
  some (.inr (.go s2.2)))
def ZU (f : Form) (m : Int) : Option (Form × Int) :=
 (bif ((decide (m < 1)) || (decide (m > 6000))) then
  some ((Form.mk 0 0 [] []), 2)
 else
  (Zd f m).bind fun x1 =>
  (bif (x1.2 != 0) then
   some ((Form.mk 0 0 [] []), x1.2)
  else
   (ZM (ZU.s0 f m) (0, [])).bind fun (y1 : Jx ((List Granule)) (Form × Int)) =>
   y1.elim (fun r' =>
     some r') fun a4 =>
   (Z1B (Form.mk x1.1.Period x1.1.Count x1.1.Core a4)).bind fun x7 =>
   some (x7.1, x7.2)))
def ZH (i : Int) : Bool :=
 ((decide (i ≥ (-1099511627776))) && (decide (i ≤ 1099511627776)))
def ZP.s0 (f : Form) (m : Int) (s2 : Int × (List (List Span))) : Option ((Int × (List (List Span))) ⊕ (Jx ((List (List Span))) (Form × Int))) :=
 (bif (decide (s2.1 < f.Count)) then
  (Z1b f (w64 (s2.1 - m))).bind fun x1 =>
  (bif (x1.2 != 0) then
   some (.inr (.ret ((Form.mk 0 0 [] []), x1.2)))
  else
   (app? 24 s2.2 [x1.1]).bind fun x2 =>
   some (.inl ((w64 (s2.1 + 1)), x2)))
 else
  some (.inr (.go s2.2)))
def ZP.s1 (f : Form) (m : Int) (s4 : Int × (List Granule)) : Option ((Int × (List Granule)) ⊕ (Jx ((List Granule)) (Form × Int))) :=
 (bif (decide (s4.1 < (f.Odd.length : Int))) then
  (at? f.Odd s4.1).bind fun x3 =>
  (bif (!(ZH (w64 (x3.Index + m)))) then
   some (.inr (.ret ((Form.mk 0 0 [] []), 20)))
  else
   (app? 16 [] x3.Ticks).bind fun x4 =>
   (app? 32 s4.2 [(Granule.mk (w64 (x3.Index + m)) x4)]).bind fun x5 =>
   some (.inl ((w64 (s4.1 + 1)), x5)))
 else
  some (.inr (.go s4.2)))
def ZP (f : Form) (m : Int) : Option (Form × Int) :=
 (bif (!(ZH m)) then
  some ((Form.mk 0 0 [] []), 2)
 else
  (ZM (ZP.s0 f m) (0, [])).bind fun (y1 : Jx ((List (List Span))) (Form × Int)) =>
  y1.elim (fun r' =>
    some r') fun a2 =>
  (ZM (ZP.s1 f m) (0, [])).bind fun (y2 : Jx ((List Granule)) (Form × Int)) =>
  y2.elim (fun r' =>
    some r') fun a4 =>
  (Z1B (Form.mk f.Period f.Count a2 a4)).bind fun x6 =>
  some (x6.1, x6.2))
def Z2a (f : Form) (i : Int) : Option (Bool × (List Span) × Int) :=
 (Z0B f i).bind fun x1 =>
 some (((decide ((x1.1.length : Int) > 0)) || (x1.2 != 0)), x1.1, x1.2)
def Z02.s0 (f : Form) (n : Int) (s2 : Int × Bool × (List Int)) : Option ((Int × Bool × (List Int)) ⊕ (Jx ((List Int)) (Form × Int))) :=
 (bif (s2.2.1 && (decide (s2.1 ≤ n))) then
  (app? 8 s2.2.2 [s2.1]).bind fun x3 =>
  (bif (decide ((x3.length : Int) > 6000)) then
   some (.inr (.ret ((Form.mk 0 0 [] []), 3)))
  else
   (Z0u f s2.1).bind fun x4 =>
   some (.inl (x4.1, x4.2, x3)))
 else
  some (.inr (.go s2.2.2)))
def Z02.s1 (f : Form) (a2 : (List Int)) (s4 : Int × (List Granule)) : Option ((Int × (List Granule)) ⊕ (Jx ((List Granule)) (Form × Int))) :=
 (bif (decide (s4.1 < (a2.length : Int))) then
  (at? a2 s4.1).bind fun x5 =>
  (Z2a f x5).bind fun x6 =>
  (bif (x6.2.2 != 0) then
   some (.inr (.ret ((Form.mk 0 0 [] []), 20)))
  else
   (app? 32 s4.2 [(Granule.mk x5 x6.2.1)]).bind fun x7 =>
   some (.inl ((w64 (s4.1 + 1)), x7)))
 else
  some (.inr (.go s4.2)))
def Z02 (f : Form) (m : Int) (n : Int) : Option (Form × Int) :=
 (bif (((!(ZH m)) || (!(ZH n))) || (decide (m > n))) then
  some ((Form.mk 0 0 [] []), 2)
 else
  (
   (Z2a f m).bind fun x1 =>
   (bif (!x1.1) then
    (Z0u f m).bind fun x2 =>
    some (x2.1, x2.2)
   else
    some (m, true))).bind fun (y1 : Int × Bool) =>
  (ZM (Z02.s0 f n) (y1.1, y1.2, [])).bind fun (y2 : Jx ((List Int)) (Form × Int)) =>
  y2.elim (fun r' =>
    some r') fun a2 =>
  (ZM (Z02.s1 f a2) (0, [])).bind fun (y3 : Jx ((List Granule)) (Form × Int)) =>
  y3.elim (fun r' =>
    some r') fun a4 =>
  (Z1B (Form.mk 0 0 [] a4)).bind fun x8 =>
  some (x8.1, x8.2))
def Z1V : Option (Bool) :=
 (ZU ZR 7).bind fun x1 =>
 (ZP ZR 3).bind fun x2 =>
 (Z02 ZR 2 4).bind fun x3 =>
 (ZU (Form.mk ZN.Period ZN.Count ZN.Core [(Granule.mk 1 [(Span.mk 8 11)])]) 2).bind fun x4 =>
 (Z0B x2.1 0).bind fun x5 =>
 (ZU ZR 0).bind fun x6 =>
 (Z02 ZR 2 1).bind fun x7 =>
 (ZU (Form.mk 549755813888 1 [[(Span.mk 0 0)]] []) 4).bind fun x8 =>
 (
  (bif (((((((((((x1.2 == 0) && (x2.2 == 0)) && (x3.2 == 0)) && (x4.2 == 0)) && (x5.2 == 0)) && (x6.2 == 2)) && (x7.2 == 2)) && (x8.2 == 20)) && (x1.1.Period == 7)) && (x1.1.Count == 1)) && ((x1.1.Core.length : Int) == 1)) then
   (at? x1.1.Core 0).bind fun x9 =>
   (Ze x9 [(Span.mk 0 6)]).bind fun x10 =>
   some x10
  else
   some false)).bind fun (y1 : Bool) =>
 (
  (bif y1 then
   (Ze x5.1 [(Span.mk (-3) (-3))]).bind fun x11 =>
   some x11
  else
   some false)).bind fun (y2 : Bool) =>
 (
  (bif (y2 && ((x3.1.Odd.length : Int) == 3)) then
   (at? x3.1.Odd 0).bind fun x12 =>
   some (x12.Index == 2)
  else
   some false)).bind fun (y3 : Bool) =>
 (
  (bif ((y3 && (x3.1.Count == 0)) && ((x4.1.Odd.length : Int) == 1)) then
   (at? x4.1.Odd 0).bind fun x13 =>
   some (x13.Index == 0)
  else
   some false)).bind fun (y4 : Bool) =>
 some y4
def ZI : Bool := true
def Z3K.s0 (f : Form) (m : Int) (at' : Int) (x2 : Form × Int) (s1 : Int) : Option ((Int) ⊕ (Jx (Unit) (Bool))) :=
 (bif (decide (s1 < ([((w64 at').fdiv (2 ^ 1)), m, (w64 (m + 1)), 0].length : Int))) then
  (at? [((w64 at').fdiv (2 ^ 1)), m, (w64 (m + 1)), 0] s1).bind fun x3 =>
  (Z0B f (w64 (x3 - m))).bind fun x4 =>
  (Z0B x2.1 x3).bind fun x5 =>
  (
   (bif ((x4.2 == 0) && (x5.2 == 0)) then
    (Z0h x5.1 x4.1).bind fun x6 =>
    some (!x6)
   else
    some false)).bind fun (y2 : Bool) =>
  (bif (y2 || ((((x4.2 == 0) && (x5.2 != 0)) && (decide (x3 ≥ (-1099511627776)))) && (decide (x3 ≤ 1099511627776)))) then
   some (.inr (.ret false))
  else
   some (.inl (w64 (s1 + 1))))
 else
  some (.inr (.go ())))
def Z3K (f : Form) (m : Int) (at' : Int) : Option (Bool) :=
 (Z1G f).bind fun x1 =>
 (bif (!x1) then
  some ZI
 else
  (ZP f m).bind fun x2 =>
  (bif (x2.2 != 0) then
   some ((((x2.2 == 2) == ((decide (m < (-1099511627776))) || (decide (m > 1099511627776)))) && ((x2.2 == 2) || (x2.2 == 20))) && ZI)
  else
   (ZM (Z3K.s0 f m at' x2) 0).bind fun (y1 : Jx (Unit) (Bool)) =>
   y1.elim (fun r' =>
     some r') fun a2 =>
   (ZP x2.1 (w64 (0 - m))).bind fun x7 =>
   (canon_Is x2.1).bind fun x8 =>
   (
    (bif x8 then
     (
      (bif (x7.2 != 0) then
       some true
      else
       (ZV f).bind fun x9 =>
       (ZK x7.1 x9).bind fun x10 =>
       some x10)).bind fun (y4 : Bool) =>
     some y4
    else
     some false)).bind fun (y3 : Bool) =>
   some (y3 && ZI)))
def Z14 (f : Form) (m : Int) (n : Int) (k : Int) : Option (Bool) :=
 (Z1G f).bind fun x1 =>
 (bif (!x1) then
  some ZI
 else
  (ZU f (w64 (1 + (w64 (m.tmod 12))))).bind fun x2 =>
  (ZU f 1).bind fun x3 =>
  (
   (bif (x3.2 != 0) then
    some true
   else
    (ZV f).bind fun x4 =>
    (ZK x3.1 x4).bind fun x5 =>
    some (!x5))).bind fun (y1 : Bool) =>
  (bif y1 then
   some false
  else
   (bif (x2.2 != 0) then
    some ZI
   else
    (ZU x2.1 (w64 (1 + (w64 (n.tmod 12))))).bind fun x6 =>
    (ZU f (w64 ((w64 (1 + (w64 (m.tmod 12)))) * (w64 (1 + (w64 (n.tmod 12))))))).bind fun x7 =>
    (
     (bif ((x6.2 == 0) && (x7.2 == 0)) then
      (ZK x6.1 x7.1).bind fun x8 =>
      some (!x8)
     else
      some false)).bind fun (y2 : Bool) =>
    (bif y2 then
     some false
    else
     (ZP x2.1 (w64 (k.tmod 20))).bind fun x9 =>
     (ZP f (w64 ((w64 (1 + (w64 (m.tmod 12)))) * (w64 (k.tmod 20))))).bind fun x10 =>
     (bif ((x9.2 != 0) || (x10.2 != 0)) then
      some ZI
     else
      (ZU x10.1 (w64 (1 + (w64 (m.tmod 12))))).bind fun x11 =>
      (
       (bif (x11.2 != 0) then
        some true
       else
        (ZK x9.1 x11.1).bind fun x12 =>
        some x12)).bind fun (y3 : Bool) =>
      some (y3 && ZI))))))
end
end Go.Dn

namespace Go.Dn
open Go
noncomputable section
def Le {α : Type} (a b : Option α) : Prop := ∀ r, a = some r → b = some r
theorem Le.refl {α : Type} (a : Option α) : Le a a := fun _ h => h
theorem Le.bind {α β : Type} {a b : Option α} {f g : α → Option β} (h : Le a b) (hf : ∀ x, Le (f x) (g x)) : Le (a.bind f) (b.bind g) := fun r hr => by
 cases ha : a with
 | none => rw [ha] at hr; cases hr
 | some x => rw [ha] at hr; rw [h x ha]; exact hf x r hr
theorem Le.cond {α : Type} {c : Bool} {a b a' b' : Option α} (h : Le a a') (h' : Le b b') : Le (bif c then a else b) (bif c then a' else b') := by
 cases c
 ·exact h'
 ·exact h
theorem Le.elim {A B C : Type} {y : Jx A B} {f f' : B → Option C} {g g' : A → Option C} (h : ∀ r, Le (f r) (f' r)) (h' : ∀ a, Le (g a) (g' a)) : Le (y.elim f g) (y.elim f' g') := by
 cases y
 ·exact h' _
 ·exact h _
theorem Le.Z2A {S T : Type} {f g : S → T → Option (S × Nat)} (h : ∀ s t, Le (f s t) (g s t)) (s : S × Nat) (t : T) : Le (Z2A f s t) (Z2A g s t) := fun r hr => by
 unfold Go.Dn.Z2A at hr ⊢
 split at hr
 ·rename_i h0;rw [if_pos h0];cases ha : f s.1 t with
  | none => rw [ha] at hr; cases hr
  | some x => rw [ha] at hr; rw [h _ _ x ha]; exact hr
 ·cases hr
def Z1W {S R : Type} (step : S → Option (S ⊕ R)) (s : S) : Option R := Z3M step 1000000 s
theorem iterO_le {S R : Type} {step step' : S → Option (S ⊕ R)} (h : ∀ s, Le (step s) (step' s)) : ∀ (n : Nat) (s : S), Le (Z3M step n s) (Z3M step' n s)
 | 0, s => fun r hr => by cases hr
 | n + 1, s => fun r hr => by
  simp only [Z3M] at hr ⊢;cases hs : step s with
  | none => rw [hs] at hr; cases hr
  | some x =>
   rw [hs] at hr;rw [h s x hs];cases x with
   | inl s' => exact iterO_le h n s' r hr
   | inr r' => exact hr
theorem Le.loop {S R : Type} {step step' : S → Option (S ⊕ R)} {s : S} (h : ∀ s, Le (step s) (step' s)) : Le (Z1W step s) (ZM step' s) := fun r hr => Zb.2 ⟨1000000, iterO_le h _ s r hr⟩
def Z5Z (f : Form) : Option (Int) :=
 (Z1W (Z06.s0 f) (0, 0)).bind fun (y1 : Int) =>
 (Z1W (Z06.s1 f) (y1, 0)).bind fun (y2 : Int) =>
 some y2
theorem Z9l {f : Form} : Le (Z5Z f) (Z06 f) := by
 unfold Z5Z Z06
 repeat' (with_reducible (first | exact Le.refl _ | apply Le.bind | apply Le.loop | intro _))
def Z3F (l : (List Span)) : Option (Bool) :=
 (Z1W (Z09.s0 l) 0).bind fun (y1 : Jx (Unit) (Bool)) =>
 y1.elim (fun r' =>
   some r') fun a2 =>
 some true
theorem Z55 {l : (List Span)} : Le (Z3F l) (Z09 l) := by
 unfold Z3F Z09
 repeat' (with_reducible (first | exact Le.refl _ | apply Le.bind | apply Le.elim | apply Le.loop | intro _))
def Z0X.s0 (f : Form) (s1 : Int) : Option ((Int) ⊕ (Jx (Unit) (Bool))) :=
 (bif (decide (s1 < (f.Core.length : Int))) then
  (at? f.Core s1).bind fun x1 =>
  (Z3F x1).bind fun x2 =>
  (bif (!x2) then
   some (.inr (.ret false))
  else
   some (.inl (w64 (s1 + 1))))
 else
  some (.inr (.go ())))
theorem Z7L {f : Form} {s1 : Int} : Le (Z0X.s0 f s1) (Zm.s0 f s1) := by
 unfold Z0X.s0 Zm.s0
 repeat' (with_reducible (first | exact Le.refl _ | apply Le.bind | apply Le.cond | apply Z55 | intro _))
def Z0X.s1 (f : Form) (s2 : Int) : Option ((Int) ⊕ (Jx (Unit) (Bool))) :=
 (bif (decide (s2 < (f.Odd.length : Int))) then
  (at? f.Odd s2).bind fun x3 =>
  (Z3F x3.Ticks).bind fun x4 =>
  (
   (bif ((!x4) || (!(Zo x3.Index))) then
    some true
   else
    (
     (bif (decide (s2 > 0)) then
      (at? f.Odd (w64 (s2 - 1))).bind fun x5 =>
      some (decide (x3.Index ≤ x5.Index))
     else
      some false)).bind fun (y4 : Bool) =>
    some y4)).bind fun (y3 : Bool) =>
  (bif y3 then
   some (.inr (.ret false))
  else
   some (.inl (w64 (s2 + 1))))
 else
  some (.inr (.go ())))
theorem Z78 {f : Form} {s2 : Int} : Le (Z0X.s1 f s2) (Zm.s1 f s2) := by
 unfold Z0X.s1 Zm.s1
 repeat' (with_reducible (first | exact Le.refl _ | apply Le.bind | apply Le.cond | apply Z55 | intro _))
def Z0X (f : Form) : Option (Bool) :=
 (bif ((((f.Count != (f.Core.length : Int)) || ((f.Count == 0) != (f.Period == 0))) || (decide (f.Period < 0))) || (decide (f.Period > 1099511627776))) then
  some false
 else
  (Z1W (Z0X.s0 f) 0).bind fun (y1 : Jx (Unit) (Bool)) =>
  y1.elim (fun r' =>
    some r') fun a2 =>
  (Z1W (Z0X.s1 f) 0).bind fun (y2 : Jx (Unit) (Bool)) =>
  y2.elim (fun r' =>
    some r') fun a4 =>
  some true)
theorem Z9M {f : Form} : Le (Z0X f) (Zm f) := by
 unfold Z0X Zm
 repeat' (with_reducible (first | exact Le.refl _ | apply Le.bind | apply Le.cond | apply Le.elim | apply Le.loop | apply Z7L | apply Z78 | intro _))
def Z4o (f : Form) : Option (Bool) :=
 (Z1W (Z0C.s0 f) (0, [])).bind fun (y1 : (List (List Span))) =>
 (Z1W (Z0C.s1 f y1) 0).bind fun (y4 : Jx (Unit) (Bool)) =>
 y4.elim (fun r' =>
   some r') fun a6 =>
 some true
theorem Z9Y {f : Form} : Le (Z4o f) (Z0C f) := by
 unfold Z4o Z0C
 repeat' (with_reducible (first | exact Le.refl _ | apply Le.bind | apply Le.elim | apply Le.loop | intro _))
def ZL.s0 (x' : (List Granule)) (target : Int) (cmp : Granule → Int → Option Int) (s1 : Int × Int) : Option ((Int × Int) ⊕ (Int)) :=
 (bif (decide (s1.1 < s1.2)) then
  (
   (at? x' (w64 ((IntKind.u64.wrap (w64 (s1.1 + s1.2))).fdiv (2 ^ 1)))).bind fun x1 =>
   (cmp x1 target).bind fun x2 =>
   (bif (decide (x2 < 0)) then
    some ((w64 ((w64 ((IntKind.u64.wrap (w64 (s1.1 + s1.2))).fdiv (2 ^ 1))) + 1)), s1.2)
   else
    some (s1.1, (w64 ((IntKind.u64.wrap (w64 (s1.1 + s1.2))).fdiv (2 ^ 1)))))).bind fun (y2 : Int × Int) =>
  some (.inl (y2.1, y2.2))
 else
  some (.inr s1.1))
theorem Z15 {x' : (List Granule)} {target : Int} {cmp cmp_ : Granule → Int → Option Int} {s1 : Int × Int} (h_cmp : ∀ z0 z1, Le (cmp z0 z1) (cmp_ z0 z1)) : Le (ZL.s0 x' target cmp s1) (Z6.s0 x' target cmp_ s1) := by
 unfold ZL.s0 Z6.s0
 repeat' (with_reducible (first | exact Le.refl _ | exact h_cmp _ _ | exact h_cmp | apply Le.bind | apply Le.cond | intro _))
def ZL (x' : (List Granule)) (target : Int) (cmp : Granule → Int → Option Int) : Option (Int × Bool) :=
 (Z1W (ZL.s0 x' target cmp) (0, (x'.length : Int))).bind fun (y1 : Int) =>
 (
  (bif (decide (y1 < (x'.length : Int))) then
   (at? x' y1).bind fun x3 =>
   (cmp x3 target).bind fun x4 =>
   some (x4 == 0)
  else
   some false)).bind fun (y3 : Bool) =>
 some (y1, y3)
theorem Z1M {x' : (List Granule)} {target : Int} {cmp cmp_ : Granule → Int → Option Int} (h_cmp : ∀ z0 z1, Le (cmp z0 z1) (cmp_ z0 z1)) : Le (ZL x' target cmp) (Z6 x' target cmp_) := by
 unfold ZL Z6
 repeat' (with_reducible (first | exact Le.refl _ | exact h_cmp _ _ | exact h_cmp | apply Le.bind | apply Le.cond | apply Le.loop | apply Z15 | intro _))
def Z4i (f : Form) (i : Int) : Option (Int × Bool) :=
 (ZL f.Odd i (fun z0 z1 => some (Z2y z0 z1))).bind fun x1 =>
 some (x1.1, x1.2)
theorem Z6n {f : Form} {i : Int} : Le (Z4i f i) (Z3t f i) := by
 unfold Z4i Z3t
 repeat' (with_reducible (first | exact Le.refl _ | apply Le.bind | apply Z1M | intro _))
def Z43 (f : Form) (i : Int) : Option ((List Span) × Int × Int) :=
 (Z4i f i).bind fun x1 =>
 (bif x1.2 then
  (at? f.Odd x1.1).bind fun x2 =>
  some (x2.Ticks, 0, 0)
 else
  (bif (f.Count == 0) then
   some ([], 0, 0)
  else
   (Z0j i f.Count).bind fun x3 =>
   (at? f.Core x3.2.1).bind fun x4 =>
   some (x4, (Z9 x3.1 f.Period).1, (Z9 x3.1 f.Period).2)))
theorem Z5y {f : Form} {i : Int} : Le (Z43 f i) (Z29 f i) := by
 unfold Z43 Z29
 repeat' (with_reducible (first | exact Le.refl _ | apply Le.bind | apply Le.cond | apply Z6n | intro _))
def Z3a (l : (List Span)) (by' : Int) : Option ((List Span) × Int) :=
 (Z1W (Z0E.s0 l by') (0, [])).bind fun (y1 : Jx ((List Span)) ((List Span) × Int)) =>
 y1.elim (fun r' =>
   some r') fun a2 =>
 some (a2, 0)
theorem Z5n {l : (List Span)} {by' : Int} : Le (Z3a l by') (Z0E l by') := by
 unfold Z3a Z0E
 repeat' (with_reducible (first | exact Le.refl _ | apply Le.bind | apply Le.elim | apply Le.loop | intro _))
def Z1R (f : Form) (i : Int) : Option ((List Span) × Int) :=
 (bif (!(Zo i)) then
  some ([], 20)
 else
  (Z43 f i).bind fun x1 =>
  (bif ((x1.1.length : Int) == 0) then
   some ([], 0)
  else
   (bif (x1.2.2 != 0) then
    some ([], 20)
   else
    (Z3a x1.1 x1.2.1).bind fun x2 =>
    some (x2.1, x2.2))))
theorem Z2m {f : Form} {i : Int} : Le (Z1R f i) (Z0B f i) := by
 unfold Z1R Z0B
 repeat' (with_reducible (first | exact Le.refl _ | apply Le.bind | apply Le.cond | apply Z5y | apply Z5n | intro _))
def Zf.s0 (s : (List (List Span))) (f : (List Span) → Option Bool) (s1 : Int) : Option ((Int) ⊕ (Jx (Unit) (Int))) :=
 (bif (decide (s1 < (s.length : Int))) then
  (at? s s1).bind fun x1 =>
  (f x1).bind fun x2 =>
  (bif x2 then
   some (.inr (.ret s1))
  else
   some (.inl (w64 (s1 + 1))))
 else
  some (.inr (.go ())))
theorem Z2e {s : (List (List Span))} {f f_ : (List Span) → Option Bool} {s1 : Int} (h_f : ∀ z0, Le (f z0) (f_ z0)) : Le (Zf.s0 s f s1) (ZE.s0 s f_ s1) := by
 unfold Zf.s0 ZE.s0
 repeat' (with_reducible (first | exact Le.refl _ | exact h_f _ | exact h_f | apply Le.bind | apply Le.cond | intro _))
def Zf (s : (List (List Span))) (f : (List Span) → Option Bool) : Option (Int) :=
 (Z1W (Zf.s0 s f) 0).bind fun (y1 : Jx (Unit) (Int)) =>
 y1.elim (fun r' =>
   some r') fun a2 =>
 some (-1)
theorem Z2x {s : (List (List Span))} {f f_ : (List Span) → Option Bool} (h_f : ∀ z0, Le (f z0) (f_ z0)) : Le (Zf s f) (ZE s f_) := by
 unfold Zf ZE
 repeat' (with_reducible (first | exact Le.refl _ | exact h_f _ | exact h_f | apply Le.bind | apply Le.elim | apply Le.loop | apply Z2e | intro _))
def Z0G (s : (List (List Span))) (f : (List Span) → Option Bool) : Option (Bool) :=
 (Zf s f).bind fun x1 =>
 some (decide (x1 ≥ 0))
theorem Z0v {s : (List (List Span))} {f f_ : (List Span) → Option Bool} (h_f : ∀ z0, Le (f z0) (f_ z0)) : Le (Z0G s f) (Za s f_) := by
 unfold Z0G Za
 repeat' (with_reducible (first | exact Le.refl _ | exact h_f _ | exact h_f | apply Le.bind | apply Z2x | intro _))
def Z5g (f : Form) : Option (Bool) :=
 (Z0G f.Core (fun z0 => some (Z3o z0))).bind fun x1 =>
 some (!x1)
theorem Z9s {f : Form} : Le (Z5g f) (Z2b f) := by
 unfold Z5g Z2b
 repeat' (with_reducible (first | exact Le.refl _ | apply Le.bind | apply Z0v | intro _))
def Z5P (f : Form) (i : Int) : Option (Bool) :=
 (Z43 f i).bind fun x1 =>
 some (decide ((x1.1.length : Int) > 0))
theorem Z9j {f : Form} {i : Int} : Le (Z5P f i) (Z3U f i) := by
 unfold Z5P Z3U
 repeat' (with_reducible (first | exact Le.refl _ | apply Le.bind | apply Z5y | intro _))
def Z1S.s1 (f : Form) (by' : Int) (s2 : Int) : Option ((Int) ⊕ (Jx (Unit) (Int × Bool))) :=
 (bif (Zo s2) then
  (Z5P f s2).bind fun x5 =>
  (bif x5 then
   some (.inr (.ret (s2, true)))
  else
   some (.inl (w64 (s2 + by'))))
 else
  some (.inr (.go ())))
theorem Z7x {f : Form} {by' : Int} {s2 : Int} : Le (Z1S.s1 f by' s2) (Zu.s1 f by' s2) := by
 unfold Z1S.s1 Zu.s1
 repeat' (with_reducible (first | exact Le.refl _ | apply Le.bind | apply Le.cond | apply Z9j | intro _))
def Z1S (f : Form) (from' : Int) (by' : Int) : Option (Int × Bool) :=
 (Z5g f).bind fun x1 =>
 (bif x1 then
  (Z4i f from').bind fun x2 =>
  (
   (bif ((decide (by' < 0)) && (!x2.2)) then
    some (w64 (x2.1 - 1))
   else
    some x2.1)).bind fun (y1 : Int) =>
  (Z1W (Zu.s0 f by') y1).bind fun (y2 : Jx (Unit) (Int × Bool)) =>
  y2.elim (fun r' =>
    some r') fun a2 =>
  some (0, false)
 else
  (Z1W (Z1S.s1 f by') from').bind fun (y3 : Jx (Unit) (Int × Bool)) =>
  y3.elim (fun r' =>
    some r') fun a4 =>
  some (0, false))
theorem Z6I {f : Form} {from' : Int} {by' : Int} : Le (Z1S f from' by') (Zu f from' by') := by
 unfold Z1S Zu
 repeat' (with_reducible (first | exact Le.refl _ | apply Le.bind | apply Le.cond | apply Le.elim | apply Le.loop | apply Z9s | apply Z6n | apply Z7x | intro _))
def Z4H (f : Form) (i : Int) : Option (Int × Bool) :=
 (bif (decide (i ≤ (-1099511627776))) then
  some (0, false)
 else
  (Z1S f (iMin (w64 (i - 1)) 1099511627776) (-1)).bind fun x1 =>
  some (x1.1, x1.2))
theorem Z8j {f : Form} {i : Int} : Le (Z4H f i) (Z18 f i) := by
 unfold Z4H Z18
 repeat' (with_reducible (first | exact Le.refl _ | apply Le.bind | apply Le.cond | apply Z6I | intro _))
def Z2H (f : Form) (i : Int) : Option (Int × Bool) :=
 (bif (decide (i ≥ 1099511627776)) then
  some (0, false)
 else
  (Z1S f (iMax (w64 (i + 1)) (-1099511627776)) 1).bind fun x1 =>
  some (x1.1, x1.2))
theorem Z3R {f : Form} {i : Int} : Le (Z2H f i) (Z0u f i) := by
 unfold Z2H Z0u
 repeat' (with_reducible (first | exact Le.refl _ | apply Le.bind | apply Le.cond | apply Z6I | intro _))
def Z4Y (f : Form) (i : Int) : Option (Bool) :=
 (Z1R f i).bind fun x1 =>
 (bif (x1.2 != 0) then
  some false
 else
  (Z4H f i).bind fun x2 =>
  (Z2H f i).bind fun x3 =>
  (
   (bif x2.2 then
    (Z1R f x2.1).bind fun x4 =>
    (bif (x4.2 != 0) then
     some (.ret false)
    else
     some (.go x4.1))
   else
    some (.go []))).bind fun (y1 : Jx ((List Span)) (Bool)) =>
  y1.elim (fun r' =>
    some r') fun a2 =>
  (
   (bif x3.2 then
    (Z1R f x3.1).bind fun x5 =>
    (bif (x5.2 != 0) then
     some (.ret false)
    else
     some (.go x5.1))
   else
    some (.go []))).bind fun (y2 : Jx ((List Span)) (Bool)) =>
  y2.elim (fun r' =>
    some r') fun a4 =>
  (Z0V a2 x1.1).bind fun x6 =>
  (
   (bif x6 then
    (Z0V x1.1 a4).bind fun x7 =>
    some x7
   else
    some false)).bind fun (y3 : Bool) =>
  (
   (bif y3 then
    (Z0V a2 a4).bind fun x8 =>
    some x8
   else
    some false)).bind fun (y4 : Bool) =>
  some y4)
theorem Z8T {f : Form} {i : Int} : Le (Z4Y f i) (Z1T f i) := by
 unfold Z4Y Z1T
 repeat' (with_reducible (first | exact Le.refl _ | apply Le.bind | apply Le.cond | apply Le.elim | apply Z2m | apply Z8j | apply Z3R | intro _))
def Z1d.s0 (f : Form) (s1 : Int) : Option ((Int) ⊕ (Jx (Unit) (Int))) :=
 (bif (decide (s1 < (f.Odd.length : Int))) then
  (at? f.Odd s1).bind fun x4 =>
  (Z4Y f x4.Index).bind fun x5 =>
  (bif (!x5) then
   some (.inr (.ret 50))
  else
   some (.inl (w64 (s1 + 1))))
 else
  some (.inr (.go ())))
theorem Z7Q {f : Form} {s1 : Int} : Le (Z1d.s0 f s1) (Z03.s0 f s1) := by
 unfold Z1d.s0 Z03.s0
 repeat' (with_reducible (first | exact Le.refl _ | apply Le.bind | apply Le.cond | apply Z8T | intro _))
def Z1d (f : Form) : Option (Int) :=
 (
  (bif ((decide ((f.Core.length : Int) > 6000)) || (decide ((f.Odd.length : Int) > 6000))) then
   some true
  else
   (Z5Z f).bind fun x1 =>
   some (decide (x1 > 60000)))).bind fun (y1 : Bool) =>
 (bif y1 then
  some 3
 else
  (Z0X f).bind fun x2 =>
  (
   (bif (!x2) then
    some true
   else
    (Z4o f).bind fun x3 =>
    some (!x3))).bind fun (y2 : Bool) =>
  (bif y2 then
   some 50
  else
   (Z1W (Z1d.s0 f) 0).bind fun (y3 : Jx (Unit) (Int)) =>
   y3.elim (fun r' =>
     some r') fun a2 =>
   some 0))
theorem Z9N {f : Form} : Le (Z1d f) (Z03 f) := by
 unfold Z1d Z03
 repeat' (with_reducible (first | exact Le.refl _ | apply Le.bind | apply Le.cond | apply Le.elim | apply Le.loop | apply Z9l | apply Z9M | apply Z9Y | apply Z7Q | intro _))
def Z1J (s1' : (List Span)) (s2' : (List Span)) : Option (Bool) :=
 (bif ((s1'.length : Int) != (s2'.length : Int)) then
  some false
 else
  (Z1W (ZT.s0 s1' s2') 0).bind fun (y1 : Jx (Unit) (Bool)) =>
  y1.elim (fun r' =>
    some r') fun a2 =>
  some true)
theorem Z3z {s1' : (List Span)} {s2' : (List Span)} : Le (Z1J s1' s2') (ZT s1' s2') := by
 unfold Z1J ZT
 repeat' (with_reducible (first | exact Le.refl _ | apply Le.bind | apply Le.cond | apply Le.elim | apply Le.loop | intro _))
def Z4q (a : (List Span)) (b : (List Span)) : Option (Bool) :=
 (Z1J a b).bind fun x1 =>
 some x1
theorem Z9W {a : (List Span)} {b : (List Span)} : Le (Z4q a b) (Z0h a b) := by
 unfold Z4q Z0h
 repeat' (with_reducible (first | exact Le.refl _ | apply Le.bind | apply Z3z | intro _))
def ZO.s0 (s1' : (List Span)) (s2' : (List Span)) (eq : Span → Span → Option Bool) (s1 : Int) : Option ((Int) ⊕ (Jx (Unit) (Bool))) :=
 (bif (decide (s1 < (s1'.length : Int))) then
  (at? s1' s1).bind fun x1 =>
  (at? s2' s1).bind fun x2 =>
  (eq x1 x2).bind fun x3 =>
  (bif (!x3) then
   some (.inr (.ret false))
  else
   some (.inl (w64 (s1 + 1))))
 else
  some (.inr (.go ())))
theorem Z1h {s1' : (List Span)} {s2' : (List Span)} {eq eq_ : Span → Span → Option Bool} {s1 : Int} (h_eq : ∀ z0 z1, Le (eq z0 z1) (eq_ z0 z1)) : Le (ZO.s0 s1' s2' eq s1) (ZB.s0 s1' s2' eq_ s1) := by
 unfold ZO.s0 ZB.s0
 repeat' (with_reducible (first | exact Le.refl _ | exact h_eq _ _ | exact h_eq | apply Le.bind | apply Le.cond | intro _))
def ZO (s1' : (List Span)) (s2' : (List Span)) (eq : Span → Span → Option Bool) : Option (Bool) :=
 (bif ((s1'.length : Int) != (s2'.length : Int)) then
  some false
 else
  (Z1W (ZO.s0 s1' s2' eq) 0).bind fun (y1 : Jx (Unit) (Bool)) =>
  y1.elim (fun r' =>
    some r') fun a2 =>
  some true)
theorem Z1q {s1' : (List Span)} {s2' : (List Span)} {eq eq_ : Span → Span → Option Bool} (h_eq : ∀ z0 z1, Le (eq z0 z1) (eq_ z0 z1)) : Le (ZO s1' s2' eq) (ZB s1' s2' eq_) := by
 unfold ZO ZB
 repeat' (with_reducible (first | exact Le.refl _ | exact h_eq _ _ | exact h_eq | apply Le.bind | apply Le.cond | apply Le.elim | apply Le.loop | apply Z1h | intro _))
def Z2B (a : (List Span)) (b : (List Span)) : Option (Bool) :=
 (bif ((a.length : Int) != (b.length : Int)) then
  some false
 else
  (Z1W (Ze.s0 a b) 0).bind fun (y1 : Jx (Unit) (Bool)) =>
  y1.elim (fun r' =>
    some r') fun a2 =>
  some true)
theorem Z6k {a : (List Span)} {b : (List Span)} : Le (Z2B a b) (Ze a b) := by
 unfold Z2B Ze
 repeat' (with_reducible (first | exact Le.refl _ | apply Le.bind | apply Le.cond | apply Le.elim | apply Le.loop | intro _))
def Z4r (f : Form) : Option (Bool) :=
 (Z0G f.Core (fun z0 => some (Z45 z0))).bind fun x1 =>
 some (!x1)
theorem Z9U {f : Form} : Le (Z4r f) (Z32 f) := by
 unfold Z4r Z32
 repeat' (with_reducible (first | exact Le.refl _ | apply Le.bind | apply Z0v | intro _))
def Z0U.s0 (p1' : Int) {S : Type} (yield : S → Int → Option (S × Bool)) (s1 : Int × S) : Option ((Int × S) ⊕ (Jx (S) (S))) :=
 (bif (decide (s1.1 ≤ p1')) then
  (nz? s1.1).bind fun u1 =>
  (
   (bif ((p1'.tmod s1.1) == 0) then
    (yield s1.2 s1.1).bind fun x1 =>
    some ((!x1.2), x1.1)
   else
    some (false, s1.2))).bind fun (y2 : Bool × S) =>
  (bif y2.1 then
   some (.inr (.ret y2.2))
  else
   some (.inl ((w64 (s1.1 + 1)), y2.2)))
 else
  some (.inr (.go s1.2)))
theorem Z4u {p1' : Int} {S : Type} {yield yield_ : S → Int → Option (S × Bool)} {s1 : Int × S} (h_yield : ∀ z0 z1, Le (yield z0 z1) (yield_ z0 z1)) : Le (Z0U.s0 p1' yield s1) (Zt.s0 p1' yield_ s1) := by
 unfold Z0U.s0 Zt.s0
 repeat' (with_reducible (first | exact Le.refl _ | exact h_yield _ _ | exact h_yield | apply Le.bind | apply Le.cond | intro _))
def Z0U {S : Type} (p1' : Int) (yield : S → Int → Option (S × Bool)) (st' : S) : Option (S) :=
 (Z1W (Z0U.s0 p1' yield) (1, st')).bind fun (y1 : Jx (S) (S)) =>
 y1.elim (fun r' =>
   some r') fun a2 =>
 some a2
theorem Z5q {S : Type} {p1' : Int} {yield yield_ : S → Int → Option (S × Bool)} {st' : S} (h_yield : ∀ z0 z1, Le (yield z0 z1) (yield_ z0 z1)) : Le (Z0U p1' yield st') (Zt p1' yield_ st') := by
 unfold Z0U Zt
 repeat' (with_reducible (first | exact Le.refl _ | exact h_yield _ _ | exact h_yield | apply Le.bind | apply Le.elim | apply Le.loop | apply Z4u | intro _))
def Z3X (a : (List Span)) (b : (List Span)) (by' : Int) : Option (Bool) :=
 (ZO a b (fun z0 z1 => some (Z10 z0 z1 by'))).bind fun x1 =>
 some x1
theorem Z7E {a : (List Span)} {b : (List Span)} {by' : Int} : Le (Z3X a b by') (Z1f a b by') := by
 unfold Z3X Z1f
 repeat' (with_reducible (first | exact Le.refl _ | apply Le.bind | apply Z1q | intro _))
def Z1a.s0 (f : Form) (d : Int) (by' : Int) (s1 : Int) : Option ((Int) ⊕ (Jx (Unit) (Bool))) :=
 (bif (decide (s1 < (f.Core.length : Int))) then
  (
   (
    (at? f.Core s1).bind fun x1 =>
    (
     (bif (decide ((w64 (s1 + d)) ≥ f.Count)) then
      some ((w64 ((w64 (s1 + d)) - f.Count)), f.Period)
     else
      some ((w64 (s1 + d)), 0))).bind fun (y4 : Int × Int) =>
    (at? f.Core y4.1).bind fun x2 =>
    (Z3X x1 x2 (w64 (by' - y4.2))).bind fun x3 =>
    (bif (!x3) then
     some (.ret false)
    else
     some (.go ()))).bind fun (y3 : Jx (Unit) (Bool)) =>
   y3.elim (fun r' =>
     some (.ret r')) fun a4 =>
   some (.go ())).bind fun (y2 : Jx (Unit) (Bool)) =>
  y2.elim (fun r' =>
    some (.inr (.ret r'))) fun a5 =>
  some (.inl (w64 (s1 + 1)))
 else
  some (.inr (.go ())))
theorem Z7V {f : Form} {d : Int} {by' : Int} {s1 : Int} : Le (Z1a.s0 f d by' s1) (Z0c.s0 f d by' s1) := by
 unfold Z1a.s0 Z0c.s0
 repeat' (with_reducible (first | exact Le.refl _ | apply Le.bind | apply Le.cond | apply Le.elim | apply Z7E | intro _))
def Z1a (f : Form) (d : Int) (by' : Int) : Option (Bool) :=
 (Z1W (Z1a.s0 f d by') 0).bind fun (y1 : Jx (Unit) (Bool)) =>
 y1.elim (fun r' =>
   some r') fun a6 =>
 some true
theorem Z9X {f : Form} {d : Int} {by' : Int} : Le (Z1a f d by') (Z0c f d by') := by
 unfold Z1a Z0c
 repeat' (with_reducible (first | exact Le.refl _ | apply Le.bind | apply Le.elim | apply Le.loop | apply Z7V | intro _))
def Z1e.b0 (f : Form) (s2 : (List (List Span)) × Int × Int) (z2 : Int) : Option (((List (List Span)) × Int × Int) × Nat) :=
 (nz? z2).bind fun u1 =>
 (Z0j f.Period (w64 (f.Count.tdiv z2))).bind fun x2 =>
 (
  (bif (x2.2.1 != 0) then
   some true
  else
   (Z1a f z2 x2.1).bind fun x3 =>
   some (!x3))).bind fun (y3 : Bool) =>
 (bif y3 then
  some ((s2.1, s2.2.1, s2.2.2), 0)
 else
  (cut? f.Core 0 z2).bind fun x4 =>
  (Z1W (Zp.s1 x4) (0, s2.1)).bind fun (y4 : (List (List Span))) =>
  some ((y4, x2.1, z2), 1))
theorem Z7P {f : Form} {s2 : (List (List Span)) × Int × Int} {z2 : Int} : Le (Z1e.b0 f s2 z2) (Zp.b0 f s2 z2) := by
 unfold Z1e.b0 Zp.b0
 repeat' (with_reducible (first | exact Le.refl _ | apply Le.bind | apply Le.cond | apply Le.loop | apply Z9X | intro _))
def Z1e (f : Form) : Option (Form) :=
 (Z4r f).bind fun x1 =>
 (bif x1 then
  some (Form.mk 0 0 [] [])
 else
  (
   (Z0U f.Count (Z2A (Z1e.b0 f)) (([], 0, 0), 0)).bind fun (y2 : ((List (List Span)) × Int × Int) × Nat) =>
   (bif (y2.2 == 0) then
    some (y2.1.1, y2.1.2.1, y2.1.2.2)
   else
    some (y2.1.1, y2.1.2.1, y2.1.2.2))).bind fun (y1 : (List (List Span)) × Int × Int) =>
  some (Form.mk y1.2.1 y1.2.2 y1.1 []))
theorem Z9P {f : Form} : Le (Z1e f) (Zp f) := by
 unfold Z1e Zp
 repeat' (with_reducible (first | exact Le.refl _ | apply Le.bind | apply Le.cond | refine Le.Z2A ?_ _ _ | apply Z9U | apply Z5q | apply Z7P | intro _))
def Z4M (f : Form) (g : Granule) : Option (Bool) :=
 (Z1R f g.Index).bind fun x1 =>
 (
  (bif (x1.2 == 0) then
   (Z4q x1.1 g.Ticks).bind fun x2 =>
   some x2
  else
   some false)).bind fun (y1 : Bool) =>
 some y1
theorem Z8i {f : Form} {g : Granule} : Le (Z4M f g) (Z2L f g) := by
 unfold Z4M Z2L
 repeat' (with_reducible (first | exact Le.refl _ | apply Le.bind | apply Le.cond | apply Z2m | apply Z9W | intro _))
def Z1c.s0 (f : Form) (x1 : Form) (s2 : Int × (List Granule)) : Option ((Int × (List Granule)) ⊕ ((List Granule))) :=
 (bif (decide (s2.1 < (f.Odd.length : Int))) then
  (
   (
    (at? f.Odd s2.1).bind fun x2 =>
    (Z4M x1 x2).bind fun x3 =>
    (bif (!x3) then
     (clone? 16 x2.Ticks).bind fun x4 =>
     (app? 32 s2.2 [(Granule.mk x2.Index x4)]).bind fun x5 =>
     some x5
    else
     some s2.2)).bind fun (y3 : (List Granule)) =>
   some y3).bind fun (y2 : (List Granule)) =>
  some (.inl ((w64 (s2.1 + 1)), y2))
 else
  some (.inr s2.2))
theorem Z7D {f : Form} {x1 : Form} {s2 : Int × (List Granule)} : Le (Z1c.s0 f x1 s2) (ZV.s0 f x1 s2) := by
 unfold Z1c.s0 ZV.s0
 repeat' (with_reducible (first | exact Le.refl _ | apply Le.bind | apply Le.cond | apply Z8i | intro _))
def Z1c (f : Form) : Option (Form) :=
 (Z1e f).bind fun x1 =>
 (Z1W (Z1c.s0 f x1) (0, [])).bind fun (y1 : (List Granule)) =>
 some (Form.mk x1.Period x1.Count x1.Core y1)
theorem Z9V {f : Form} : Le (Z1c f) (ZV f) := by
 unfold Z1c ZV
 repeat' (with_reducible (first | exact Le.refl _ | apply Le.bind | apply Le.loop | apply Z9P | apply Z7D | intro _))
def Z0s.s0 {S : Type} (p1' : Int) (p2' : Int → Option ((List Span) × Int)) (p3' : Int) (yield : S → ((List Span) × Int) → Option (S × Bool)) (s1 : Int × S) : Option ((Int × S) ⊕ (Jx (S) (S))) :=
 (bif (decide (s1.1 < p1')) then
  (p2' (w64 (p3' + s1.1))).bind fun x1 =>
  (yield s1.2 (x1.1, x1.2)).bind fun x2 =>
  (bif (!x2.2) then
   some (.inr (.ret x2.1))
  else
   some (.inl ((w64 (s1.1 + 1)), x2.1)))
 else
  some (.inr (.go s1.2)))
theorem Z5s {S : Type} {p1' : Int} {p2' p2'_ : Int → Option ((List Span) × Int)} {p3' : Int} {yield yield_ : S → ((List Span) × Int) → Option (S × Bool)} {s1 : Int × S} (h_p2' : ∀ z0, Le (p2' z0) (p2'_ z0)) (h_yield : ∀ z0 z1, Le (yield z0 z1) (yield_ z0 z1)) : Le (Z0s.s0 p1' p2' p3' yield s1) (Z0N.s0 p1' p2'_ p3' yield_ s1) := by
 unfold Z0s.s0 Z0N.s0
 repeat' (with_reducible (first | exact Le.refl _ | exact h_p2' _ | exact h_yield _ _ | exact h_p2' | exact h_yield | apply Le.bind | apply Le.cond | intro _))
def Z0s {S : Type} (p1' : Int) (p2' : Int → Option ((List Span) × Int)) (p3' : Int) (yield : S → ((List Span) × Int) → Option (S × Bool)) (st' : S) : Option (S) :=
 (Z1W (Z0s.s0 p1' p2' p3' yield) (0, st')).bind fun (y1 : Jx (S) (S)) =>
 y1.elim (fun r' =>
   some r') fun a2 =>
 some a2
theorem Z7S {S : Type} {p1' : Int} {p2' p2'_ : Int → Option ((List Span) × Int)} {p3' : Int} {yield yield_ : S → ((List Span) × Int) → Option (S × Bool)} {st' : S} (h_p2' : ∀ z0, Le (p2' z0) (p2'_ z0)) (h_yield : ∀ z0 z1, Le (yield z0 z1) (yield_ z0 z1)) : Le (Z0s p1' p2' p3' yield st') (Z0N p1' p2'_ p3' yield_ st') := by
 unfold Z0s Z0N
 repeat' (with_reducible (first | exact Le.refl _ | exact h_p2' _ | exact h_yield _ _ | exact h_p2' | exact h_yield | apply Le.bind | apply Le.elim | apply Le.loop | apply Z5s | intro _))
def Z1w (tell : Int → Option ((List Span) × Int)) (from' : Int) (many : Int) : Option ((List Span) × Int) :=
 (
  some ()).bind fun (y1 : Unit) =>
 (Z0s many tell from' (Z2A Zk.b0) (([], 0), 0)).bind fun (y2 : ((List Span) × Int) × Nat) =>
 (bif (y2.2 == 0) then
  some (y2.1.1, 0)
 else
  some ([], y2.1.2))
theorem Z3m {tell tell_ : Int → Option ((List Span) × Int)} {from' : Int} {many : Int} (h_tell : ∀ z0, Le (tell z0) (tell_ z0)) : Le (Z1w tell from' many) (Zk tell_ from' many) := by
 unfold Z1w Zk
 repeat' (with_reducible (first | exact Le.refl _ | exact h_tell _ | exact h_tell | apply Le.bind | apply Le.cond | refine Le.Z2A ?_ _ _ | apply Z7S | intro _))
def Z3e (f : Form) (i : Int) : Option ((List Span) × Int) :=
 (bif (f.Count == 0) then
  some ([], 0)
 else
  (Z0j i f.Count).bind fun x1 =>
  (at? f.Core x1.2.1).bind fun x2 =>
  (bif ((x2.length : Int) == 0) then
   some ([], 0)
  else
   (bif ((x1.2.2 != 0) || (((Z9 x1.1 f.Period).2) != 0)) then
    some ([], 20)
   else
    (at? f.Core x1.2.1).bind fun x3 =>
    (Z3a x3 ((Z9 x1.1 f.Period).1)).bind fun x4 =>
    some (x4.1, x4.2))))
theorem Z5m {f : Form} {i : Int} : Le (Z3e f i) (Z1b f i) := by
 unfold Z3e Z1b
 repeat' (with_reducible (first | exact Le.refl _ | apply Le.bind | apply Le.cond | apply Z5n | intro _))
def Z3A (i : Int) (p1' : Form) : Option ((List Span) × Int) :=
 (Z3e p1' i).bind fun x1 =>
 some (x1.1, x1.2)
theorem Z6f {i : Int} {p1' : Form} : Le (Z3A i p1') (Z0D i p1') := by
 unfold Z3A Z0D
 repeat' (with_reducible (first | exact Le.refl _ | apply Le.bind | apply Z5m | intro _))
def Z0z.s1 (f : Form) (m : Int) (x1 : Int × Int) (s3 : Int × (List (List Span))) : Option ((Int × (List (List Span))) ⊕ (Jx ((List (List Span)) × Int) (Int))) :=
 (bif (decide (s3.1 < x1.1)) then
  (Z1w (fun z0 => Z3A z0 f) (w64 (s3.1 * m)) m).bind fun x3 =>
  (bif (x3.2 != 0) then
   some (.inr (.ret x3.2))
  else
   (app? 24 s3.2 [x3.1]).bind fun x4 =>
   some (.inl ((w64 (s3.1 + 1)), x4)))
 else
  some (.inr (.go (s3.2, (Z9 f.Period (w64 (x1.2.tdiv f.Count))).1))))
theorem Z5w {f : Form} {m : Int} {x1 : Int × Int} {s3 : Int × (List (List Span))} : Le (Z0z.s1 f m x1 s3) (Zd.s1 f m x1 s3) := by
 unfold Z0z.s1 Zd.s1
 repeat' (with_reducible (first | exact Le.refl _ | apply Le.bind | apply Le.cond | apply Z3m | apply Z6f | intro _))
def Z0z (f : Form) (m : Int) : Option (Form × Int) :=
 (Z0g f m).bind fun x1 =>
 (bif (x1.1 == 0) then
  some ((Form.mk 0 0 [] []), 0)
 else
  (Z1W (Zd.s0 f) (0, 0)).bind fun (y1 : Int) =>
  (nz? f.Count).bind fun u1 =>
  (bif (decide ((w64 (y1 * (w64 (x1.2.tdiv f.Count)))) > 60000)) then
   some ((Form.mk 0 0 [] []), 3)
  else
   (nz? f.Count).bind fun u2 =>
   (bif ((((Z9 f.Period (w64 (x1.2.tdiv f.Count))).2) != 0) || (decide (((Z9 f.Period (w64 (x1.2.tdiv f.Count))).1) > 1099511627776))) then
    some ((Form.mk 0 0 [] []), 20)
   else
    (Z1W (Z0z.s1 f m x1) (0, [])).bind fun (y2 : Jx ((List (List Span)) × Int) (Int)) =>
    y2.elim (fun a4 =>
      some ((Form.mk 0 0 [] []), a4)) fun a3 =>
    some ((Form.mk a3.2 x1.1 a3.1 []), 0))))
theorem Z88 {f : Form} {m : Int} : Le (Z0z f m) (Zd f m) := by
 unfold Z0z Zd
 repeat' (with_reducible (first | exact Le.refl _ | apply Le.bind | apply Le.cond | apply Le.elim | apply Le.loop | apply Z5w | intro _))
def Z2S (f : Form) : Option (Form × Int) :=
 (Z1d f).bind fun x1 =>
 (bif (x1 == 0) then
  (Z1c f).bind fun x2 =>
  some (x2, 0)
 else
  (bif (x1 == 3) then
   some ((Form.mk 0 0 [] []), 3)
  else
   some ((Form.mk 0 0 [] []), 20)))
theorem Z3V {f : Form} : Le (Z2S f) (Z1B f) := by
 unfold Z2S Z1B
 repeat' (with_reducible (first | exact Le.refl _ | apply Le.bind | apply Le.cond | apply Z9N | apply Z9V | intro _))
def Z3H (i : Int) (p1' : Form) : Option ((List Span) × Int) :=
 (Z1R p1' i).bind fun x1 =>
 some (x1.1, x1.2)
theorem Z6e {i : Int} {p1' : Form} : Le (Z3H i p1') (Z0K i p1') := by
 unfold Z3H Z0K
 repeat' (with_reducible (first | exact Le.refl _ | apply Le.bind | apply Z2m | intro _))
def Z0Q.s0 (f : Form) (m : Int) (s2 : Int × (List Granule)) : Option ((Int × (List Granule)) ⊕ (Jx ((List Granule)) (Form × Int))) :=
 (bif (decide (s2.1 < (f.Odd.length : Int))) then
  (
   (at? f.Odd s2.1).bind fun x2 =>
   (Z0j x2.Index m).bind fun x3 =>
   (
    (bif (decide ((s2.2.length : Int) > 0)) then
     (at? s2.2 (w64 ((s2.2.length : Int) - 1))).bind fun x4 =>
     some (x4.Index == x3.1)
    else
     some false)).bind fun (y3 : Bool) =>
   (bif y3 then
    some (.go s2.2)
   else
    (Z1w (fun z0 => Z3H z0 f) (w64 (x3.1 * m)) m).bind fun x5 =>
    (bif (x5.2 != 0) then
     some (.ret ((Form.mk 0 0 [] []), 20))
    else
     (app? 32 s2.2 [(Granule.mk x3.1 x5.1)]).bind fun x6 =>
     some (.go x6)))).bind fun (y2 : Jx ((List Granule)) (Form × Int)) =>
  y2.elim (fun r' =>
    some (.inr (.ret r'))) fun a3 =>
  some (.inl ((w64 (s2.1 + 1)), a3))
 else
  some (.inr (.go s2.2)))
theorem Z67 {f : Form} {m : Int} {s2 : Int × (List Granule)} : Le (Z0Q.s0 f m s2) (ZU.s0 f m s2) := by
 unfold Z0Q.s0 ZU.s0
 repeat' (with_reducible (first | exact Le.refl _ | apply Le.bind | apply Le.cond | apply Le.elim | apply Z3m | apply Z6e | intro _))
def Z0Q (f : Form) (m : Int) : Option (Form × Int) :=
 (bif ((decide (m < 1)) || (decide (m > 6000))) then
  some ((Form.mk 0 0 [] []), 2)
 else
  (Z0z f m).bind fun x1 =>
  (bif (x1.2 != 0) then
   some ((Form.mk 0 0 [] []), x1.2)
  else
   (Z1W (Z0Q.s0 f m) (0, [])).bind fun (y1 : Jx ((List Granule)) (Form × Int)) =>
   y1.elim (fun r' =>
     some r') fun a4 =>
   (Z2S (Form.mk x1.1.Period x1.1.Count x1.1.Core a4)).bind fun x7 =>
   some (x7.1, x7.2)))
theorem Z7z {f : Form} {m : Int} : Le (Z0Q f m) (ZU f m) := by
 unfold Z0Q ZU
 repeat' (with_reducible (first | exact Le.refl _ | apply Le.bind | apply Le.cond | apply Le.elim | apply Le.loop | apply Z88 | apply Z67 | apply Z3V | intro _))
def Z0y.s0 (f : Form) (m : Int) (s2 : Int × (List (List Span))) : Option ((Int × (List (List Span))) ⊕ (Jx ((List (List Span))) (Form × Int))) :=
 (bif (decide (s2.1 < f.Count)) then
  (Z3e f (w64 (s2.1 - m))).bind fun x1 =>
  (bif (x1.2 != 0) then
   some (.inr (.ret ((Form.mk 0 0 [] []), x1.2)))
  else
   (app? 24 s2.2 [x1.1]).bind fun x2 =>
   some (.inl ((w64 (s2.1 + 1)), x2)))
 else
  some (.inr (.go s2.2)))
theorem Z6G {f : Form} {m : Int} {s2 : Int × (List (List Span))} : Le (Z0y.s0 f m s2) (ZP.s0 f m s2) := by
 unfold Z0y.s0 ZP.s0
 repeat' (with_reducible (first | exact Le.refl _ | apply Le.bind | apply Le.cond | apply Z5m | intro _))
def Z0y (f : Form) (m : Int) : Option (Form × Int) :=
 (bif (!(ZH m)) then
  some ((Form.mk 0 0 [] []), 2)
 else
  (Z1W (Z0y.s0 f m) (0, [])).bind fun (y1 : Jx ((List (List Span))) (Form × Int)) =>
  y1.elim (fun r' =>
    some r') fun a2 =>
  (Z1W (ZP.s1 f m) (0, [])).bind fun (y2 : Jx ((List Granule)) (Form × Int)) =>
  y2.elim (fun r' =>
    some r') fun a4 =>
  (Z2S (Form.mk f.Period f.Count a2 a4)).bind fun x6 =>
  some (x6.1, x6.2))
theorem Z7o {f : Form} {m : Int} : Le (Z0y f m) (ZP f m) := by
 unfold Z0y ZP
 repeat' (with_reducible (first | exact Le.refl _ | apply Le.bind | apply Le.cond | apply Le.elim | apply Le.loop | apply Z6G | apply Z3V | intro _))
def Z2t (f : Form) (i : Int) : Option (Bool × (List Span) × Int) :=
 (Z1R f i).bind fun x1 =>
 some (((decide ((x1.1.length : Int) > 0)) || (x1.2 != 0)), x1.1, x1.2)
theorem Z4l {f : Form} {i : Int} : Le (Z2t f i) (Z2a f i) := by
 unfold Z2t Z2a
 repeat' (with_reducible (first | exact Le.refl _ | apply Le.bind | apply Z2m | intro _))
def Z04.s0 (f : Form) (n : Int) (s2 : Int × Bool × (List Int)) : Option ((Int × Bool × (List Int)) ⊕ (Jx ((List Int)) (Form × Int))) :=
 (bif (s2.2.1 && (decide (s2.1 ≤ n))) then
  (app? 8 s2.2.2 [s2.1]).bind fun x3 =>
  (bif (decide ((x3.length : Int) > 6000)) then
   some (.inr (.ret ((Form.mk 0 0 [] []), 3)))
  else
   (Z2H f s2.1).bind fun x4 =>
   some (.inl (x4.1, x4.2, x3)))
 else
  some (.inr (.go s2.2.2)))
theorem Z5p {f : Form} {n : Int} {s2 : Int × Bool × (List Int)} : Le (Z04.s0 f n s2) (Z02.s0 f n s2) := by
 unfold Z04.s0 Z02.s0
 repeat' (with_reducible (first | exact Le.refl _ | apply Le.bind | apply Le.cond | apply Z3R | intro _))
def Z04.s1 (f : Form) (a2 : (List Int)) (s4 : Int × (List Granule)) : Option ((Int × (List Granule)) ⊕ (Jx ((List Granule)) (Form × Int))) :=
 (bif (decide (s4.1 < (a2.length : Int))) then
  (at? a2 s4.1).bind fun x5 =>
  (Z2t f x5).bind fun x6 =>
  (bif (x6.2.2 != 0) then
   some (.inr (.ret ((Form.mk 0 0 [] []), 20)))
  else
   (app? 32 s4.2 [(Granule.mk x5 x6.2.1)]).bind fun x7 =>
   some (.inl ((w64 (s4.1 + 1)), x7)))
 else
  some (.inr (.go s4.2)))
theorem Z5r {f : Form} {a2 : (List Int)} {s4 : Int × (List Granule)} : Le (Z04.s1 f a2 s4) (Z02.s1 f a2 s4) := by
 unfold Z04.s1 Z02.s1
 repeat' (with_reducible (first | exact Le.refl _ | apply Le.bind | apply Le.cond | apply Z4l | intro _))
def Z04 (f : Form) (m : Int) (n : Int) : Option (Form × Int) :=
 (bif (((!(ZH m)) || (!(ZH n))) || (decide (m > n))) then
  some ((Form.mk 0 0 [] []), 2)
 else
  (
   (Z2t f m).bind fun x1 =>
   (bif (!x1.1) then
    (Z2H f m).bind fun x2 =>
    some (x2.1, x2.2)
   else
    some (m, true))).bind fun (y1 : Int × Bool) =>
  (Z1W (Z04.s0 f n) (y1.1, y1.2, [])).bind fun (y2 : Jx ((List Int)) (Form × Int)) =>
  y2.elim (fun r' =>
    some r') fun a2 =>
  (Z1W (Z04.s1 f a2) (0, [])).bind fun (y3 : Jx ((List Granule)) (Form × Int)) =>
  y3.elim (fun r' =>
    some r') fun a4 =>
  (Z2S (Form.mk 0 0 [] a4)).bind fun x8 =>
  some (x8.1, x8.2))
theorem Z72 {f : Form} {m : Int} {n : Int} : Le (Z04 f m n) (Z02 f m n) := by
 unfold Z04 Z02
 repeat' (with_reducible (first | exact Le.refl _ | apply Le.bind | apply Le.cond | apply Le.elim | apply Le.loop | apply Z4l | apply Z3R | apply Z5p | apply Z5r | apply Z3V | intro _))
def Z2P : Option (Bool) :=
 (Z0Q ZR 7).bind fun x1 =>
 (Z0y ZR 3).bind fun x2 =>
 (Z04 ZR 2 4).bind fun x3 =>
 (Z0Q (Form.mk ZN.Period ZN.Count ZN.Core [(Granule.mk 1 [(Span.mk 8 11)])]) 2).bind fun x4 =>
 (Z1R x2.1 0).bind fun x5 =>
 (Z0Q ZR 0).bind fun x6 =>
 (Z04 ZR 2 1).bind fun x7 =>
 (Z0Q (Form.mk 549755813888 1 [[(Span.mk 0 0)]] []) 4).bind fun x8 =>
 (
  (bif (((((((((((x1.2 == 0) && (x2.2 == 0)) && (x3.2 == 0)) && (x4.2 == 0)) && (x5.2 == 0)) && (x6.2 == 2)) && (x7.2 == 2)) && (x8.2 == 20)) && (x1.1.Period == 7)) && (x1.1.Count == 1)) && ((x1.1.Core.length : Int) == 1)) then
   (at? x1.1.Core 0).bind fun x9 =>
   (Z2B x9 [(Span.mk 0 6)]).bind fun x10 =>
   some x10
  else
   some false)).bind fun (y1 : Bool) =>
 (
  (bif y1 then
   (Z2B x5.1 [(Span.mk (-3) (-3))]).bind fun x11 =>
   some x11
  else
   some false)).bind fun (y2 : Bool) =>
 (
  (bif (y2 && ((x3.1.Odd.length : Int) == 3)) then
   (at? x3.1.Odd 0).bind fun x12 =>
   some (x12.Index == 2)
  else
   some false)).bind fun (y3 : Bool) =>
 (
  (bif ((y3 && (x3.1.Count == 0)) && ((x4.1.Odd.length : Int) == 1)) then
   (at? x4.1.Odd 0).bind fun x13 =>
   some (x13.Index == 0)
  else
   some false)).bind fun (y4 : Bool) =>
 some y4
theorem Z5V : Le (Z2P) (Z1V) := by
 unfold Z2P Z1V
 repeat' (with_reducible (first | exact Le.refl _ | apply Le.bind | apply Le.cond | apply Z7z | apply Z7o | apply Z72 | apply Z2m | apply Z6k | intro _))
theorem Z5R : Z2P = some true := by kernel_rfl
theorem Z5N : Z1V = some true := Z5V _ Z5R
end
end Go.Dn
