/- The words that printed functions use, and the rules that their proofs use. -/
import Derived.Test.YtefaoeaohhdhkaaD21
set_option linter.unusedVariables false
set_option linter.unusedSimpArgs false
namespace Go.Dn
open Go

/-- A loop's body over a function, as a function of its state: how it was left is a number, 0 while it goes on. -/
def rangeY {S T : Type} (yb : S → T → Option (S × Nat)) : S × Nat → T → Option ((S × Nat) × Bool) := fun s t => if s.2 = 0 then (yb s.1 t).map fun r => (r, r.2 == 0) else none

def cI (k : IntKind) (x : Int) : List FV := [.int k x]
def cB (x : Bool) : List FV := [.bool x]
def cS (x : ByteArray) : List FV := [.str x]
def cL {α : Type} (c : α → List FV) (x : List α) : List FV := [.sl (x.map c)]

abbrev w64 (x : Int) : Int := IntKind.i64.wrap x
def nz? (b : Int) : Option Unit := if b = 0 then none else some ()
theorem nz_ne {b : Int} {u : Unit} (h : nz? b = some u) : b ≠ 0 := by
  unfold nz? at h
  split at h
  · cases h
  · assumption
abbrev iAnd (k : IntKind) (x y : Int) : Int := k.wrap (BitVec.ofInt k.bits x &&& BitVec.ofInt k.bits y).toNat
abbrev iOr (k : IntKind) (x y : Int) : Int := k.wrap (BitVec.ofInt k.bits x ||| BitVec.ofInt k.bits y).toNat
abbrev iXor (k : IntKind) (x y : Int) : Int := k.wrap (BitVec.ofInt k.bits x ^^^ BitVec.ofInt k.bits y).toNat
abbrev iAndNot (k : IntKind) (x y : Int) : Int := k.wrap (BitVec.ofInt k.bits x &&& ~~~ BitVec.ofInt k.bits y).toNat
abbrev iMin (x y : Int) : Int := if y < x then y else x
abbrev iMax (x y : Int) : Int := if y > x then y else x

def clone? {α : Type} (by_ : Nat) (l : List α) : Option (List α) := if l.length * by_ ≤ room then some l else none
theorem clone_some {α : Type} {by_ : Nat} {l r : List α} (h : clone? by_ l = some r) : l.length * by_ ≤ room ∧ r = l := by
  unfold clone? at h
  split at h
  · cases h; exact ⟨by assumption, rfl⟩
  · cases h
def Jx.elim {A R B : Type} (j : Jx A R) (g : R → Option B) (f : A → Option B) : Option B := match j with | .go a => f a | .ret r => g r
theorem jgo {A R B : Type} {a : A} {g : R → Option B} {f : A → Option B} {b : B} (h : (Jx.go a : Jx A R).elim g f = some b) : f a = some b := h
theorem jret {A R B : Type} {r : R} {g : R → Option B} {f : A → Option B} {b : B} (h : (Jx.ret r : Jx A R).elim g f = some b) : g r = some b := h

theorem or_T {c t : Bool} (h : c = true) : PV.v (.bool true) = .v (.bool (c || t)) := by rw [h]; rfl
theorem or_F {c t : Bool} (h : c = false) : PV.v (.bool t) = .v (.bool (c || t)) := by rw [h]; rfl
theorem and_T {c t : Bool} (h : c = true) : PV.v (.bool t) = .v (.bool (c && t)) := by rw [h]; rfl
theorem and_F {c t : Bool} (h : c = false) : PV.v (.bool false) = .v (.bool (c && t)) := by rw [h]; rfl

section
variable {X : Ctx} {n : Nat} {dr : Bool} {fn : FuncId} {ops : Array Oper} {base i : Nat} {l : List Oper} {e : Env} {σ : Heap} {K : Env → Heap → Prop} {Q : Ex → Env → Heap → Prop} {c a b : Code}
variable {d : Nat} {t t1 t2 : TypeId} {p : String} {af : Array Edge} {x y z : Operand} {v : PV} {lo hi : Nat} {L : List Res}

theorem Ops.lenPt {α : Type} {c : α → List FV} {xs : List α} {el : TypeId} (hx : operandD X e x = some (.v (.sl (xs.map c)))) (ht : tslice X.P t1 = some el) (hd : Nat.blt d n = true)
    (hk' : Ops X n dr ops base (i + 1) l (set e d (.v (.int .i64 xs.length))) σ K) : Ops X n dr ops base i (⟨some d, .call { callee := .builtin .len, args := #[x], argTypes := #[t1] }, t, p, af, none⟩ :: l) e σ K := by
  refine Ops.lenP (af2 := #[]) hx ht hd ?_
  rw [List.length_map]; exact hk'

theorem Ops.lenSt {α : Type} {c : α → List FV} {xs : List α} {el et : TypeId} {sz : Nat} {lv : Bool} (H : Has σ lo hi L) (k : Nat) (hk : L[k]? = some (.sl v et sz (xs.map c) lv)) (hx : operandD X e x = some v) (ht : tslice X.P t1 = some el)
    (ha : dr = true → ∀ id, v.owner = some id → Seen ops base i id false) (hd : Nat.blt d n = true)
    (hk' : Ops X n dr ops base (i + 1) l (set e d (.v (.int .i64 xs.length))) σ K) : Ops X n dr ops base i (⟨some d, .call { callee := .builtin .len, args := #[x], argTypes := #[t1] }, t, p, af, none⟩ :: l) e σ K := by
  refine Ops.lenS H k hk hx ht ha hd ?_
  rw [List.length_map]; exact hk'

theorem Ops.lenN {el : TypeId} (hx : operandD X e x = some .nils) (ht : tslice X.P t1 = some el) (hd : Nat.blt d n = true)
    (hk' : Ops X n dr ops base (i + 1) l (set e d (.v (.int .i64 0))) σ K) : Ops X n dr ops base i (⟨some d, .call { callee := .builtin .len, args := #[x], argTypes := #[t1] }, t, p, af, none⟩ :: l) e σ K := by
  refine .plain (x := .v (.int .i64 0)) (σ1 := σ) ?_ (fun h => ask_read0 rfl ?_) hd hk'
  · simp only [stepOp, callOpD, operandsD, hx, Option.bind_some, builtinD, lenD, ht, Option.map_some]
  · simp only [touched, opLooks, List.flatMap_cons, List.flatMap_nil, hx, vids, List.append_nil]

theorem vids_owner {v : PV} {id : Nat} (h : id ∈ vids v) (hv : ∀ i v' o, v ≠ .ptr i v' o) : v.owner = some id := by
  cases v <;> simp [vids] at h
  · exact h ▸ rfl
  · exact absurd rfl (hv _ _ _)

theorem bring_noptr {sz : Nat} {w : PV} {ys : List (List FV)} (H : Has σ lo hi L) (h : Bring L sz w ys) : ∀ i v' o, w ≠ .ptr i v' o := by
  intro i v' o e
  subst e
  cases h with
  | s k h => obtain ⟨_, ⟨h, _⟩ | ⟨_, h, _⟩⟩ := H.sl h <;> cases h

theorem Ops.appendSt {α : Type} {c : α → List FV} {xs ys r : List α} {el : TypeId} {sz by_ : Nat} {w : PV} {zs : List PV} (H : Has σ lo hi L) (hlo : lo ≤ base + i) (hhi : base + i < hi) (k : Nat) (hk : L[k]? = some (.sl v el sz (xs.map c) true))
    (hx : operandD X e x = some v) (hy : operandD X e y = some w) (hb : Bring L sz w (ys.map c)) (hr : app? by_ xs ys = some r) (ht : tslice X.P t1 = some el) (hs : tsize X.P el = some sz) (hby : tbytes X.P el = some by_) (hz : tzero X.P el = some zs)
    (hc : (sz != 0 && by_ != 0 && zs.length == sz) = true)
    (ha : dr = true → (∀ id, v.owner = some id → Seen ops base i id true) ∧ (∀ id, w.owner = some id → Seen ops base i id true)) (hd : Nat.blt d n = true)
    (hk' : ∀ v' σ', Has σ' (base + i + 1) hi (L.set k (.sl v' el sz (r.map c) true)) → Ops X n dr ops base (i + 1) l (set e d v') σ' K) :
    Ops X n dr ops base i (⟨some d, .call { callee := .builtin .append, args := #[x, y], argTypes := #[t1, t1] }, t, p, af, none⟩ :: l) e σ K := by
  unfold app? at hr
  split at hr
  · rename_i hroom
    cases hr
    refine Ops.appendS H hlo hhi k hk hx hy hb ht hs hby hz hc (by simpa using hroom) (fun h id hid => ?_) hd ?_
    · rcases List.mem_append.1 hid with hid | hid
      · refine (ha h).1 id (vids_owner hid ?_)
        intro i v' o e
        subst e
        obtain ⟨_, ⟨h, _⟩ | ⟨_, h, _⟩⟩ := H.sl hk <;> cases h
      · exact (ha h).2 id (vids_owner hid (bring_noptr H hb))
    · rw [List.map_append] at hk'
      exact hk'
  · cases hr

/-- The first elements, out of another slice. -/
def cpy {α : Type} (xs ys : List α) : List α := ys.take (min ys.length xs.length) ++ xs.drop (min ys.length xs.length)

theorem flat_take {sz : Nat} : ∀ {ys : List (List FV)}, (∀ y ∈ ys, y.length = sz) → ∀ k, ys.flatten.take (k * sz) = (ys.take k).flatten
  | [], _, k => by simp
  | y :: ys, h, 0 => by simp
  | y :: ys, h, k + 1 => by
    have hy := h y List.mem_cons_self
    have ih := flat_take (ys := ys) (fun z hz => h z (List.mem_cons_of_mem _ hz)) k
    rw [List.flatten_cons, List.take_succ_cons, List.flatten_cons, Nat.succ_mul, Nat.add_comm (k * sz) sz, ← hy, List.take_length_add_append, hy, ih]

theorem flat_dropk {sz : Nat} : ∀ {ys : List (List FV)}, (∀ y ∈ ys, y.length = sz) → ∀ k, ys.flatten.drop (k * sz) = (ys.drop k).flatten
  | [], _, k => by simp
  | y :: ys, h, 0 => by simp
  | y :: ys, h, k + 1 => by
    have hy := h y List.mem_cons_self
    have ih := flat_dropk (ys := ys) (fun z hz => h z (List.mem_cons_of_mem _ hz)) k
    rw [List.flatten_cons, List.drop_succ_cons, Nat.succ_mul, Nat.add_comm (k * sz) sz, ← hy, List.drop_length_add_append, hy, ih]

theorem Ops.copyS {α : Type} {c : α → List FV} {xs ys : List α} {el : TypeId} {sz : Nat} {w : PV} {t9 : TypeId} {id : Nat} (H : Has σ lo hi L) (k : Nat) (hk : L[k]? = some (.sl v el sz (xs.map c) true)) (hv : v = .buf id (xs.map c).length sz)
    (hx : operandD X e x = some v) (hy : operandD X e y = some w) (hb : Bring L sz w (ys.map c)) (ht : tslice X.P t1 = some el) (hs : tsize X.P el = some sz)
    (ha : dr = true → (∀ id, v.owner = some id → Seen ops base i id true) ∧ (∀ id, w.owner = some id → Seen ops base i id true)) (hd : Nat.blt d n = true)
    (hk' : ∀ σ', Has σ' lo hi (L.set k (.sl v el sz ((cpy xs ys).map c) true)) → Ops X n dr ops base (i + 1) l (set e d (.v (.int .i64 (min ys.length xs.length : Nat)))) σ' K) :
    Ops X n dr ops base i (⟨some d, .call { callee := .builtin .copy, args := #[x, y], argTypes := #[t1, t9] }, t, p, af, none⟩ :: l) e σ K := by
  obtain ⟨hb1, hb2⟩ := brought H hb
  obtain ⟨hsz, hv'⟩ := H.sl hk
  subst hv
  rcases hv' with ⟨h, _⟩ | ⟨id', hid, hbl⟩
  · cases h
  cases hid
  have hl2 : (vs (xs.map c).flatten).length = (xs.map c).length * sz := by rw [vs_length, flat_length hsz]
  have hcp : splice (vs (xs.map c).flatten) 0 ((vs (ys.map c).flatten).take (min (ys.map c).length (xs.map c).length * sz)) = vs ((cpy xs ys).map c).flatten := by
    rw [vs_take, flat_take hb2]
    unfold splice
    rw [List.take_zero, List.nil_append, vs_length, Nat.zero_add, vs_drop, flat_length (sz := sz) (fun y hy => hb2 y (List.mem_of_mem_take hy)), flat_dropk hsz, ← vs_append, ← List.flatten_append]
    congr 1
    unfold cpy
    rw [List.map_append, List.map_take, List.map_drop]
    simp only [List.length_take, List.length_map]
    congr 3
    omega
  refine .plain (x := .v (.int .i64 (min ys.length xs.length : Nat))) (σ1 := σ.put id (.blk el (vs ((cpy xs ys).map c).flatten) true)) ?_ (fun h => ask_seen_w rfl rfl ?_) hd
    (hk' _ (H.put hk rfl (r' := .sl (.buf id (xs.map c).length sz) el sz ((cpy xs ys).map c) true) ⟨fun y hy => ?_, .inr ⟨id, ?_, put_ent⟩⟩ rfl))
  · simp only [stepOp, callOpD, operandsD, hx, hy, Option.bind_some, builtinD, copyD, ht, hs, hb1, hbl]
    rw [if_pos ⟨trivial, trivial, hl2⟩, hcp]
    simp only [List.length_map]
  · intro id' hid
    simp only [touched, opLooks, List.flatMap_cons, List.flatMap_nil, hx, hy, List.append_nil] at hid
    rcases List.mem_append.1 hid with hid | hid
    · exact (ha h).1 _ (vids_owner hid (by intros; simp))
    · exact (ha h).2 _ (vids_owner hid (bring_noptr H hb))
  · obtain ⟨a, ha', rfl⟩ := List.mem_map.1 hy
    unfold cpy at ha'
    rcases List.mem_append.1 ha' with h | h
    · exact hb2 _ (List.mem_map.2 ⟨a, List.mem_of_mem_take h, rfl⟩)
    · exact hsz _ (List.mem_map.2 ⟨a, List.mem_of_mem_drop h, rfl⟩)
  · have : ((cpy xs ys).map c).length = (xs.map c).length := by
      unfold cpy
      simp only [List.length_map, List.length_append, List.length_take, List.length_drop]
      omega
    rw [this]

theorem Ops.storeSt {α : Type} {c : α → List FV} {xs : List α} {u u' : α} {id : Nat} {et : TypeId} {sz j m off ver : Nat} {zs : List FV} {iv : Int} {w : PV} (H : Has σ lo hi L) (k : Nat) (hk : L[k]? = some (.sl v et sz (xs.map c) true)) (hv : v = .buf id (xs.map c).length sz) (hver : ver = (xs.map c).length * sz)
    (hu : at? xs iv = some u) (hx : operandD X e x = some (.ptr id ver off)) (hoff : off = iv.toNat * sz + j) (hy : operandD X e y = some w) (hw : w.cells = some (vs zs)) (hm : tsize X.P t1 = some m) (hz : zs.length = m) (hj : Nat.ble (j + m) sz = true)
    (hu' : (c u).take j ++ zs ++ (c u).drop (j + zs.length) = c u') (ha : dr = true → Seen ops base i id true)
    (hk' : ∀ σ', Has σ' lo hi (L.set k (.sl v et sz ((xs.set iv.toNat u').map c) true)) → Ops X n dr ops base (i + 1) l e σ' K) : Ops X n dr ops base i (⟨none, .store t1 x y, t, p, af, none⟩ :: l) e σ K := by
  refine Ops.storeS H k hk hv hver (at?_map hu) hx hoff hy hw hm hz hj hu' ha ?_
  rw [List.map_set] at hk'
  exact hk'

theorem Ops.binA {op : BinOp} {u w : PV} {r : FV} (hx : operandD X e x = some u) (hy : operandD X e y = some w) (hr : binD X.P σ op t1 u w = some r) (ha : dr = true → drawAsk X ops base i ⟨some d, .binOp op t1 x y t2, t, p, af, none⟩ e = true) (hd : Nat.blt d n = true)
    (hk : Ops X n dr ops base (i + 1) l (set e d (.v r)) σ K) : Ops X n dr ops base i (⟨some d, .binOp op t1 x y t2, t, p, af, none⟩ :: l) e σ K :=
  .plain (x := .v r) (σ1 := σ) (by simp only [stepOp, hx, hy, hr, Option.map_some]) ha hd hk

theorem ask_eqA {op : BinOp} {us ws : List PV} {o : Oper} (hx : operandD X e x = some (.agg us)) (hy : operandD X e y = some (.agg ws)) (hop : opKind (.binOp op t1 x y t2) = .read) (ho : o.op = .binOp op t1 x y t2) : drawAsk X ops base i o e = true :=
  ask_read0 (by rw [ho]; exact hop) (by rw [ho]; simp only [touched, opLooks, List.flatMap_cons, List.flatMap_nil, hx, hy, vids, List.append_nil])

theorem Ops.buildA {parts : Array (Nat × Operand)} {cs : List PV} (hb : buildD X e t1 parts.toList = some (.agg cs)) (hd : Nat.blt d n = true) (hk : Ops X n dr ops base (i + 1) l (set e d (.agg cs)) σ K) : Ops X n dr ops base i (⟨some d, .build t1 parts, t, p, af, none⟩ :: l) e σ K :=
  .plain (x := .agg cs) (σ1 := σ) (by simp only [stepOp, hb, Option.map_some]) (fun _ => ask_inert rfl) hd hk

theorem Ops.fieldA {f : Nat} {u : PV} (hx : operandD X e x = some u) (hf : fieldD X.P t1 u f = some v) (hd : Nat.blt d n = true) (hk : Ops X n dr ops base (i + 1) l (set e d v) σ K) : Ops X n dr ops base i (⟨some d, .field t1 x f, t, p, af, none⟩ :: l) e σ K :=
  .plain (x := v) (σ1 := σ) (by simp only [stepOp, hx, Option.bind_some, hf, Option.map_some]) (fun _ => ask_inert rfl) hd hk

theorem Ops.makeClo {f : FuncId} {first caps : Array Operand} {fs cs : List PV} (hf : operandsD X e first.toList = some fs) (hc : operandsD X e caps.toList = some cs) (hn : (fs.isEmpty && cs.isEmpty) = false) (hd : Nat.blt d n = true)
    (hk : Ops X n dr ops base (i + 1) l (set e d (.clo f fs cs)) σ K) : Ops X n dr ops base i (⟨some d, .makeFunc (.func f) first caps, t, p, af, none⟩ :: l) e σ K := by
  refine .plain (x := .clo f fs cs) (σ1 := σ) ?_ (fun _ => ask_inert rfl) hd hk
  simp only [stepOp, hf, hc]
  cases fs <;> cases cs <;> first | rfl | cases hn

theorem Ops.makeFn {f : FuncId} (hd : Nat.blt d n = true) (hk : Ops X n dr ops base (i + 1) l (set e d (.v (.fn f))) σ K) : Ops X n dr ops base i (⟨some d, .makeFunc (.func f) #[] #[], t, p, af, none⟩ :: l) e σ K :=
  .plain (x := .v (.fn f)) (σ1 := σ) (by simp only [stepOp, operandsD]) (fun _ => ask_inert rfl) hd hk

theorem Ops.min2 {k : IntKind} {u w : Int} {ts : Array TypeId} (hx : operandD X e x = some (.v (.int k u))) (hy : operandD X e y = some (.v (.int k w))) (hd : Nat.blt d n = true) (hk : Ops X n dr ops base (i + 1) l (set e d (.v (.int k (iMin u w)))) σ K) :
    Ops X n dr ops base i (⟨some d, .call { callee := .builtin .min, args := #[x, y], argTypes := ts }, t, p, af, none⟩ :: l) e σ K :=
  .plain (x := .v (.int k (iMin u w))) (σ1 := σ) (by simp only [stepOp, callOpD, operandsD, hx, hy, Option.bind_some, builtinD, foldInt, if_true, Option.map_some]) (fun _ => ask_inert rfl) hd hk
theorem Ops.max2 {k : IntKind} {u w : Int} {ts : Array TypeId} (hx : operandD X e x = some (.v (.int k u))) (hy : operandD X e y = some (.v (.int k w))) (hd : Nat.blt d n = true) (hk : Ops X n dr ops base (i + 1) l (set e d (.v (.int k (iMax u w)))) σ K) :
    Ops X n dr ops base i (⟨some d, .call { callee := .builtin .max, args := #[x, y], argTypes := ts }, t, p, af, none⟩ :: l) e σ K :=
  .plain (x := .v (.int k (iMax u w))) (σ1 := σ) (by simp only [stepOp, callOpD, operandsD, hx, hy, Option.bind_some, builtinD, foldInt, if_true, Option.map_some]) (fun _ => ask_inert rfl) hd hk

/-! ### Parts of an immutable slice -/
theorem cut?_some {α : Type} {xs r : List α} {i j : Int} (h : cut? xs i j = some r) : 0 ≤ i ∧ i ≤ j ∧ j ≤ xs.length ∧ r = (xs.take j.toNat).drop i.toNat := by
  unfold cut? at h
  split at h
  · rename_i h1; cases h; exact ⟨h1.1, h1.2.1, h1.2.2, rfl⟩
  · cases h

theorem sliceP_ok {α : Type} {c : α → List FV} {xs r : List α} {i0 j0 : Int} {P : Program} {el : TypeId} {m : Nat} {lo hi : Option PV} (h : cut? xs i0 j0 = some r) (ht : tslice P t1 = some el) (hs : tsize P el = some m) (hm : ∀ u, (c u).length = m)
    (hlo : (match lo with | none => some 0 | some v => asNat v) = some i0.toNat) (hhi : (match hi with | none => some xs.length | some v => asNat v) = some j0.toNat) : sliceD P t1 (.v (.sl (xs.map c))) lo hi none = some (.v (.sl (r.map c))) := by
  obtain ⟨h1, h2, h3, rfl⟩ := cut?_some h
  have hc : i0.toNat ≤ j0.toNat ∧ j0.toNat ≤ xs.length ∧ elemLen (xs.map c) i0.toNat m = true := by
    refine ⟨by omega, by omega, ?_⟩
    simp only [elemLen, List.getElem?_map]
    cases xs[i0.toNat]? with
    | none => rfl
    | some u => simp [hm]
  have hc' : xs.length = j0.toNat → i0.toNat ≤ j0.toNat ∧ j0.toNat ≤ j0.toNat ∧ elemLen (xs.map c) i0.toNat m = true := fun _ => ⟨hc.1, Nat.le_refl _, hc.2.2⟩
  cases lo <;> cases hi <;> simp only [Option.some.injEq] at hlo hhi <;> simp only [sliceD, ht, Option.bind_some, hs, List.length_map, hlo, hhi, List.map_drop, List.map_take] <;> first | rw [if_pos hc] | rw [if_pos (hc' hhi)]

theorem asNat_int {k : IntKind} {m : Int} (h : 0 ≤ m) : asNat (.v (.int k m)) = some m.toNat := by simp [asNat, h]

theorem Ops.sliceP00 {α : Type} {c : α → List FV} {xs r : List α} {el : TypeId} {m : Nat} (h : cut? xs 0 xs.length = some r) (hx : operandD X e x = some (.v (.sl (xs.map c)))) (ht : tslice X.P t1 = some el) (hs : tsize X.P el = some m) (hm : ∀ u, (c u).length = m) (hd : Nat.blt d n = true)
    (hk : Ops X n dr ops base (i + 1) l (set e d (.v (.sl (r.map c)))) σ K) : Ops X n dr ops base i (⟨some d, .slice t1 x none none none, t, p, af, none⟩ :: l) e σ K := by
  refine .plain (x := .v (.sl (r.map c))) (σ1 := σ) ?_ (fun _ => ?_) hd hk
  · simp only [stepOp, hx, optD, sliceP_ok h ht hs hm (lo := none) (hi := none) rfl (by simp), Option.map_some]
  · simp only [drawAsk, opKind, hx]
theorem Ops.sliceP10 {α : Type} {c : α → List FV} {xs r : List α} {el : TypeId} {m : Nat} {k : IntKind} {i0 : Int} (h : cut? xs i0 xs.length = some r) (hx : operandD X e x = some (.v (.sl (xs.map c)))) (hl : operandD X e y = some (.v (.int k i0))) (ht : tslice X.P t1 = some el) (hs : tsize X.P el = some m) (hm : ∀ u, (c u).length = m) (hd : Nat.blt d n = true)
    (hk : Ops X n dr ops base (i + 1) l (set e d (.v (.sl (r.map c)))) σ K) : Ops X n dr ops base i (⟨some d, .slice t1 x (some y) none none, t, p, af, none⟩ :: l) e σ K := by
  refine .plain (x := .v (.sl (r.map c))) (σ1 := σ) ?_ (fun _ => ?_) hd hk
  · simp only [stepOp, hx, hl, optD, Option.map_some, sliceP_ok h ht hs hm (lo := some (.v (.int k i0))) (hi := none) (asNat_int (cut?_some h).1) (by simp)]
  · simp only [drawAsk, opKind, hx]
theorem Ops.sliceP01 {α : Type} {c : α → List FV} {xs r : List α} {el : TypeId} {m : Nat} {k : IntKind} {j0 : Int} (h : cut? xs 0 j0 = some r) (hx : operandD X e x = some (.v (.sl (xs.map c)))) (hl : operandD X e y = some (.v (.int k j0))) (ht : tslice X.P t1 = some el) (hs : tsize X.P el = some m) (hm : ∀ u, (c u).length = m) (hd : Nat.blt d n = true)
    (hk : Ops X n dr ops base (i + 1) l (set e d (.v (.sl (r.map c)))) σ K) : Ops X n dr ops base i (⟨some d, .slice t1 x none (some y) none, t, p, af, none⟩ :: l) e σ K := by
  refine .plain (x := .v (.sl (r.map c))) (σ1 := σ) ?_ (fun _ => ?_) hd hk
  · have h' := cut?_some h
    simp only [stepOp, hx, hl, optD, Option.map_some, sliceP_ok h ht hs hm (lo := none) (hi := some (.v (.int k j0))) rfl (asNat_int (by omega))]
  · simp only [drawAsk, opKind, hx]
theorem Ops.sliceP11 {α : Type} {c : α → List FV} {xs r : List α} {el : TypeId} {m : Nat} {k k' : IntKind} {i0 j0 : Int} (h : cut? xs i0 j0 = some r) (hx : operandD X e x = some (.v (.sl (xs.map c)))) (hl : operandD X e y = some (.v (.int k i0))) (hl' : operandD X e z = some (.v (.int k' j0))) (ht : tslice X.P t1 = some el) (hs : tsize X.P el = some m) (hm : ∀ u, (c u).length = m) (hd : Nat.blt d n = true)
    (hk : Ops X n dr ops base (i + 1) l (set e d (.v (.sl (r.map c)))) σ K) : Ops X n dr ops base i (⟨some d, .slice t1 x (some y) (some z) none, t, p, af, none⟩ :: l) e σ K := by
  refine .plain (x := .v (.sl (r.map c))) (σ1 := σ) ?_ (fun _ => ?_) hd hk
  · have h' := cut?_some h
    simp only [stepOp, hx, hl, hl', optD, Option.map_some, sliceP_ok h ht hs hm (lo := some (.v (.int k i0))) (hi := some (.v (.int k' j0))) (asNat_int h'.1) (asNat_int (by omega))]
  · simp only [drawAsk, opKind, hx]
end

/-! ### Calls that look into memory; functions that are handed over -/
inductive Sub : List Res → List Res → Prop
  | nil {L : List Res} : Sub [] L
  | cons {c : Res} {C L : List Res} (k : Nat) (h : L[k]? = some c) (t : Sub C L) : Sub (c :: C) L
theorem Sub.push {C L : List Res} {r : Res} (h : Sub C L) : Sub C (r :: L) := by
  induction h with
  | nil => exact .nil
  | cons k h t ih => exact .cons (k + 1) h ih
theorem Sub.inv {c : Res} {C L : List Res} (h : Sub (c :: C) L) : ∃ k : Nat, L[k]? = some c ∧ Sub C L := by
  cases h with
  | cons k h t => exact ⟨k, h, t⟩

noncomputable def callV (X : Ctx) (cv : PV) (args : List PV) (σ : Heap) : Option (PV × Heap) :=
  match cv with
  | .v (.fn f) => callL X (.fn f) args σ
  | .clo f first caps => callL X (.fn f) (first ++ args ++ caps) σ
  | _ => none

/-- A call in a heap where some things lie; they lie there as they did when it is back. -/
def FnH (X : Ctx) (f : FuncId) (args : List PV) (r : PV) (C : List Res) : Prop :=
  ∀ σ lo hi L, Sub C L → Has σ lo hi L → ∃ σ', callL X (.fn f) args σ = some (r, σ') ∧ Has σ' lo hi L
def CloH (X : Ctx) (cv : PV) (args : List PV) (r : PV) (C : List Res) : Prop :=
  ∀ σ lo hi L, Sub C L → Has σ lo hi L → ∃ σ', callV X cv args σ = some (r, σ') ∧ Has σ' lo hi L

section
variable {X : Ctx} {f : FuncId} {args : List PV} {r : PV} {C : List Res}
theorem Fn.toH (h : Fn X f args r) (C : List Res) : FnH X f args r C := fun σ lo hi L _ H => ⟨σ, h.call σ, H⟩
theorem CloH.fn (h : FnH X f args r C) : CloH X (.v (.fn f)) args r C := h
theorem CloH.clo {first caps : List PV} (h : FnH X f (first ++ args ++ caps) r C) : CloH X (.clo f first caps) args r C := h
theorem CloH.weak {cv : PV} (h : CloH X cv args r []) : CloH X cv args r C := fun σ lo hi L _ H => h σ lo hi L .nil H

theorem all_nil {α : Type} {p : α → Bool} : ([] : List α).all p = true := rfl
theorem all_t {α : Type} {p : α → Bool} {x : α} {l : List α} (h : p x = true) (t : l.all p = true) : (x :: l).all p = true := by rw [List.all_cons, h, t]; rfl
theorem all_get {α : Type} {p : α → Bool} {x : α} {l : List α} (h : l.all p = true) (i : Nat) (hx : l[i]? = some x) : p x = true := List.all_eq_true.1 h x (List.mem_of_getElem? hx)

def PV.still : PV → Bool
  | .ptr _ _ _ => true
  | .clo _ _ _ => true
  | .yld _ => true
  | x => x.pure
theorem expArg_still {σ : Heap} {x : PV} (h : x.still = true) : expArg σ x = some (x, σ) := by
  cases x <;> first | rfl | exact expArg_pure h
theorem expArgs_still {σ : Heap} : ∀ {xs : List PV}, xs.all PV.still = true → expArgs σ xs = some (xs, σ)
  | [], _ => rfl
  | x :: xs, h => by
    simp only [List.all_cons, Bool.and_eq_true] at h
    simp only [expArgs, expArg_still h.1, Option.bind_some, expArgs_still h.2]

/-- A function's walk in a heap where things lie. -/
theorem FnH.of {fu : Func} {c : Code} {m : Nat} (hf : X.P.funcs[f]? = some fu) (hb : fu.body = some c) (hi : X.intr f args = none) (hk : X.keep f = false) (ho : X.opn f = false) (hs : args.all PV.still = true) (hm : max fu.ntmps args.length = m)
    (hp : args.all PV.pure = true → C = [])
    (h : ∀ σ L, Sub C L → Hs σ L → Runs X m f c (envOf args) σ (EndsH X fu.results.toList r L)) : FnH X f args r C := by
  subst hm
  intro σ lo hi' L hC H
  by_cases hpu : args.all PV.pure = true
  · have hC0 := hp hpu
    subst hC0
    obtain ⟨lf, x, e', σ1, h1, hE⟩ := (h Heap.empty [] .nil (Has.nil (Nat.le_refl _))).run
    obtain ⟨hx, xs, σ2, _, _, h2, h3, _⟩ := hE.out
    refine ⟨σ, callL_of_S (lf := lf) ?_, H⟩
    have hbody : bodyD X (callL X) lf f args Heap.empty = some (packD xs, σ1) := by
      simp only [bodyD, hf, hb, h1]
      rcases hx with rfl | rfl <;> simp only [h2, Option.map_some]
    simp only [callS, hi, hk, Bool.false_eq_true, if_false, expArgs_pure hpu, ho, hpu, if_true, hbody, Option.bind_some, h3, Option.map_some]
  · obtain ⟨lf, x, e', σ1, h1, hE⟩ := (h σ (.floor hi' :: L) hC.push (H.all.floor hi' H.le)).run
    obtain ⟨hx, xs, σ2, lo2, hi2, h2, h3, H2⟩ := hE.out
    refine ⟨σ2, callL_of_S (lf := lf) ?_, ?_⟩
    · have hbody : bodyD X (callL X) lf f args σ = some (packD xs, σ1) := by
        simp only [bodyD, hf, hb, h1]
        rcases hx with rfl | rfl <;> simp only [h2, Option.map_some]
      simp only [callS, hi, hk, Bool.false_eq_true, if_false, expArgs_still hs, ho, if_neg hpu, hbody, Option.bind_some, h3]
    · have hfl : hi' ≤ σ2.nx := H2.holds 0 _ rfl
      have H3 := H2.erase 0
      exact ⟨H3.holds, fun k r hk id ho => ⟨(H.lt k r hk id ho).1, (H3.lt k r hk id ho).2⟩, H.sep, hfl⟩
end

section
variable {X : Ctx} {n : Nat} {dr : Bool} {fn : FuncId} {ops : Array Oper} {base i : Nat} {l : List Oper} {e : Env} {σ : Heap} {K : Env → Heap → Prop}
variable {d : Nat} {t : TypeId} {p : String} {af : Array Edge} {x : Operand} {lo hi : Nat} {L C : List Res}

theorem Ops.callH {f : FuncId} {args : Array Operand} {ts : Array TypeId} {ys : List PV} {r : PV} (H : Has σ lo hi L) (ha : operandsD X e args.toList = some ys) (hf : FnH X f ys r C) (hs : Sub C L)
    (hdr : dr = true → (ys.all PV.pure && !X.opn f && !X.keep f) = true) (hd : Nat.blt d n = true)
    (hk : ∀ σ', Has σ' lo hi L → Ops X n dr ops base (i + 1) l (set e d r) σ' K) :
    Ops X n dr ops base i (⟨some d, .call { callee := .value (.func f), args := args, argTypes := ts }, t, p, af, none⟩ :: l) e σ K := by
  obtain ⟨σ', q1, q2⟩ := hf σ lo hi L hs H
  refine .plain (x := r) (σ1 := σ') (by simp only [stepOp, callOpD, ha, operandD, q1]) (fun h => ?_) hd (hk σ' q2)
  have := hdr h
  simp only [Bool.and_eq_true, Bool.not_eq_true'] at this
  simp only [drawAsk, opKind, ha, callAsk, operandD, pure_calm this.1.1, this.1.2, this.2, Bool.not_false, Bool.and_self]

theorem Ops.callV {cv : PV} {args : Array Operand} {ts : Array TypeId} {ys : List PV} {r : PV} (H : Has σ lo hi L) (hx : operandD X e x = some cv) (ha : operandsD X e args.toList = some ys) (hf : CloH X cv ys r C) (hs : Sub C L)
    (hdr : dr = false) (hd : Nat.blt d n = true)
    (hk : ∀ σ', Has σ' lo hi L → Ops X n dr ops base (i + 1) l (set e d r) σ' K) :
    Ops X n dr ops base i (⟨some d, .call { callee := .value x, args := args, argTypes := ts }, t, p, af, none⟩ :: l) e σ K := by
  obtain ⟨σ', q1, q2⟩ := hf σ lo hi L hs H
  refine .plain (x := r) (σ1 := σ') ?_ (fun h => by rw [hdr] at h; cases h) hd (hk σ' q2)
  simp only [stepOp, callOpD, ha, hx]
  unfold Dn.callV at q1
  split at q1
  · exact q1
  · exact q1
  · cases q1
end

theorem ro_at {v : PV} {xs : List (List FV)} {i : Int} {u : List FV} (h : RO v xs) (hu : at? xs i = some u) : v = .v (.sl xs) := by
  rcases h with ⟨_, rfl⟩ | rfl
  · have := (at?_some hu).2; simp at this
  · rfl

theorem Ops.lenRo {α : Type} {X : Ctx} {n : Nat} {dr : Bool} {ops : Array Oper} {base i : Nat} {l : List Oper} {e : Env} {σ : Heap} {K : Env → Heap → Prop} {d : Nat} {t t1 : TypeId} {p : String} {af : Array Edge} {x : Operand} {v : PV}
    {c : α → List FV} {xs : List α} {el : TypeId} (hro : RO v (xs.map c)) (hx : operandD X e x = some v) (ht : tslice X.P t1 = some el) (hd : Nat.blt d n = true)
    (hk' : Ops X n dr ops base (i + 1) l (set e d (.v (.int .i64 xs.length))) σ K) : Ops X n dr ops base i (⟨some d, .call { callee := .builtin .len, args := #[x], argTypes := #[t1] }, t, p, af, none⟩ :: l) e σ K := by
  rcases hro with ⟨rfl, h⟩ | rfl
  · have h : xs = [] := by simpa using h
    subst h
    exact Ops.lenN hx ht hd hk'
  · exact Ops.lenPt hx ht hd hk'

end Go.Dn
