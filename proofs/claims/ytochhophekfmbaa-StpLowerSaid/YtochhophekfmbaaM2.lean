/- Part 2 of what the row stands on. -/
import Derived.Below
import Derived.ChangeArms
import Derived.ChangeOld
import Derived.SizedLaws
import Derived.KernelRfl
import Derived.Test.YtochhophekfmbaaProg
import Derived.Test.YtochhophekfmbaaM1
set_option linter.unusedVariables false
set_option linter.unusedSimpArgs false
namespace Go.Dn
open Go
def rangeY {S T : Type} (yb : S → T → Option (S × Nat)) : S × Nat → T → Option ((S × Nat) × Bool) := fun s t => if s.2 = 0 then (yb s.1 t).map fun r => (r, r.2 == 0) else none
def cI (k : IntKind) (x : Int) : List FV := [.int k x]
def cB (x : Bool) : List FV := [.bool x]
def cS (x : ByteArray) : List FV := [.str x]
def cL {α : Type} (c : α → List FV) (x : List α) : List FV := [.sl (x.map c)]
abbrev w64 (x : Int) : Int := IntKind.i64.wrap x
def nz? (b : Int) : Option Unit := if b = 0 then none else some ()
theorem nz_ne {b : Int} {u : Unit} (h : nz? b = some u) : b ≠ 0 := by
 unfold nz? at h
 split at h
 ·cases h
 ·assumption
abbrev iAnd (k : IntKind) (x y : Int) : Int := k.wrap (BitVec.ofInt k.bits x &&& BitVec.ofInt k.bits y).toNat
abbrev iOr (k : IntKind) (x y : Int) : Int := k.wrap (BitVec.ofInt k.bits x ||| BitVec.ofInt k.bits y).toNat
abbrev iXor (k : IntKind) (x y : Int) : Int := k.wrap (BitVec.ofInt k.bits x ^^^ BitVec.ofInt k.bits y).toNat
abbrev iAndNot (k : IntKind) (x y : Int) : Int := k.wrap (BitVec.ofInt k.bits x &&& ~~~ BitVec.ofInt k.bits y).toNat
abbrev iMin (x y : Int) : Int := if y < x then y else x
abbrev iMax (x y : Int) : Int := if y > x then y else x
def winA (n : Int) (m : Nat) : Option Unit := if 0 ≤ n ∧ n.toNat < m then some () else none
def winB (n : Int) (m : Nat) : Option Unit := if 0 < n ∧ n.toNat ≤ m then some () else none
def dbl {α : Type} (xs : List α) (a : Nat) : List α := xs.take a ++ (xs.take a).take (xs.length - a) ++ xs.drop (a + min a (xs.length - a))
def some? {α : Type} (l : List α) : Option Unit := match l with | [] => none | _ :: _ => some ()
def clone? {α : Type} (by_ : Nat) (l : List α) : Option (List α) := if l.length * by_ ≤ room then some l else none
def gcd? (a b : Int) : Option Int := if (0 ≤ a ∧ a ≤ 18446744073709551615) ∧ 0 ≤ b ∧ b ≤ 18446744073709551615 then some (Int.gcd a b) else none
def Jx.elim {A R B : Type} (j : Jx A R) (g : R → Option B) (f : A → Option B) : Option B := match j with | .go a => f a | .ret r => g r
theorem jgo {A R B : Type} {a : A} {g : R → Option B} {f : A → Option B} {b : B} (h : (Jx.go a : Jx A R).elim g f = some b) : f a = some b := h
theorem jret {A R B : Type} {r : R} {g : R → Option B} {f : A → Option B} {b : B} (h : (Jx.ret r : Jx A R).elim g f = some b) : g r = some b := h
theorem or_T {c t : Bool} (h : c = true) : PV.v (.bool true) = .v (.bool (c || t)) := by rw [h]; rfl
theorem or_F {c t : Bool} (h : c = false) : PV.v (.bool t) = .v (.bool (c || t)) := by rw [h]; rfl
theorem Z2h {c t : Bool} (h : c = true) : PV.v (.bool t) = .v (.bool (c && t)) := by rw [h]; rfl
theorem Z2n {c t : Bool} (h : c = false) : PV.v (.bool false) = .v (.bool (c && t)) := by rw [h]; rfl
section
variable {X : Ctx} {n : Nat} {dr : Bool} {fn : FuncId} {ops : Array Oper} {base i : Nat} {l : List Oper} {e : Env} {σ : Heap} {K : Env → Heap → Prop} {Q : Ex → Env → Heap → Prop} {c a b : Code}
variable {d : Nat} {t t1 t2 : TypeId} {p : String} {af : Array Edge} {x y z : Operand} {v : PV} {lo hi : Nat} {L : List Res}
theorem Ops.lenPt {α : Type} {c : α → List FV} {xs : List α} {el : TypeId} (hx : Z0 X e x = some (.v (.sl (xs.map c)))) (ht : tslice X.P t1 = some el) (hd : Nat.blt d n = true)
  (hk' : Ops X n dr ops base (i + 1) l (set e d (.v (.int .i64 xs.length))) σ K) : Ops X n dr ops base i (⟨some d, .call { callee := .builtin .len, args := #[x], argTypes := #[t1] }, t, p, af, none⟩ :: l) e σ K := by
 refine Ops.lenP (af2 := #[]) hx ht hd ?_
 rw [YI]; exact hk'
theorem Ops.lenSt {α : Type} {c : α → List FV} {xs : List α} {el et : TypeId} {sz : Nat} {lv : Bool} (H : Has σ lo hi L) (k : Nat) (hk : L[k]? = some (.sl v et sz (xs.map c) lv)) (hx : Z0 X e x = some v) (ht : tslice X.P t1 = some el)
  (ha : dr = true → ∀ id, v.owner = some id → Seen ops base i id false) (hd : Nat.blt d n = true)
  (hk' : Ops X n dr ops base (i + 1) l (set e d (.v (.int .i64 xs.length))) σ K) : Ops X n dr ops base i (⟨some d, .call { callee := .builtin .len, args := #[x], argTypes := #[t1] }, t, p, af, none⟩ :: l) e σ K := by
 refine Ops.lenS H k hk hx ht ha hd ?_
 rw [YI]; exact hk'
theorem Z1d {v : PV} {id : Nat} (h : id ∈ vids v) (hv : ∀ i v' o, v ≠ .ptr i v' o) : v.owner = some id := by
 cases v <;> simp [vids] at h
 ·exact h ▸ rfl
 ·exact absurd rfl (hv _ _ _)
 ·exact h ▸ rfl
theorem Z3E {sz : Nat} {w : PV} {ys : List (List FV)} (H : Has σ lo hi L) (h : Bring L sz w ys) : ∀ i v' o, w ≠ .ptr i v' o := by
 intro i v' o e
 subst e
 cases h with
 | s k h => obtain ⟨_, ⟨h, _⟩ | ⟨_, h, _⟩⟩ := H.sl h <;> cases h
theorem Ops.appendSt {α : Type} {c : α → List FV} {xs ys r : List α} {el : TypeId} {sz by_ : Nat} {w : PV} {zs : List PV} (H : Has σ lo hi L) (hlo : lo ≤ base + i) (hhi : base + i < hi) (k : Nat) (hk : L[k]? = some (.sl v el sz (xs.map c) true))
  (hx : Z0 X e x = some v) (hy : Z0 X e y = some w) (hb : Bring L sz w (ys.map c)) (hr : app? by_ xs ys = some r) (ht : tslice X.P t1 = some el) (hs : tsize X.P el = some sz) (hby : tbytes X.P el = some by_) (hz : tzero X.P el = some zs)
  (hc : (sz != 0 && by_ != 0 && zs.length == sz) = true)
  (ha : dr = true → (∀ id, v.owner = some id → Seen ops base i id true) ∧ (∀ id, w.owner = some id → Seen ops base i id true)) (hd : Nat.blt d n = true)
  (hk' : ∀ v' σ', Has σ' (base + i + 1) hi (L.set k (.sl v' el sz (r.map c) true)) → Ops X n dr ops base (i + 1) l (set e d v') σ' K) :
  Ops X n dr ops base i (⟨some d, .call { callee := .builtin .append, args := #[x, y], argTypes := #[t1, t1] }, t, p, af, none⟩ :: l) e σ K := by
 unfold app? at hr
 split at hr
 ·rename_i hroom;cases hr;refine Ops.appendS H hlo hhi k hk hx hy hb ht hs hby hz hc (by simpa using hroom) (fun h id hid => ?_) hd ?_
  ·rcases List.mem_append.1 hid with hid | hid
   ·refine (ha h).1 id (Z1d hid ?_);intro i v' o e;subst e;obtain ⟨_, ⟨h, _⟩ | ⟨_, h, _⟩⟩ := H.sl hk <;> cases h
   ·exact (ha h).2 id (Z1d hid (Z3E H hb))
  ·rw [Y05] at hk';exact hk'
 ·cases hr
theorem Ops.appendBt {α : Type} {c : α → List FV} {xs ys r : List α} {el : TypeId} {sz by_ id m : Nat} {w : PV} {zs : List PV} (H : Has σ lo hi L) (hlo : lo ≤ base + i) (hhi : base + i < hi) (k : Nat) (hk : L[k]? = some (.sl (.buf id m sz) el sz (xs.map c) true))
  (hx : Z0 X e x = some (.buf id m sz)) (hy : Z0 X e y = some w) (hb : Bring L sz w (ys.map c)) (hr : app? by_ xs ys = some r) (ht : tslice X.P t1 = some el) (hs : tsize X.P el = some sz) (hby : tbytes X.P el = some by_) (hz : tzero X.P el = some zs)
  (hc : (sz != 0 && by_ != 0 && zs.length == sz) = true)
  (ha : dr = true → (∀ id', (PV.buf id m sz).owner = some id' → Seen ops base i id' true) ∧ (∀ id, w.owner = some id → Seen ops base i id true)) (hd : Nat.blt d n = true)
  (hk' : ∀ σ', Has σ' (base + i + 1) hi (L.set k (.sl (.buf id r.length sz) el sz (r.map c) true)) → Ops X n dr ops base (i + 1) l (set e d (.buf id r.length sz)) σ' K) :
  Ops X n dr ops base i (⟨some d, .call { callee := .builtin .append, args := #[x, y], argTypes := #[t1, t1] }, t, p, af, none⟩ :: l) e σ K := by
 unfold app? at hr
 split at hr
 ·rename_i hroom;cases hr;simp only [Y8, beq_iff_eq, bne_iff_ne, ne_eq] at hc;obtain ⟨hb1, hb2⟩ := brought H hb
  obtain ⟨hsz, hv⟩ := H.sl hk
  rcases hv with ⟨h, _⟩ | ⟨id', hid, hbl⟩
  ·cases h
  cases hid;have hall : ∀ y ∈ xs.map c ++ ys.map c, y.length = sz := fun y hy => (List.mem_append.1 hy).elim (hsz y) (hb2 y)
  have hn : ¬(sz = 0 ∨ by_ = 0 ∨ (some zs).map List.length ≠ some sz) := by
   rintro (h | h | h)
   ·exact hc.1.1 h
   ·exact hc.1.2 h
   ·exact h (by rw [Y7, hc.2])
  have ask : dr = true → ZZ X ops base i ⟨some d, .call { callee := .builtin .append, args := #[x, y], argTypes := #[t1, t1] }, t, p, af, none⟩ e = true := fun h =>
   Z2C (ids := vids (PV.buf id (xs.map c).length sz) ++ vids w) rfl (by simp only [touched, ZI, YC, YE, hx, hy, YD]) (fun id2 hid2 => by
    rcases List.mem_append.1 hid2 with hid2 | hid2
    ·exact (ha h).1 id2 (Z1d hid2 (by intros; simp))
    ·exact (ha h).2 id2 (Z1d hid2 (Z3E H hb)))
  have start : Z3 X (Zr X) e σ (base + i) (.call { callee := .builtin .append, args := #[x, y], argTypes := #[t1, t1] }) = Z0I X.P σ (base + i) t1 (.buf id (xs.map c).length sz) w := by
   simp only [Z3, ZW, ZG, hx, hy, Y1, Zf, if_true]
  refine .plain (x := .buf id (xs ++ ys).length sz) (σ1 := σ.put id (.blk el (vs (xs.map c).flatten ++ vs (ys.map c).flatten) true)) ?_ ask hd
   (hk' _ ((H.put hk rfl (r' := .sl (.buf id (xs ++ ys).length sz) el sz ((xs ++ ys).map c) true) ⟨by rw [Y05]; exact hall, .inr ⟨id, by rw [YI], ?_⟩⟩ rfl).weak (YX hlo (Nat.le_succ _)) (Y9 _)))
  ·rw [start];simp only [Z0I, ht, hs, hby, hb1, hz, if_neg hn, hbl];rw [if_pos ⟨trivial, trivial, by rw [Zo, Zg hsz], by simpa using hroom⟩]
   simp only [YI, YK]
  ·rw [Z0f, Y05, Yq, Z1H]
 ·cases hr
def cpy {α : Type} (xs ys : List α) : List α := ys.take (min ys.length xs.length) ++ xs.drop (min ys.length xs.length)
theorem Z2c {sz : Nat} : ∀ {ys : List (List FV)}, (∀ y ∈ ys, y.length = sz) → ∀ k, ys.flatten.take (k * sz) = (ys.take k).flatten
 | [], _, k => by simp
 | y :: ys, h, 0 => by simp
 | y :: ys, h, k + 1 => by
  have hy := h y YQ
  have ih := Z2c (ys := ys) (fun z hz => h z (YN _ hz)) k
  rw [YU, List.take_succ_cons, YU, Nat.succ_mul, Nat.add_comm (k * sz) sz, ← hy, List.take_length_add_append, hy, ih]
theorem Z45 {sz : Nat} : ∀ {ys : List (List FV)}, (∀ y ∈ ys, y.length = sz) → ∀ k, ys.flatten.drop (k * sz) = (ys.drop k).flatten
 | [], _, k => by simp
 | y :: ys, h, 0 => by simp
 | y :: ys, h, k + 1 => by
  have hy := h y YQ
  have ih := Z45 (ys := ys) (fun z hz => h z (YN _ hz)) k
  rw [YU, List.drop_succ_cons, Nat.succ_mul, Nat.add_comm (k * sz) sz, ← hy, List.drop_length_add_append, hy, ih]
theorem Ops.copyS {α : Type} {c : α → List FV} {xs ys : List α} {el : TypeId} {sz m : Nat} {w : PV} {t9 : TypeId} {id : Nat} (H : Has σ lo hi L) (k : Nat) (hk : L[k]? = some (.sl v el sz (xs.map c) true)) (hv : v = .buf id m sz)
  (hx : Z0 X e x = some v) (hy : Z0 X e y = some w) (hb : Bring L sz w (ys.map c)) (ht : tslice X.P t1 = some el) (hs : tsize X.P el = some sz)
  (ha : dr = true → (∀ id, v.owner = some id → Seen ops base i id true) ∧ (∀ id, w.owner = some id → Seen ops base i id true)) (hd : Nat.blt d n = true)
  (hk' : ∀ σ', Has σ' lo hi (L.set k (.sl v el sz ((cpy xs ys).map c) true)) → Ops X n dr ops base (i + 1) l (set e d (.v (.int .i64 (min ys.length xs.length : Nat)))) σ' K) :
  Ops X n dr ops base i (⟨some d, .call { callee := .builtin .copy, args := #[x, y], argTypes := #[t1, t9] }, t, p, af, none⟩ :: l) e σ K := by
 obtain ⟨hb1, hb2⟩ := brought H hb
 obtain ⟨hsz, hv'⟩ := H.sl hk
 subst hv
 rcases hv' with ⟨h, _⟩ | ⟨id', hid, hbl⟩
 ·cases h
 cases hid
 have hl2 : (vs (xs.map c).flatten).length = (xs.map c).length * sz := by rw [Zo, Zg hsz]
 have hcp : splice (vs (xs.map c).flatten) 0 ((vs (ys.map c).flatten).take (min (ys.map c).length (xs.map c).length * sz)) = vs ((cpy xs ys).map c).flatten := by
  rw [Z3e, Z2c hb2];unfold splice;rw [List.take_zero, List.nil_append, Zo, Y00, vs_drop, Zg (sz := sz) (fun y hy => hb2 y (YS hy)), Z45 hsz, ← Z1H, ← Yq]
  congr 1
  unfold cpy;rw [Y05, Y0D, List.map_drop];simp only [YM, YI]
  congr 3
  omega
 refine .plain (x := .v (.int .i64 (min ys.length xs.length : Nat))) (σ1 := σ.put id (.blk el (vs ((cpy xs ys).map c).flatten) true)) ?_ (fun h => Z2C rfl rfl ?_) hd
  (hk' _ (H.put hk rfl (r' := .sl (.buf id (xs.map c).length sz) el sz ((cpy xs ys).map c) true) ⟨fun y hy => ?_, .inr ⟨id, ?_, Z0f⟩⟩ rfl))
 ·simp only [Z3, ZW, ZG, hx, hy, Y1, Zf, Z3A, ht, hs, hb1, hbl];rw [if_pos ⟨trivial, trivial, hl2⟩, hcp];simp only [YI]
 ·intro id' hid;simp only [touched, ZI, YC, YE, hx, hy, YD] at hid
  rcases List.mem_append.1 hid with hid | hid
  ·exact (ha h).1 _ (Z1d hid (by intros; simp))
  ·exact (ha h).2 _ (Z1d hid (Z3E H hb))
 ·obtain ⟨a, ha', rfl⟩ := List.mem_map.1 hy
  unfold cpy at ha'
  rcases List.mem_append.1 ha' with h | h
  ·exact hb2 _ (List.mem_map.2 ⟨a, YS h, rfl⟩)
  ·exact hsz _ (List.mem_map.2 ⟨a, List.mem_of_mem_drop h, rfl⟩)
 ·have : ((cpy xs ys).map c).length = (xs.map c).length := by
   unfold cpy;simp only [YI, YK, YM, Yl];omega
  rw [this]
theorem Ops.storeSt {α : Type} {c : α → List FV} {xs : List α} {u u' : α} {id : Nat} {et : TypeId} {sz j m off ver : Nat} {zs : List FV} {iv : Int} {w : PV} (H : Has σ lo hi L) (k : Nat) (hk : L[k]? = some (.sl v et sz (xs.map c) true)) (hv : v = .buf id (xs.map c).length sz) (hver : ver = (xs.map c).length * sz)
  (hu : at? xs iv = some u) (hx : Z0 X e x = some (.ptr id ver off)) (hoff : off = iv.toNat * sz + j) (hy : Z0 X e y = some w) (hw : w.cells = some (vs zs)) (hm : tsize X.P t1 = some m) (hz : zs.length = m) (hj : Nat.ble (j + m) sz = true)
  (hu' : (c u).take j ++ zs ++ (c u).drop (j + zs.length) = c u') (ha : dr = true → Seen ops base i id true)
  (hk' : ∀ σ', Has σ' lo hi (L.set k (.sl v et sz ((xs.set iv.toNat u').map c) true)) → Ops X n dr ops base (i + 1) l e σ' K) : Ops X n dr ops base i (⟨none, .store t1 x y, t, p, af, none⟩ :: l) e σ K := by
 refine Ops.storeS H k hk hv hver (at?_map hu) hx hoff hy hw hm hz hj hu' ha ?_
 rw [List.map_set] at hk'
 exact hk'
theorem Ops.binA {op : BinOp} {u w : PV} {r : FV} (hx : Z0 X e x = some u) (hy : Z0 X e y = some w) (hr : binD X.P σ op t1 u w = some r) (ha : dr = true → ZZ X ops base i ⟨some d, .binOp op t1 x y t2, t, p, af, none⟩ e = true) (hd : Nat.blt d n = true)
  (hk : Ops X n dr ops base (i + 1) l (set e d (.v r)) σ K) : Ops X n dr ops base i (⟨some d, .binOp op t1 x y t2, t, p, af, none⟩ :: l) e σ K :=
 .plain (x := .v r) (σ1 := σ) (by simp only [Z3, hx, hy, hr, Y7]) ha hd hk
theorem ask_eqA {op : BinOp} {us ws : List PV} {o : Oper} (hx : Z0 X e x = some (.agg us)) (hy : Z0 X e y = some (.agg ws)) (hop : Zb (.binOp op t1 x y t2) = .read) (ho : o.op = .binOp op t1 x y t2) : ZZ X ops base i o e = true :=
 Z1J (by rw [ho]; exact hop) (by rw [ho]; simp only [touched, ZI, YC, YE, hx, hy, vids, YD])
theorem Ops.buildA {parts : Array (Nat × Operand)} {cs : List PV} (hb : Z4l X e t1 parts.toList = some (.agg cs)) (hd : Nat.blt d n = true) (hk : Ops X n dr ops base (i + 1) l (set e d (.agg cs)) σ K) : Ops X n dr ops base i (⟨some d, .build t1 parts, t, p, af, none⟩ :: l) e σ K :=
 .plain (x := .agg cs) (σ1 := σ) (by simp only [Z3, hb, Y7]) (fun _ => Zu rfl) hd hk
theorem Ops.makeClo {f : FuncId} {first caps : Array Operand} {fs cs : List PV} (hf : ZG X e first.toList = some fs) (hc : ZG X e caps.toList = some cs) (hn : (fs.isEmpty && cs.isEmpty) = false) (hd : Nat.blt d n = true)
  (hk : Ops X n dr ops base (i + 1) l (set e d (.clo f fs cs)) σ K) : Ops X n dr ops base i (⟨some d, .makeFunc (.func f) first caps, t, p, af, none⟩ :: l) e σ K := by
 refine .plain (x := .clo f fs cs) (σ1 := σ) ?_ (fun _ => Zu rfl) hd hk
 simp only [Z3, hf, hc]
 cases fs <;> cases cs <;> first | rfl | cases hn
theorem Ops.min2 {k : IntKind} {u w : Int} {ts : Array TypeId} (hx : Z0 X e x = some (.v (.int k u))) (hy : Z0 X e y = some (.v (.int k w))) (hd : Nat.blt d n = true) (hk : Ops X n dr ops base (i + 1) l (set e d (.v (.int k (iMin u w)))) σ K) :
  Ops X n dr ops base i (⟨some d, .call { callee := .builtin .min, args := #[x, y], argTypes := ts }, t, p, af, none⟩ :: l) e σ K :=
 .plain (x := .v (.int k (iMin u w))) (σ1 := σ) (by simp only [Z3, ZW, ZG, hx, hy, Y1, Zf, Z1Q, if_true, Y7]) (fun _ => Zu rfl) hd hk
theorem Ops.max2 {k : IntKind} {u w : Int} {ts : Array TypeId} (hx : Z0 X e x = some (.v (.int k u))) (hy : Z0 X e y = some (.v (.int k w))) (hd : Nat.blt d n = true) (hk : Ops X n dr ops base (i + 1) l (set e d (.v (.int k (iMax u w)))) σ K) :
  Ops X n dr ops base i (⟨some d, .call { callee := .builtin .max, args := #[x, y], argTypes := ts }, t, p, af, none⟩ :: l) e σ K :=
 .plain (x := .v (.int k (iMax u w))) (σ1 := σ) (by simp only [Z3, ZW, ZG, hx, hy, Y1, Zf, Z1Q, if_true, Y7]) (fun _ => Zu rfl) hd hk
theorem cut?_some {α : Type} {xs r : List α} {i j : Int} (h : cut? xs i j = some r) : 0 ≤ i ∧ i ≤ j ∧ j ≤ xs.length ∧ r = (xs.take j.toNat).drop i.toNat := by
 unfold cut? at h
 split at h
 ·rename_i h1; cases h; exact ⟨h1.1, h1.2.1, h1.2.2, rfl⟩
 ·cases h
theorem sliceP_ok {α : Type} {c : α → List FV} {xs r : List α} {i0 j0 : Int} {P : Program} {el : TypeId} {m : Nat} {lo hi : Option PV} (h : cut? xs i0 j0 = some r) (ht : tslice P t1 = some el) (hs : tsize P el = some m) (hm : ∀ u, (c u).length = m)
  (hlo : (match lo with | none => some 0 | some v => Z1V v) = some i0.toNat) (hhi : (match hi with | none => some xs.length | some v => Z1V v) = some j0.toNat) : Z56 P t1 (.v (.sl (xs.map c))) lo hi none = some (.v (.sl (r.map c))) := by
 obtain ⟨h1, h2, h3, rfl⟩ := cut?_some h
 have hc : i0.toNat ≤ j0.toNat ∧ j0.toNat ≤ xs.length ∧ Z3c (xs.map c) i0.toNat m = true := by
  refine ⟨by omega, by omega, ?_⟩
  simp only [Z3c, YH];cases xs[i0.toNat]? with
  | none => rfl
  | some u => simp [hm]
 have hc' : xs.length = j0.toNat → i0.toNat ≤ j0.toNat ∧ j0.toNat ≤ j0.toNat ∧ Z3c (xs.map c) i0.toNat m = true := fun _ => ⟨hc.1, Y9 _, hc.2.2⟩
 cases lo <;> cases hi <;> simp only [Y4] at hlo hhi <;> simp only [Z56, ht, Y1, hs, YI, hlo, hhi, List.map_drop, Y0D] <;> first | rw [if_pos hc] | rw [if_pos (hc' hhi)]
theorem asNat_int {k : IntKind} {m : Int} (h : 0 ≤ m) : Z1V (.v (.int k m)) = some m.toNat := by simp [Z1V, h]
theorem Ops.sliceP01 {α : Type} {c : α → List FV} {xs r : List α} {el : TypeId} {m : Nat} {k : IntKind} {j0 : Int} (h : cut? xs 0 j0 = some r) (hx : Z0 X e x = some (.v (.sl (xs.map c)))) (hl : Z0 X e y = some (.v (.int k j0))) (ht : tslice X.P t1 = some el) (hs : tsize X.P el = some m) (hm : ∀ u, (c u).length = m) (hd : Nat.blt d n = true)
  (hk : Ops X n dr ops base (i + 1) l (set e d (.v (.sl (r.map c)))) σ K) : Ops X n dr ops base i (⟨some d, .slice t1 x none (some y) none, t, p, af, none⟩ :: l) e σ K := by
 refine .plain (x := .v (.sl (r.map c))) (σ1 := σ) ?_ (fun _ => ?_) hd hk
 ·have h' := cut?_some h
  simp only [Z3, hx, hl, optD, Y7, sliceP_ok h ht hs hm (lo := none) (hi := some (.v (.int k j0))) rfl (asNat_int (by omega))]
 ·exact ask0 (by simp only [ZP, Zb, hx])
end
inductive Sub : List Res → List Res → Prop
 | nil {L : List Res} : Sub [] L
 | cons {c : Res} {C L : List Res} (k : Nat) (h : L[k]? = some c) (t : Sub C L) : Sub (c :: C) L
theorem Sub.push {C L : List Res} {r : Res} (h : Sub C L) : Sub C (r :: L) := by
 induction h with
 | nil => exact .nil
 | cons k h t ih => exact .cons (k + 1) h ih
theorem Sub.inv {c : Res} {C L : List Res} (h : Sub (c :: C) L) : ∃ k : Nat, L[k]? = some c ∧ Sub C L := by
 cases h with
 | cons k h t => exact ⟨k, h, t⟩
noncomputable def callV (X : Ctx) (cv : PV) (args : List PV) (σ : Heap) : Option (PV × Heap) :=
 match cv with
 | .v (.fn f) => Zr X (.fn f) args σ
 | .clo f first caps => Zr X (.fn f) (first ++ args ++ caps) σ
 | _ => none
def FnH (X : Ctx) (f : FuncId) (args : List PV) (r : PV) (C : List Res) : Prop :=
 ∀ σ lo hi L, Sub C L → Has σ lo hi L → ∃ σ', Zr X (.fn f) args σ = some (r, σ') ∧ Has σ' lo hi L
def CloH (X : Ctx) (cv : PV) (args : List PV) (r : PV) (C : List Res) : Prop :=
 ∀ σ lo hi L, Sub C L → Has σ lo hi L → ∃ σ', callV X cv args σ = some (r, σ') ∧ Has σ' lo hi L
section
variable {X : Ctx} {f : FuncId} {args : List PV} {r : PV} {C : List Res}
theorem Fn.toH (h : Fn X f args r) (C : List Res) : FnH X f args r C := fun σ lo hi L _ H => ⟨σ, h.call σ, H⟩
theorem CloH.fn (h : FnH X f args r C) : CloH X (.v (.fn f)) args r C := h
theorem CloH.clo {first caps : List PV} (h : FnH X f (first ++ args ++ caps) r C) : CloH X (.clo f first caps) args r C := h
theorem CloH.weak {cv : PV} (h : CloH X cv args r []) : CloH X cv args r C := fun σ lo hi L _ H => h σ lo hi L .nil H
theorem all_nil {α : Type} {p : α → Bool} : ([] : List α).all p = true := rfl
theorem all_t {α : Type} {p : α → Bool} {x : α} {l : List α} (h : p x = true) (t : l.all p = true) : (x :: l).all p = true := by rw [Ye, h, t]; rfl
theorem Z4C {α : Type} {p : α → Bool} {x : α} {l : List α} (h : l.all p = true) (i : Nat) (hx : l[i]? = some x) : p x = true := List.all_eq_true.1 h x (YB hx)
def PV.still : PV → Bool
 | .ptr _ _ _ => true
 | .clo _ _ _ => true
 | .yld _ => true
 | x => x.pure
theorem expArg_still {σ : Heap} {x : PV} (h : x.still = true) : Z1c σ x = some (x, σ) := by
 cases x <;> first | rfl | exact Z3T h
theorem Z2W {σ : Heap} : ∀ {xs : List PV}, xs.all PV.still = true → Zy σ xs = some (xs, σ)
 | [], _ => rfl
 | x :: xs, h => by
  simp only [Ye, Y8] at h;simp only [Zy, expArg_still h.1, Y1, Z2W h.2]
theorem FnH.of {fu : Func} {c : Code} {m : Nat} (hf : X.P.funcs[f]? = some fu) (hb : fu.body = some c) (hi : X.intr f args = none) (hk : X.keep f = false) (ho : X.opn f = false) (hs : args.all PV.still = true) (hm : max fu.ntmps args.length = m)
  (hp : args.all PV.pure = true → C = [])
  (h : ∀ σ L, Sub C L → Hs σ L → Runs X m f c (Z2j args) σ (EndsH X fu.results.toList r L)) : FnH X f args r C := by
 subst hm
 intro σ lo hi' L hC H
 by_cases hpu : args.all PV.pure = true
 ·have hC0 := hp hpu
  subst hC0;obtain ⟨lf, x, e', σ1, h1, hE⟩ := (h Heap.empty [] .nil (Has.nil (Y9 _))).run
  obtain ⟨hx, xs, σ2, _, _, h2, h3, _⟩ := hE.out
  refine ⟨σ, Z1D (lf := lf) ?_, H⟩
  have hbody : Z0L X (Zr X) lf f args Heap.empty = some (Z0K xs, σ1) := by
   simp only [Z0L, hf, hb, h1]
   rcases hx with rfl | rfl <;> simp only [h2, Y7]
  simp only [Z2O, hi, hk, YA, if_false, Z0t hpu, ho, hpu, if_true, hbody, Y1, h3, Y7]
 ·obtain ⟨lf, x, e', σ1, h1, hE⟩ := (h σ (.floor hi' :: L) hC.push (H.all.floor hi' H.le)).run
  obtain ⟨hx, xs, σ2, lo2, hi2, h2, h3, H2⟩ := hE.out
  refine ⟨σ2, Z1D (lf := lf) ?_, ?_⟩
  ·have hbody : Z0L X (Zr X) lf f args σ = some (Z0K xs, σ1) := by
    simp only [Z0L, hf, hb, h1]
    rcases hx with rfl | rfl <;> simp only [h2, Y7]
   simp only [Z2O, hi, hk, YA, if_false, Z2W hs, ho, if_neg hpu, hbody, Y1, h3]
  ·have hfl : hi' ≤ σ2.nx := H2.holds 0 _ rfl
   have H3 := H2.erase 0
   exact ⟨H3.holds, fun k r hk id ho => ⟨(H.lt k r hk id ho).1, (H3.lt k r hk id ho).2⟩, H.sep, hfl⟩
end
section
variable {X : Ctx} {n : Nat} {dr : Bool} {fn : FuncId} {ops : Array Oper} {base i : Nat} {l : List Oper} {e : Env} {σ : Heap} {K : Env → Heap → Prop}
variable {d : Nat} {t : TypeId} {p : String} {af : Array Edge} {x : Operand} {lo hi : Nat} {L C : List Res}
theorem Ops.callH {f : FuncId} {args : Array Operand} {ts : Array TypeId} {ys : List PV} {r : PV} (H : Has σ lo hi L) (ha : ZG X e args.toList = some ys) (hf : FnH X f ys r C) (hs : Sub C L)
  (hdr : dr = true → (ys.all PV.pure && !X.opn f && !X.keep f) = true ∨ Z1L (Region.before ops) ops i = true) (hd : Nat.blt d n = true)
  (hk : ∀ σ', Has σ' lo hi L → Ops X n dr ops base (i + 1) l (set e d r) σ' K) :
  Ops X n dr ops base i (⟨some d, .call { callee := .value (.func f), args := args, argTypes := ts }, t, p, af, none⟩ :: l) e σ K := by
 obtain ⟨σ', q1, q2⟩ := hf σ lo hi L hs H
 refine .plain (x := r) (σ1 := σ') (by simp only [Z3, ZW, ha, Z0, q1]) (fun h => ?_) hd (hk σ' q2)
 rcases hdr h with this | this
 case inr => exact Z4M this
 simp only [Y8, YV] at this
 exact ask0 (by simp only [ZP, Zb, ha, Z2o, Z0, pure_calm this.1.1, this.1.2, this.2, Bool.not_false, Y0N])
theorem Ops.callV {cv : PV} {args : Array Operand} {ts : Array TypeId} {ys : List PV} {r : PV} (H : Has σ lo hi L) (hx : Z0 X e x = some cv) (ha : ZG X e args.toList = some ys) (hf : CloH X cv ys r C) (hs : Sub C L)
  (hdr : dr = true → Z1L (Region.before ops) ops i = true) (hd : Nat.blt d n = true)
  (hk : ∀ σ', Has σ' lo hi L → Ops X n dr ops base (i + 1) l (set e d r) σ' K) :
  Ops X n dr ops base i (⟨some d, .call { callee := .value x, args := args, argTypes := ts }, t, p, af, none⟩ :: l) e σ K := by
 obtain ⟨σ', q1, q2⟩ := hf σ lo hi L hs H
 refine .plain (x := r) (σ1 := σ') ?_ (fun h => Z4M (hdr h)) hd (hk σ' q2)
 simp only [Z3, ZW, ha, hx]
 unfold Dn.callV at q1
 split at q1
 ·exact q1
 ·exact q1
 ·cases q1
end
end Go.Dn

namespace Go.Dn
open Go Go.ChangeShapes
def consec (P : Program) : Nat → List Field → Option Nat
 | o, [] => some o
 | o, f :: fs => if f.offset = o then consec P (o + P.cellsOf f.type) fs else none
def supp (P : Program) : Nat → TypeId → Bool
 | 0, _ => false
 | d + 1, t =>
  match P.underlying t with
  | some .bool => P.cellsOf t == 1
  | some (.int _) => P.cellsOf t == 1
  | some .string => P.cellsOf t == 1
  | some (.slice e) => P.cellsOf t == 1 && P.cellsOf e != 0 && supp P d e
  | some (.struct fs) => fs.toList.all (fun f => supp P d f.type) && (consec P 0 fs.toList == some (P.cellsOf t))
  | _ => false
def OKC (P : Program) : Nat → TypeId → List FV → Prop
 | 0, _, _ => False
 | d + 1, t, ys =>
  match P.underlying t with
  | some .bool => ∃ b, ys = [.bool b]
  | some (.int k) => ∃ m, ys = [.int k m] ∧ (Lit.int k m).wf = true
  | some .string => ∃ s, ys = [.str s] ∧ s.size ≤ maxLen
  | some (.slice e) => ∃ xs, ys = [.sl xs] ∧ xs.length * P.bytesOf e ≤ reachBytes ∧ ∀ x ∈ xs, OKC P d e x
  | some (.struct fs) => ys.length = P.cellsOf t ∧ ∀ f ∈ fs.toList, OKC P d f.type ((ys.drop f.offset).take (P.cellsOf f.type))
  | _ => False
section
variable {H : Type} {enc : TypeId × Value → H} {P : Program} {w : World} {base : Nat} {spare : Nat → Bool} {held : Bool} {Im : Nat → Prop}
def Cov (w : World) (Im : Nat → Prop) (ys : List FV) (cs : List Value) : Prop := ys.length = cs.length ∧ ∀ (i : Nat) (y : FV) (v : Value), ys[i]? = some y → cs[i]? = some v → FVR w Im y v
theorem Cov.one {y : FV} {v : Value} (h : FVR w Im y v) : Cov w Im [y] [v] := ⟨rfl, fun i y' v' hy hv => by
 cases i with
 | zero => cases hy; cases hv; exact h
 | succ i => simp at hy⟩
theorem consec_le : ∀ {fs : List Field} {o m : Nat}, consec P o fs = some m → o ≤ m
 | [], o, m, h => by simp [consec] at h; omega
 | f :: fs, o, m, h => by
  simp only [consec] at h
  split at h
  ·have := consec_le h; omega
  ·cases h
theorem fields_ok {d n : Nat} {cs : List Value} (ih : ∀ (t : TypeId) (cs : List Value) (x : DataW H × List MemPlace), supp P d t = true → DataW.trod enc P w base spare held n t cs = some x → (∀ p ∈ x.2, Im p.block) → (∀ n ∈ x.1.weights P t, n ≤ reachBytes) → ∃ ys, Cov w Im ys cs ∧ OKC P d t ys) :
  ∀ (fs : List Field) (o m : Nat), consec P o fs = some m → m ≤ cs.length → (∀ f ∈ fs, supp P d f.type = true) →
   (∀ f ∈ fs, ∃ x, DataW.trod enc P w base spare held n f.type ((cs.drop f.offset).take (P.cellsOf f.type)) = some x ∧ (∀ p ∈ x.2, Im p.block) ∧ ∀ n ∈ x.1.weights P f.type, n ≤ reachBytes) →
   ∃ ys, Cov w Im ys ((cs.drop o).take (m - o)) ∧ ∀ f ∈ fs, o ≤ f.offset ∧ OKC P d f.type ((ys.drop (f.offset - o)).take (P.cellsOf f.type))
 | [], o, m, hc, hm, _, _ => by
  simp [consec] at hc;subst hc;exact ⟨[], ⟨by simp, by simp⟩, by simp⟩
 | f :: fs, o, m, hc, hm, hs, hx => by
  simp only [consec] at hc
  split at hc
  ·rename_i ho;subst ho;obtain ⟨x, hx1, hx2, hx3⟩ := hx f YQ
   obtain ⟨ys, ⟨hl, hv⟩, hok⟩ := ih f.type _ x (hs f YQ) hx1 hx2 hx3
   have hle := consec_le hc
   obtain ⟨zs, ⟨hl2, hv2⟩, hok2⟩ := fields_ok ih fs _ m hc hm (fun g hg => hs g (YN _ hg)) (fun g hg => hx g (YN _ hg))
   simp only [YM, Yl] at hl hl2;have hy : ys.length = P.cellsOf f.type := by omega
   refine ⟨ys ++ zs, ⟨by simp only [YK, YM, Yl]; omega, fun i y v h1 h2 => ?_⟩, fun g hg => ?_⟩
   ·by_cases hi : i < ys.length
    ·rw [YO hi] at h1;refine hv i y v h1 ?_;rw [YG] at h2 ⊢;rw [if_pos (by omega)] at h2 ⊢
     exact h2
    ·rw [YL (by omega)] at h1
     have hi2 : i - ys.length < zs.length := by
      rcases YZ (i - ys.length) zs.length with h | h
      ·exact h
      ·rw [Yj h] at h1; cases h1
     refine hv2 (i - ys.length) y v h1 ?_;rw [YG, YY] at h2 ⊢;rw [if_pos (by omega)] at h2 ⊢
     rw [← h2]
     congr 1; omega
   ·rcases List.mem_cons.1 hg with rfl | hg
    ·refine ⟨Y9 _, ?_⟩;rw [Nat.sub_self, List.drop_zero, Yz (by omega), Yg (by omega)]
     exact hok
    ·obtain ⟨h1, h2⟩ := hok2 g hg
     refine ⟨by omega, ?_⟩
     have : (ys ++ zs).drop (g.offset - f.offset) = zs.drop (g.offset - (f.offset + P.cellsOf f.type)) := by
      rw [List.drop_append, List.drop_eq_nil_of_le (by omega), List.nil_append]
      congr 1; omega
     rw [this];exact h2
  ·cases hc
theorem Z5B {e : TypeId} : ∀ {ds : List (DataW H)} {d : DataW H}, d ∈ ds → ∀ n ∈ d.weights P e, n ∈ DataW.weightsAll P e ds
 | d0 :: ds, d, h, n, hn => by
  simp only [DataW.weightsAll, Yr]
  rcases List.mem_cons.1 h with rfl | h
  ·exact .inl hn
  ·exact .inr (Z5B h n hn)
def Sized (P : Program) (t : TypeId) (d : DataW H) : Prop := ∀ n ∈ d.weights P t, n ≤ reachBytes
theorem OKC.length : ∀ {d : Nat} {t : TypeId} {ys : List FV}, supp P d t = true → OKC P d t ys → ys.length = P.cellsOf t
 | 0, t, ys, h, _ => by simp [supp] at h
 | d + 1, t, ys, h, ho => by
  unfold supp at h;unfold OKC at ho
  split at h
  all_goals (rename_i hu; simp only [hu] at ho)
  ·obtain ⟨b, rfl⟩ := ho; simp at h; simp [h]
  ·obtain ⟨b, rfl, _⟩ := ho; simp at h; simp [h]
  ·obtain ⟨b, rfl, _⟩ := ho; simp at h; simp [h]
  ·obtain ⟨b, rfl, _⟩ := ho; simp at h; simp [h]
  ·exact ho.1
theorem Z4G : ∀ (d n : Nat) (t : TypeId) (cs : List Value) (x : DataW H × List MemPlace), supp P d t = true → DataW.trod enc P w base spare held n t cs = some x → (∀ p ∈ x.2, Im p.block) → (∀ n ∈ x.1.weights P t, n ≤ reachBytes) → ∃ ys, Cov w Im ys cs ∧ OKC P d t ys
 | 0, n, t, cs, x, hs, h, hp, hw => by simp [supp] at hs
 | d + 1, n, t, cs, x, hs, h, hp, hw => by
  unfold supp at hs
  split at hs
  ·rename_i hu;cases n with
   | zero => simp [DataW.trod] at h
   | succ n =>
    simp only [DataW.trod, hu] at h
    split at h <;> simp_all
    rename_i b;exact ⟨[.bool b], Cov.one (.bool b), by simp [OKC, hu]⟩
  ·rename_i k hu;cases n with
   | zero => simp [DataW.trod] at h
   | succ n =>
    simp only [DataW.trod, hu] at h
    split at h <;> try (simp_all; done)
    rename_i k2 m he1 ;simp only [Y4, TypeDesc.int.injEq] at he1;subst he1
    split at h
    ·rename_i k' n' hk;obtain ⟨rfl, hwf⟩ := hk
     exact ⟨[.int _ _], Cov.one (.int _ _), by simp [OKC, hu, hwf]⟩
    ·cases h
  ·rename_i hu;cases n with
   | zero => simp [DataW.trod] at h
   | succ n =>
    simp only [DataW.trod, hu] at h
    split at h <;> try (simp_all; done)
    split at h
    ·rename_i s hk;exact ⟨[.str _], Cov.one (.str _), by simp [OKC, hu, hk]⟩
    ·cases h
  ·rename_i e hu;simp only [Y8, beq_iff_eq, bne_iff_ne, ne_eq] at hs
   rcases DataW.trod_slice hu h with ⟨rfl, rfl⟩ | ⟨a, len, cap, elems, rest, m, rfl, rfl, rfl, hb, hl, hm, hlen, hel, hsp, hns⟩
   ·exact ⟨[.sl []], Cov.one .nil, by simp [OKC, hu]⟩
   ·by_cases h0 : len = 0
    ·subst h0;exact ⟨[.sl []], Cov.one (.empty a cap), by simp [OKC, hu]⟩
    ·have each : ∀ i, i < len → ∃ cs' ys, w.cells? base (a.add (i * P.cellsOf e)) (P.cellsOf e) = some cs' ∧ Cov w Im ys cs' ∧ OKC P d e ys := by
      intro i hi;have h1 := hel i hi
      obtain ⟨y, hy⟩ : ∃ y, elems[i]? = some y := ⟨_, Y6 (by omega)⟩
      rw [hy, Y2] at h1;obtain ⟨cs', hcs, ht⟩ := h1
      obtain ⟨ys, h2, h3⟩ := Z4G d m e cs' y hs.2 ht (fun p hpm => hp p (by
       refine Yv _ (List.mem_flatMap.2 ⟨y, Yy _ (YB hy), hpm⟩))) (fun n hn => hw n (by
       simp only [DataW.weights, hu, List.mem_cons, Yr];exact .inr (.inl (Z5B (List.mem_map.2 ⟨y, YB hy, rfl⟩) n hn))))
      exact ⟨cs', ys, hcs, h2, h3⟩
     let F : Nat → List FV := fun i => if hi : i < len then (each i hi).choose_spec.choose else []
     let C : Nat → List Value := fun i => if hi : i < len then (each i hi).choose else []
     have hF : ∀ i, i < len → w.cells? base (a.add (i * P.cellsOf e)) (P.cellsOf e) = some (C i) ∧ Cov w Im (F i) (C i) ∧ OKC P d e (F i) := by
      intro i hi;simp only [F, C, dif_pos hi];exact (each i hi).choose_spec.choose_spec
     have hFl : ∀ i, i < len → (F i).length = P.cellsOf e := fun i hi => OKC.length hs.2 (hF i hi).2.2
     have hxs : ∀ y ∈ (List.range len).map F, ∃ i, i < len ∧ y = F i := fun y hy => by
      obtain ⟨i, hi, rfl⟩ := List.mem_map.1 hy
      exact ⟨i, List.mem_range.1 hi, rfl⟩
     refine ⟨[.sl ((List.range len).map F)], Cov.one ?_, ?_⟩
     ·by_cases hz : P.cellsOf e = 0
      ·exact absurd hz hs.1.2
      ·have hsp0 : a.spot = none := by
        have h1 := (World.cells?_some (hF 0 (by omega)).1).2.2 0 (by omega)
        have hl0 := (World.cells?_some (hF 0 (by omega)).1).2.1
        simp only [Nat.zero_mul, Addr.add, if_true] at h1;unfold World.cell? at h1
        split at h1
        ·split at h1
         ·have : (C 0)[0]? = none := h1.symm
          rw [List.getElem?_eq_none_iff] at this;omega
         ·rename_i hq; simpa using hq
        ·have : (C 0)[0]? = none := h1.symm
         rw [List.getElem?_eq_none_iff] at this;omega
       obtain ⟨bl, off, spot⟩ := a
       simp only at hsp0;subst hsp0;have hcov := FVR.sl (w := w) (Imm := Im) ((List.range len).map F) bl off cap (P.cellsOf e) (fun i j => (C i).getD j Go.undef) ?_ (by simpa using hl) (fun y hy => by
        obtain ⟨i, hi, rfl⟩ := hxs y hy; exact hFl i hi) (fun i j hi hj => ?_) (fun i j y x h1 h2 => ?_)
       ·simpa using hcov
       ·refine hp (.cell bl (off + 0)) (Yy _ ?_);simp only [MemPlace.row, List.mem_map, Y0J];refine ⟨0, ?_, rfl⟩;exact Nat.mul_pos (by omega) (by omega)
       ·simp only [YI, List.length_range] at hi;have h1 := (World.cells?_some (hF i hi).1).2.2 j hj
        have hl0 := (World.cells?_some (hF i hi).1).2.1
        have e1 : (Addr.add (Addr.add ⟨bl, off, none⟩ (i * P.cellsOf e)) j) = ⟨bl, off + i * P.cellsOf e + j, none⟩ := by
         simp only [Z1X]
        rw [e1] at h1;rw [h1, Y6 (by omega)]
        simp [List.getD, Y6 (show j < (C i).length by omega)]
       ·rw [YH, Y0] at h1;obtain ⟨i', hi', rfl⟩ := h1
        have hi2 := List.mem_range.1 (YB hi')
        have : i' = i := by
         rw [List.getElem?_eq_some_iff] at hi';obtain ⟨q1, q2⟩ := hi'
         simpa using q2.symm
        subst this;have hj : j < (C i').length := by
         rw [← (hF i' hi2).2.1.1]; exact (List.getElem?_eq_some_iff.1 h2).1
        refine (hF i' hi2).2.1.2 j x _ h2 ?_;rw [Y6 hj];simp [List.getD, Y6 hj]
     ·simp only [OKC, hu];refine ⟨_, rfl, ?_, fun y hy => ?_⟩
      ·have h1 := hw ((elems.length + rest.length) * P.bytesOf e) (by simp [DataW.weights, hu])
       refine YX (YT _ ?_) h1
       simp; omega
      obtain ⟨i, hi, rfl⟩ := hxs y hy
      exact (hF i hi).2.2
  ·rename_i fs hu;simp only [Y8, beq_iff_eq, YF] at hs;obtain ⟨xs, m, rfl, rfl, hl, hx, hf⟩ := DataW.trod_struct hu h
   obtain ⟨ys, hc, ho⟩ := fields_ok (cs := cs) (fun t cs x h1 h2 h3 h4 => Z4G d m t cs x h1 h2 h3 h4) fs.toList 0 (P.cellsOf t) hs.2 (by omega) hs.1 (fun f hfm => by
    obtain ⟨i, hi⟩ := Y0K hfm
    have hi' : fs[i]? = some f := by simpa using hi
    have h1 := hf i f hi'
    have hlt : i < xs.length := by
     have := (Array.getElem?_eq_some_iff.1 hi').1
     omega
    rw [Y6 hlt] at h1;exact ⟨_, h1, fun p hpm => hp p (List.mem_flatMap.2 ⟨_, Y0A hlt, hpm⟩), fun n hn => hw n (by
     simp only [DataW.weights, hu];exact DataW.weights_mem_each (j := i) (t := f.type) (d := (xs[i]).1) (by simp [hi]) (by simp [hlt]) n hn)⟩)
   rw [List.drop_zero, Nat.sub_zero, Yg (by omega)] at hc
   refine ⟨ys, hc, ?_⟩;simp only [OKC, hu];exact ⟨hc.1.trans hl, fun f hfm => by simpa using (ho f hfm).2⟩
  ·cases hs
end
def okI (k : IntKind) (x : Int) : Prop := k.min ≤ x ∧ x ≤ k.max
def okB (_ : Bool) : Prop := True
def okS (x : ByteArray) : Prop := x.size ≤ maxLen
def okL {α : Type} (b : Nat) (p : α → Prop) (xs : List α) : Prop := xs.length * b ≤ reachBytes ∧ ∀ x ∈ xs, p x
def Dec (P : Program) {α : Type} (t : TypeId) (c : α → List FV) (ok : α → Prop) : Prop := ∀ d ys, OKC P d t ys → ∃ x, ys = c x ∧ ok x
section
variable {P : Program} {t e : TypeId}
theorem Dec.int {k : IntKind} (h : P.underlying t = some (.int k)) : Dec P t (cI k) (okI k) := fun d ys ho => by
 cases d with
 | zero => exact ho.elim
 | succ d =>
  simp only [OKC, h] at ho;obtain ⟨m, rfl, hw⟩ := ho
  exact ⟨m, rfl, by simpa [Lit.wf, okI] using hw⟩
theorem Dec.bool (h : P.underlying t = some .bool) : Dec P t cB okB := fun d ys ho => by
 cases d with
 | zero => exact ho.elim
 | succ d =>
  simp only [OKC, h] at ho;obtain ⟨m, rfl⟩ := ho
  exact ⟨m, rfl, trivial⟩
theorem Dec.str (h : P.underlying t = some .string) : Dec P t cS okS := fun d ys ho => by
 cases d with
 | zero => exact ho.elim
 | succ d =>
  simp only [OKC, h] at ho;obtain ⟨m, rfl, hw⟩ := ho
  exact ⟨m, rfl, hw⟩
theorem Dec.sl {α : Type} {c : α → List FV} {ok : α → Prop} {b : Nat} (h : P.underlying t = some (.slice e)) (hb : P.bytesOf e = b) (he : Dec P e c ok) : Dec P t (cL c) (okL b ok) := fun d ys ho => by
 cases d with
 | zero => exact ho.elim
 | succ d =>
  simp only [OKC, h] at ho;obtain ⟨xs, rfl, hl, hx⟩ := ho
  have : ∀ xs : List (List FV), (∀ x ∈ xs, OKC P d e x) → ∃ as_ : List α, xs = as_.map c ∧ ∀ a ∈ as_, ok a := by
   intro xs
   induction xs with
   | nil => intro _; exact ⟨[], rfl, by simp⟩
   | cons x xs ih =>
    intro hx;obtain ⟨a, rfl, ha⟩ := he d x (hx x YQ)
    obtain ⟨as_, rfl, has⟩ := ih fun y hy => hx y (YN _ hy)
    exact ⟨a :: as_, rfl, fun b hb => by
     rcases List.mem_cons.1 hb with rfl | hb
     ·exact ha
     ·exact has b hb⟩
  obtain ⟨as_, rfl, has⟩ := this xs hx
  exact ⟨as_, rfl, by subst hb; simpa using hl, has⟩
theorem fld (ys : List FV) (o s : Nat) : (ys.drop o).take s ++ ys.drop (o + s) = ys.drop o := by
 rw [← List.drop_drop]; exact Yx s (ys.drop o)
theorem fld_nil {ys : List FV} {n : Nat} (h : ys.length = n) : ys.drop n = [] := List.drop_eq_nil_of_le (by omega)
end
theorem pvr_agg {P : Program} {t : TypeId} {W : World} {base : Nat} {v : Value} {s : St} {ys : List FV} {fs : Array Field} (hu : P.underlying t = some (.struct fs)) (hval : Value.okWide P W .any base t v) (hs : s.w = W) (hc : Cov W s.imm ys v.cells.toList) : PVR s (.agg (vs ys)) v := by
 unfold Value.okWide at hval
 rw [hu] at hval
 obtain ⟨cs, rfl, _, _⟩ := hval
 obtain ⟨hl, hc⟩ := hc
 subst hs
 simp only [Value.cells, Yp] at hl hc
 have each : ∀ (i : Nat) (u : Value), cs[i]? = some u → ∃ y, ys[i]? = some y ∧ FVR s.w s.imm y u := fun i u hu => by
  have hi := (Array.getElem?_eq_some_iff.1 hu).1
  exact ⟨ys[i], Y6 (by omega), hc i _ u (Y6 (by omega)) (by simpa using hu)⟩
 refine .agg (by rw [Zo]; exact hl) (fun i x hx => ?_) (fun i u hu => (each i u hu).choose_spec.2.Z2S)
 rw [vs_get, Y0] at hx
 obtain ⟨y, hy, rfl⟩ := hx
 have hi := (List.getElem?_eq_some_iff.1 hy).1
 refine .v (hc i y _ hy ?_)
 rw [Yt, YR (by omega), Y5, YR (by omega)]
 rfl
theorem pvr_one {P : Program} {t : TypeId} {W : World} {base : Nat} {v : Value} {s : St} {y : FV} (hu : (match P.underlying t with | some .bool | some (.int _) | some .string | some (.slice _) => true | _ => false) = true) (hval : Value.okWide P W .any base t v) (hs : s.w = W) (hc : Cov W s.imm [y] v.cells.toList) : PVR s (.v y) v := by
 subst hs
 have hv : v.cells.toList = [v] := by
  unfold Value.okWide Cell.okWide Cell.ok at hval
  split at hu
  all_goals (first | (rename_i h1; rw [h1] at hval) | skip)
  ·cases v <;> first | rfl | exact hval.elim
  ·cases v <;> first | rfl | exact hval.elim
  ·cases v <;> first | rfl | exact hval.elim
  ·cases v <;> first | rfl | exact hval.elim
  ·cases hu
 rw [hv] at hc
 exact .v (hc.2 0 y v rfl rfl)
end Go.Dn

namespace Go.Dn
open Go
def cloneA (t b : TypeId) : Code := .region 0 #[{ dst := some 2, op := .assign (.const (.slice none 0 0)), type := t, pos := "slices.go:355", after := #[], guard := none }] false
def cloneOps (t b : TypeId) : Array Oper := #[{ dst := some 3, op := .move (.tmp 0), type := t, pos := "slices.go:357", after := #[], guard := none },
 { dst := some 4, op := .binOp .eql t (.tmp 3) (.const (.slice none 0 0)) t, type := b, pos := "slices.go:357", after := #[{ on := 0, ground := .data }], guard := none }]
def cloneC (t : TypeId) : Code := .cond (.tmp 4) ((Code.region 2 #[{ dst := some 2, op := .assign (.const (.slice none 0 0)), type := t, pos := "slices.go:358", after := #[], guard := none }] false).seq .ret) .skip
def cloneD (t : TypeId) : Code := (Code.region 3
 #[{ dst := some 5, op := .buildSlice t 0 #[], type := t, pos := "slices.go:362", after := #[], guard := none },
  { dst := some 6, op := .move (.tmp 0), type := t, pos := "slices.go:362", after := #[], guard := none },
  { dst := some 7, op := .call { callee := .builtin .append, args := #[.tmp 5, .tmp 6], argTypes := #[t, t] }, type := t, pos := "slices.go:362", after := #[{ on := 0, ground := .data }, { on := 1, ground := .data }], guard := none },
  { dst := some 2, op := .assign (.tmp 7), type := t, pos := "slices.go:362", after := #[{ on := 2, ground := .data }, { on := 2, ground := .chain }, { on := 0, ground := .phase }, { on := 1, ground := .phase }, { on := 2, ground := .phase }], guard := none }] false).seq .ret
def cloneBody (t b : TypeId) : Code := (cloneA t b).seq (((Code.region 1 (cloneOps t b) false).seq (cloneC t)).seq (cloneD t))
structure CloneT (P : Program) (t el : TypeId) (sz by_ : Nat) (zs : List PV) : Prop where
 ht : tslice P t = some el
 hs : tsize P el = some sz
 hb : tbytes P el = some by_
 hz : tzero P el = some zs
 hc : (sz != 0 && by_ != 0 && zs.length == sz) = true
variable {X : Ctx} {fn : FuncId} {t b el : TypeId} {sz by_ : Nat} {zs : List PV}
end Go.Dn

namespace Go.Dn
open Go
theorem Has.perm {σ : Heap} {lo hi : Nat} {L L' : List Res} (H : Has σ lo hi L) (hp : L.Perm L') : Has σ lo hi L' := by
 have mem : ∀ {A : List Res}, (∀ (k : Nat) (r : Res), A[k]? = some r → r.holds σ) ↔ ∀ r ∈ A, r.holds σ := fun {A} =>
  ⟨fun h r hr => by obtain ⟨k, hk⟩ := Y0K hr; exact h k r hk, fun h k r hk => h r (YB hk)⟩
 have pw : L.Pairwise (fun r s => ∀ id, r.owner = some id → s.owner ≠ some id) := by
  rw [Y03];intro i j hi' hj hij;exact H.sep i j _ _ (by omega) (Y6 hi') (Y6 hj)
 have pw' : L'.Pairwise (fun r s => ∀ id, r.owner = some id → s.owner ≠ some id) := (hp.pairwise_iff (fun {a b} h id h1 h2 => h id h2 h1)).1 pw
 refine ⟨mem.2 fun r hr => mem.1 H.holds r (hp.mem_iff.2 hr), fun k r hk => ?_, fun i j r s hij h1 h2 => ?_, H.le⟩
 ·obtain ⟨k', hk'⟩ := Y0K (hp.mem_iff.2 (YB hk))
  exact H.lt k' r hk'
 ·obtain ⟨hi', rfl⟩ := List.getElem?_eq_some_iff.1 h1
  obtain ⟨hj', rfl⟩ := List.getElem?_eq_some_iff.1 h2
  rw [Y03] at pw'
  rcases YZ i j with h | h
  ·exact pw' i j hi' hj' h
  ·intro id h3 h4;exact pw' j i hj' hi' (by omega) id h4 h3
def pdOf : Ex → Option Code
 | .normal => none
 | .exit t => some (.exit t)
 | .ret => some .ret
theorem Has.slCells {σ : Heap} {lo hi : Nat} {L : List Res} {k : Nat} {v : PV} {et : TypeId} {sz : Nat} {xs : List (List FV)} {lv : Bool} (H : Has σ lo hi L) (h : L[k]? = some (.sl v et sz xs lv)) : v.cells = some [v] := by
 rcases (H.holds k _ h).2 with ⟨rfl, _⟩ | ⟨id, rfl, _⟩ <;> rfl
theorem Runs.env {X : Ctx} {n : Nat} {fn : FuncId} {c : Code} {e : Env} {σ : Heap} {Q : Ex → Env → Heap → Prop} (l : List (Nat × PV)) (he : ZL e l) (h : ∀ e0, Runs X n fn c (sets e0 l) σ Q) : Runs X n fn c e σ Q := by
 obtain ⟨e0, rfl⟩ := he.ex
 exact h e0
section
variable {X : Ctx}
def YldH (X : Ctx) (id : Nat) {S T : Type} (C : S → List Res → Prop) (pvT : T → List PV) (y : S → T → Option (S × Bool)) : Prop :=
 ∀ s t s' b, y s t = some (s', b) → ∀ σ lo hi O L, C s L → Has σ lo hi (O ++ L) → ∃ σ' L', Zr X (.yld id) (pvT t) σ = some (.v (.bool b), σ') ∧ C s' L' ∧ Hs σ' (O ++ L')
def ItF (X : Ctx) (f : FuncId) (args : List PV) {S : Type} (C : S → List Res → Prop) (s s' : S) : Prop :=
 ∀ σ L, C s L → Hs σ L → ∃ σ' L', Zr X (.fn f) args σ = some (.tup [], σ') ∧ C s' L' ∧ Hs σ' L'
structure EndsI {S : Type} (C : S → List Res → Prop) (s : S) (x : Ex) (e : Env) (σ : Heap) : Prop where
 out : (x = .normal ∨ x = .ret) ∧ ∃ L, C s L ∧ Hs σ L
theorem EndsI.H {S : Type} {C : S → List Res → Prop} {s : S} {x : Ex} {e : Env} {σ : Heap} {lo hi : Nat} {L L0 : List Res} (hx : x = .normal ∨ x = .ret) (H : Has σ lo hi L) (k : Nat) (hk : L.drop k = L0) (hC : C s L0) : EndsI C s x e σ :=
 ⟨hx, L0, hC, (hk ▸ H.drop k : Has σ lo hi L0).all⟩
theorem ItF.of {f : FuncId} {args : List PV} {S : Type} {C : S → List Res → Prop} {s s' : S} {fu : Func} {c : Code} {m : Nat} (hf : X.P.funcs[f]? = some fu) (hb : fu.body = some c) (hr : fu.results = #[]) (hi : X.intr f args = none) (hk : X.keep f = false) (ho : X.opn f = false) (hs : args.all PV.still = true)
  (hp : args.all PV.pure = false) (hm : max fu.ntmps args.length = m) (h : ∀ σ L, C s L → Hs σ L → Runs X m f c (Z2j args) σ (EndsI C s')) : ItF X f args C s s' := by
 subst hm
 intro σ L hC H
 obtain ⟨lf, x, e', σ1, h1, hE⟩ := (h σ L hC H).run
 obtain ⟨hx, L', hC', H'⟩ := hE.out
 refine ⟨σ1, L', Z1D (lf := lf) ?_, hC', H'⟩
 have hbody : Z0L X (Zr X) lf f args σ = some (.tup [], σ1) := by
  simp only [Z0L, hf, hb, h1]
  rcases hx with rfl | rfl <;> simp [hr, Zh, Z0K]
 simp only [Z2O, hi, hk, YA, if_false, Z2W hs, ho, hp, hbody, Y1]
 rfl
section
variable {n : Nat} {dr : Bool} {fn : FuncId} {ops : Array Oper} {base i : Nat} {l : List Oper} {e : Env} {σ : Heap} {K : Env → Heap → Prop} {Q : Ex → Env → Heap → Prop}
variable {d : Nat} {t : TypeId} {p : String} {af : Array Edge} {x : Operand} {lo hi : Nat} {L : List Res}
end
def RangeC (id : Nat) (fn : FuncId) (e : Env) (n : Nat) (ps : List Nat) (as_ bo : Code) {S : Type} (Co : S → List Res → Prop) (pd : Nat → Option Code) : S × Nat → List Res → Prop :=
 fun s L => ∃ M, Co s.1 M ∧ L = .loop id fn e n ps as_ bo (if s.2 = 0 then .ready else .done) (pd s.2) :: M
variable {n : Nat} {fn : FuncId} {e : Env} {σ : Heap} {Q : Ex → Env → Heap → Prop}
def BodyOK (X : Ctx) (n : Nat) (fn : FuncId) (e : Env) (ps : List Nat) (as_ bo : Code) {S T : Type} (Co : S → List Res → Prop) (pvT : T → List PV) (yb : S → T → Option (S × Nat)) (pd : Nat → Option Code) : Prop :=
 ∀ (R0 R1 : Res) s t s' p, yb s t = some (s', p) → ∀ σ M O, Co s M → Hs σ (R0 :: (M ++ O)) →
  Runs X n fn as_ (Z1i e n ps (pvT t)) σ fun x e1 σ1 => x = .normal ∧ ∃ M1, Hs σ1 (R0 :: (M1 ++ O)) ∧
   ∀ σ2, Hs σ2 (R1 :: (M1 ++ O)) → Runs X n fn bo e1 σ2 fun x e2 σ3 => (pdOf x = pd p ∧ (x = .normal ↔ p = 0)) ∧ ∃ M2, Co s' M2 ∧ Hs σ3 (R1 :: (M2 ++ O))
theorem callO_of {f : FuncId} {args : List PV} {fu : Func} {c : Code} {m : Nat} {σ : Heap} {Post : PV → Heap → Prop} (hf : X.P.funcs[f]? = some fu) (hb : fu.body = some c) (hi : X.intr f args = none) (hk : X.keep f = false) (ho : X.opn f = true) (hp : args.all PV.pure = true) (hm : max fu.ntmps args.length = m)
  (h : Runs X m f c (Z2j args) σ fun x e σ' => (x = .normal ∨ x = .ret) ∧ ∃ xs, Zh X.P e σ' fu.results.toList = some xs ∧ Post (Z0K xs) σ') : ∃ r σ', Zr X (.fn f) args σ = some (r, σ') ∧ Post r σ' := by
 subst hm
 obtain ⟨lf, x, e', σ1, h1, hx, xs, h2, h3⟩ := h.run
 refine ⟨Z0K xs, σ1, Z1D (lf := lf) ?_, h3⟩
 have hbody : Z0L X (Zr X) lf f args σ = some (Z0K xs, σ1) := by
  simp only [Z0L, hf, hb, h1]
  rcases hx with rfl | rfl <;> simp only [h2, Y7]
 simp only [Z2O, hi, hk, YA, if_false, Z0t hp, ho, if_true, hbody]
end
end Go.Dn

namespace Go.Dn
open Go
theorem Has.pickT {σ : Heap} {lo hi : Nat} {T : List Res} (A : List Res) (ks : List Nat) (hn : ks.Nodup) (hk : ks.all (Nat.blt · A.length) = true) (H : Has σ lo hi (A ++ T)) : Has σ lo hi (Dn.pick A ks ++ T) := by
 have hk' : ∀ k ∈ ks, k < A.length := fun k h => by
  have := List.all_eq_true.1 hk k h
  exact Yk this
 have h := H.pick (ks ++ (List.range T.length).map (A.length + ·)) (by
  refine List.nodup_append.2 ⟨hn, ?_, ?_⟩
  ·exact List.Pairwise.map _ (fun a b hab => by omega) List.nodup_range
  ·intro a ha b hb;obtain ⟨j, _, rfl⟩ := List.mem_map.1 hb
   have := hk' a ha
   omega)
 have fc : ∀ (f g : Nat → Option Res) (l : List Nat), (∀ k ∈ l, f k = g k) → l.filterMap f = l.filterMap g := by
  intro f g l
  induction l with
  | nil => intro _; rfl
  | cons k l ih =>
   intro h;rw [List.filterMap_cons, List.filterMap_cons, h k YQ, ih fun k hk => h k (YN _ hk)]
 have fr : ∀ (T : List Res), List.filterMap (fun j => T[j]?) (List.range T.length) = T := by
  intro T
  induction T with
  | nil => rfl
  | cons r T ih =>
   rw [Yf, List.range_succ_eq_map, List.filterMap_cons, List.filterMap_map];simp only [List.getElem?_cons_zero]
   congr 1
 have e : Dn.pick (A ++ T) (ks ++ (List.range T.length).map (A.length + ·)) = Dn.pick A ks ++ T := by
  unfold Dn.pick;rw [List.filterMap_append]
  congr 1
  ·exact fc _ _ _ fun k hm => YO (hk' k hm)
  ·rw [List.filterMap_map];refine Eq.trans (fc _ _ _ fun j _ => ?_) (fr T)
   simp [Function.comp, YL]
 rw [← e]; exact h
theorem Has.mem {σ : Heap} {lo hi : Nat} {L : List Res} (H : Has σ lo hi L) : ∀ r ∈ L, r.holds σ ∧ ∀ id, r.owner = some id → (id < lo ∨ hi ≤ id) ∧ id < σ.nx := fun r hr => by
 obtain ⟨k, hk⟩ := Y0K hr
 exact ⟨H.holds k r hk, H.lt k r hk⟩
abbrev Apart (r s : Res) : Prop := ∀ id, r.owner = some id → s.owner ≠ some id
theorem Has.pw {σ : Heap} {lo hi : Nat} {L : List Res} (H : Has σ lo hi L) : L.Pairwise Apart := by
 rw [Y03]
 intro i j hi' hj hij
 exact H.sep i j _ _ (by omega) (Y6 hi') (Y6 hj)
theorem Has.mk' {σ : Heap} {lo hi : Nat} {L : List Res} (hm : ∀ r ∈ L, r.holds σ ∧ ∀ id, r.owner = some id → (id < lo ∨ hi ≤ id) ∧ id < σ.nx) (hp : L.Pairwise Apart) (hle : hi ≤ σ.nx) : Has σ lo hi L := by
 refine ⟨fun k r hk => (hm r (YB hk)).1, fun k r hk => (hm r (YB hk)).2, fun i j r s hij h1 h2 => ?_, hle⟩
 obtain ⟨hi', rfl⟩ := List.getElem?_eq_some_iff.1 h1
 obtain ⟨hj', rfl⟩ := List.getElem?_eq_some_iff.1 h2
 rw [Y03] at hp
 rcases YZ i j with h | h
 ·exact hp i j hi' hj' h
 ·intro id h3 h4;exact hp j i hj' hi' (by omega) id h4 h3
def holes (lo hi : Nat) : List Res := .floor hi :: (List.range (hi - lo)).map fun j => .hole (lo + j)
theorem mem_holes {lo hi : Nat} {r : Res} (h : r ∈ holes lo hi) : r = .floor hi ∨ ∃ id, r = .hole id ∧ lo ≤ id ∧ id < hi := by
 rcases List.mem_cons.1 h with h | h
 ·exact .inl h
 ·obtain ⟨j, hj, rfl⟩ := List.mem_map.1 h
  have := List.mem_range.1 hj
  exact .inr ⟨_, rfl, by omega, by omega⟩
theorem Has.holesIn {σ : Heap} {lo hi : Nat} {L : List Res} (H : Has σ lo hi L) : Hs σ (L ++ holes lo hi) := by
 refine Has.mk' (fun r hr => ?_) ?_ (Y9 _)
 ·rcases List.mem_append.1 hr with h | h
  ·exact ⟨(H.mem r h).1, fun id ho => ⟨.inl ((H.mem r h).2 id ho).2, ((H.mem r h).2 id ho).2⟩⟩
  ·rcases mem_holes h with rfl | ⟨id, rfl, h1, h2⟩
   ·exact ⟨H.le, fun id ho => by cases ho⟩
   ·refine ⟨trivial, fun id' ho => ?_⟩
    cases ho;have := H.le
    exact ⟨.inl (by omega), by omega⟩
 ·refine List.pairwise_append.2 ⟨H.pw, ?_, ?_⟩
  ·refine List.pairwise_cons.2 ⟨fun r _ id ho => (by cases ho), ?_⟩
   refine List.Pairwise.map _ ?_ List.nodup_range;intro a b hab id h1 h2;have h1 : lo + a = id := Option.some.inj h1
   have h2 : lo + b = id := Option.some.inj h2
   omega
  ·intro r hr s hs id h1 h2;have := ((H.mem r hr).2 id h1).1
   rcases mem_holes hs with rfl | ⟨id', rfl, h3, h4⟩
   ·cases h2
   ·cases h2; omega
theorem Has.holesOut {σ : Heap} {lo hi : Nat} {A L : List Res} (H : Hs σ (A ++ (L ++ holes lo hi))) : Has σ lo hi (A ++ L) := by
 rw [← Yn] at H
 have hp := List.pairwise_append.1 H.pw
 refine Has.mk' (fun r hr => ?_) hp.1 ?_
 ·have h1 := H.mem r (Yy _ hr)
  refine ⟨h1.1, fun id ho => ⟨?_, (h1.2 id ho).2⟩⟩
  rcases YZ id lo with h | h
  ·exact .inl h
  ·rcases YZ id hi with h' | h'
   ·exact absurd rfl (hp.2.2 r hr (.hole id) (YN _ (List.mem_map.2 ⟨id - lo, List.mem_range.2 (by omega), by congr 1; omega⟩)) id ho)
   ·exact .inr h'
 ·exact (H.mem (.floor hi) (Yv _ YQ)).1
section
variable {X : Ctx} {f : FuncId} {fu : Func} {c : Code} {m : Nat} {σ : Heap} {cv : PV} {ys args : List PV} {L : List Res} {PostA : PV → List Res → Prop}
def CallI (X : Ctx) (cv : PV) (ys : List PV) (σ : Heap) (T : List Res) (PostA : PV → List Res → Prop) : Prop := ∃ r σ' A, callV X cv ys σ = some (r, σ') ∧ PostA r A ∧ Hs σ' (A ++ T)
theorem callI_of (hf : X.P.funcs[f]? = some fu) (hb : fu.body = some c) (hcv : ∀ σ, callV X cv ys σ = Zr X (.fn f) args σ) (hi : X.intr f args = none) (hk : X.keep f = true) (ho : X.opn f = true) (hm : max fu.ntmps args.length = m) {T : List Res}
  (h : Runs X m f c (Z2j args) σ fun x e σ' => (x = .normal ∨ x = .ret) ∧ ∃ xs, Zh X.P e σ' fu.results.toList = some xs ∧ ∃ A, PostA (Z0K xs) A ∧ Hs σ' (A ++ T)) : CallI X cv ys σ T PostA := by
 subst hm
 obtain ⟨lf, x, e', σ1, h1, hx, xs, h2, A, h3, h4⟩ := h.run
 refine ⟨Z0K xs, σ1, A, ?_, h3, h4⟩
 rw [hcv]
 refine Z1D (lf := lf) ?_
 have hbody : Z0L X (Zr X) lf f args σ = some (Z0K xs, σ1) := by
  simp only [Z0L, hf, hb, h1]
  rcases hx with rfl | rfl <;> simp only [h2, Y7]
 simp only [Z2O, hi, hk, if_true, ho, hbody]
theorem callIO_of (hf : X.P.funcs[f]? = some fu) (hb : fu.body = some c) (hcv : ∀ σ, callV X cv ys σ = Zr X (.fn f) args σ) (hi : X.intr f args = none) (hk : X.keep f = false) (ho : X.opn f = true) (hp : args.all PV.pure = true) (hm : max fu.ntmps args.length = m) {T : List Res}
  (h : Runs X m f c (Z2j args) σ fun x e σ' => (x = .normal ∨ x = .ret) ∧ ∃ xs, Zh X.P e σ' fu.results.toList = some xs ∧ ∃ A, PostA (Z0K xs) A ∧ Hs σ' (A ++ T)) : CallI X cv ys σ T PostA := by
 obtain ⟨r, σ', h1, A, h2, h3⟩ := callO_of (Post := fun r σ' => ∃ A, PostA r A ∧ Hs σ' (A ++ T)) hf hb hi hk ho hp hm h
 exact ⟨r, σ', A, by rw [hcv]; exact h1, h2, h3⟩
end
section
variable {X : Ctx} {n : Nat} {dr : Bool} {fn : FuncId} {ops : Array Oper} {base i : Nat} {l : List Oper} {e : Env} {σ : Heap} {K : Env → Heap → Prop}
variable {d : Nat} {t t1 : TypeId} {p : String} {af : Array Edge} {x : Operand} {lo hi : Nat} {L : List Res}
theorem callV_step {cv : PV} {args : List PV} {r : PV} {σ' : Heap} {c : Call} {id0 : Nat} (hc : c.callee = .value x) (hx : Z0 X e x = some cv) (ha : ZG X e c.args.toList = some args) (h : Dn.callV X cv args σ = some (r, σ')) : ZW X (Zr X) e σ id0 c = some (r, σ') := by
 simp only [ZW, ha, hc, hx]
 unfold Dn.callV at h
 split at h
 ·exact h
 ·exact h
 ·cases h
theorem Sub.more {C L M : List Res} (h : Sub C L) : Sub C (L ++ M) := by
 induction h with
 | nil => exact .nil
 | cons k h t ih =>
  refine .cons k ?_ ih;rw [YO (List.getElem?_eq_some_iff.1 h).1, h]
theorem Z5Z {cv : PV} {ys : List PV} {PostA : PV → List Res → Prop} (A : List Res) (H : Has σ lo hi (A ++ L)) (hf : ∀ T, (∀ C, Sub C L → Sub C T) → Hs σ (A ++ T) → CallI X cv ys σ T PostA) :
  ∃ r σ' A', Dn.callV X cv ys σ = some (r, σ') ∧ PostA r A' ∧ Has σ' lo hi (A' ++ L) := by
 have hsub : ∀ C, Sub C L → Sub C (L ++ holes lo hi) := fun C h => h.more
 have H1 := H.holesIn
 rw [Yn] at H1
 obtain ⟨r, σ', A', h1, h2, h3⟩ := hf (L ++ holes lo hi) hsub H1
 exact ⟨r, σ', A', h1, h2, h3.holesOut⟩
theorem Ops.callI {cv : PV} {args : Array Operand} {ts : Array TypeId} {ys : List PV} {PostA : PV → List Res → Prop} (A : List Res) (H : Has σ lo hi (A ++ L)) (hx : Z0 X e x = some cv) (ha : ZG X e args.toList = some ys) (hf : ∀ T, (∀ C, Sub C L → Sub C T) → Hs σ (A ++ T) → CallI X cv ys σ T PostA) (hdr : dr = true → Z1L (Region.before ops) ops i = true) (hd : Nat.blt d n = true)
  (hk : ∀ r A' σ', PostA r A' → Has σ' lo hi (A' ++ L) → Ops X n dr ops base (i + 1) l (set e d r) σ' K) :
  Ops X n dr ops base i (⟨some d, .call { callee := .value x, args := args, argTypes := ts }, t, p, af, none⟩ :: l) e σ K := by
 obtain ⟨r, σ', A', q1, q2, q3⟩ := Z5Z A H hf
 exact .plain (x := r) (σ1 := σ') (by simp only [Z3]; exact callV_step rfl hx ha q1) (fun h => Z4M (hdr h)) hd (hk r A' σ' q2 q3)
def FnO (X : Ctx) (f : FuncId) (args : List PV) (PostA : PV → List Res → Prop) : Prop := ∀ σ T, Hs σ T → CallI X (.v (.fn f)) args σ T PostA
theorem FnO.of {f : FuncId} {fu : Func} {c : Code} {m : Nat} {args : List PV} {PostA : PV → List Res → Prop} (hf : X.P.funcs[f]? = some fu) (hb : fu.body = some c) (hi : X.intr f args = none) (hk : X.keep f = false) (ho : X.opn f = true) (hp : args.all PV.pure = true) (hm : max fu.ntmps args.length = m)
  (h : ∀ σ T, Hs σ T → Runs X m f c (Z2j args) σ fun x e σ' => (x = .normal ∨ x = .ret) ∧ ∃ xs, Zh X.P e σ' fu.results.toList = some xs ∧ ∃ A, PostA (Z0K xs) A ∧ Hs σ' (A ++ T)) : FnO X f args PostA :=
 fun σ T H => callIO_of hf hb (fun _ => rfl) hi hk ho hp hm (h σ T H)
theorem Ops.callFO {f : FuncId} {args : Array Operand} {ts : Array TypeId} {ys : List PV} {PostA : PV → List Res → Prop} (H : Has σ lo hi L) (ha : ZG X e args.toList = some ys) (hf : FnO X f ys PostA) (hdr : dr = true → Z1L (Region.before ops) ops i = true) (hd : Nat.blt d n = true)
  (hk : ∀ r A' σ', PostA r A' → Has σ' lo hi (A' ++ L) → Ops X n dr ops base (i + 1) l (set e d r) σ' K) :
  Ops X n dr ops base i (⟨some d, .call { callee := .value (.func f), args := args, argTypes := ts }, t, p, af, none⟩ :: l) e σ K :=
 Ops.callI [] H rfl ha (fun T _ H => hf σ T H) hdr hd hk
inductive ExpP : List Res → List (Nat × PV) → List (Nat × PV) → List Res → Prop
 | nil {L : List Res} : ExpP L [] [] L
 | keep {L L' : List Res} {j : Nat} {x : PV} {ps qs : List (Nat × PV)} (h : needF x = false) (t : ExpP L ps qs L') : ExpP L ((j, x) :: ps) ((j, x) :: qs) L'
 | exp {L L1 L2 : List Res} {j : Nat} {x y : PV} {ps qs : List (Nat × PV)} (h : ExpV L x y L1) (t : ExpP L1 ps qs L2) : ExpP L ((j, x) :: ps) ((j, y) :: qs) L2
def FrzOK (ops : Array Oper) (base i : Nat) (pp : List (Nat × PV)) : Prop :=
 Z1L (Region.before ops) ops i = true ∨ ∃ ms : List Nat, (pp.flatMap fun p => Z2s p.2) = ms.map (base + ·) ∧
  (ms.all fun m => Nat.blt m ops.size && ((Region.before ops).getD i 0).testBit m && (List.range ops.size).all fun j => !(unord (Region.before ops) i j && ((Region.before ops).getD j 0).testBit m)) = true
end
end Go.Dn

namespace Go.Dn
open Go
section
variable {X : Ctx} {n : Nat} {fn : FuncId} {ops : Array Oper} {base i : Nat} {l : List Oper} {e : Env} {σ : Heap} {K : Env → Heap → Prop}
variable {d : Nat} {t t1 : TypeId} {p : String} {af : Array Edge} {x y z : Operand} {lo hi k : Nat} {L : List Res}
end
theorem Ops.nila {X : Ctx} {n : Nat} {dr : Bool} {ops : Array Oper} {base i : Nat} {e : Env} {σ : Heap} {K : Env → Heap → Prop} {lo hi : Nat} {L : List Res} (H : Has σ lo hi L) (h : Hs σ L → K e σ) : Ops X n dr ops base i [] e σ K := .nil (h H.all)
theorem callO_exp {X : Ctx} {f : FuncId} {args ys : List PV} {r : PV} {σ σ' σ2 : Heap} (hk : X.keep f = false) (ho : X.opn f = true) (hi0 : X.intr f args = none) (hi1 : X.intr f ys = none) (he : Zy σ args = some (ys, σ')) (hp : ys.all PV.pure = true) (h : Zr X (.fn f) ys σ' = some (r, σ2)) : Zr X (.fn f) args σ = some (r, σ2) := by
 obtain ⟨k, hk'⟩ := Z1K.1 h
 refine Z1K.2 ⟨k, ?_⟩
 cases k with
 | zero => simp [Zw] at hk'
 | succ k =>
  simp only [Zw, hi1, hk, YA, if_false, Z0t hp, ho, if_true] at hk';simp only [Zw, hi0, hk, YA, if_false, he, ho, if_true];exact hk'
theorem Ops.callFOX {X : Ctx} {n : Nat} {dr : Bool} {ops : Array Oper} {base i : Nat} {l : List Oper} {e : Env} {σ : Heap} {K : Env → Heap → Prop} {d : Nat} {t : TypeId} {p : String} {af : Array Edge} {lo hi : Nat} {L : List Res}
  {f : FuncId} {args : Array Operand} {ts : Array TypeId} {xs ys : List PV} {PostA : PV → List Res → Prop} {L' : List Res} (H : Has σ lo hi L) (ha : ZG X e args.toList = some xs) (hE : ExpVs L xs ys L') (hf : FnO X f ys PostA) (hk0 : X.keep f = false) (ho : X.opn f = true) (hi0 : X.intr f xs = none) (hi1 : X.intr f ys = none) (hdr : dr = true → Z1L (Region.before ops) ops i = true) (hd : Nat.blt d n = true)
  (hk : ∀ r A' σ', PostA r A' → Has σ' lo hi (A' ++ L') → Ops X n dr ops base (i + 1) l (set e d r) σ' K) :
  Ops X n dr ops base i (⟨some d, .call { callee := .value (.func f), args := args, argTypes := ts }, t, p, af, none⟩ :: l) e σ K := by
 obtain ⟨σ', _, q1, q2, _, q3⟩ := Z4W H hE
 obtain ⟨r, σ2, A', p1, p2, p3⟩ := Z5Z (X := X) (cv := .v (.fn f)) (ys := ys) (PostA := PostA) [] q2 (fun T _ H => hf σ' T H)
 refine .plain (x := r) (σ1 := σ2) ?_ (fun h => Z4M (hdr h)) hd (hk r A' σ2 p2 p3)
 simp only [Z3, ZW, ha, Z0]
 exact callO_exp hk0 ho hi0 hi1 q1 q3 p1
section
variable {X : Ctx} {n : Nat} {dr : Bool} {ops : Array Oper} {base i : Nat} {l : List Oper} {e : Env} {σ : Heap} {K : Env → Heap → Prop}
variable {d : Nat} {t t1 : TypeId} {p : String} {af : Array Edge} {x y z : Operand} {lo hi k : Nat} {L : List Res}
end
end Go.Dn

namespace Go.Dn
open Go
def Res.solid : Res → Bool
 | .hole _ => false
 | _ => true
def star (σ : Heap) : Res → Res
 | .hole id => .fix id (σ.ent id)
 | r => r
theorem Z5f {σ : Heap} {r : Res} : (star σ r).owner = r.owner := by cases r <;> rfl
theorem star_holds {σ : Heap} {r : Res} (h : r.holds σ) : (star σ r).holds σ := by cases r <;> first | exact h | exact rfl
theorem solid_star {σ : Heap} {r : Res} (h : r.solid = true) : star σ r = r := by cases r <;> first | rfl | cases h
section
variable {σ : Heap} {lo hi : Nat} {L C : List Res}
theorem Has.star (H : Has σ lo hi L) : Has σ σ.nx σ.nx (L.map (star σ)) := by
 refine ⟨fun k r h => ?_, fun k r h id ho => ?_, fun j k r s hjk h1 h2 id ho => ?_, Y9 _⟩
 ·rw [YH, Y0] at h;obtain ⟨q, hq, rfl⟩ := h
  exact star_holds (H.holds k q hq)
 ·rw [YH, Y0] at h;obtain ⟨q, hq, rfl⟩ := h
  rw [Z5f] at ho;have := (H.lt k q hq id ho).2
  exact ⟨.inl this, this⟩
 ·rw [YH, Y0] at h1 h2;obtain ⟨q, hq, rfl⟩ := h1
  obtain ⟨q', hq', rfl⟩ := h2
  rw [Z5f] at ho ⊢;exact H.sep j k q q' hjk hq hq' id ho
theorem Has.add (H : Has σ σ.nx σ.nx L) {id : Nat} (hl : id < σ.nx) (hn : ∀ r ∈ L, r.owner ≠ some id) : Has σ σ.nx σ.nx (.fix id (σ.ent id) :: L) := by
 refine ⟨fun j s h => ?_, fun j s h id' ho2 => ?_, fun i j s t hij h1 h2 id' hs => ?_, H.le⟩
 ·cases j with
  | zero => cases h; exact rfl
  | succ j => exact H.holds j s h
 ·cases j with
  | zero => cases h; cases ho2; exact ⟨.inl hl, hl⟩
  | succ j => exact H.lt j s h id' ho2
 ·cases i with
  | zero =>
   cases h1;cases hs;cases j with
   | zero => exact absurd rfl hij
   | succ j => exact hn t (YB h2)
  | succ i =>
   cases j with
   | zero =>
    cases h2;intro e;cases e;exact hn s (YB h1) hs
   | succ j => exact H.sep i j s t (fun e => hij (by rw [e])) h1 h2 id' hs
def fixL (σ : Heap) (L : List Res) : Nat → List Res
 | 0 => L.map (star σ)
 | k + 1 => if (fixL σ L k).any (fun r => r.owner == some k) then fixL σ L k else .fix k (σ.ent k) :: fixL σ L k
theorem Sub.star {C L : List Res} (h : Sub C L) : C.all Res.solid = true → Sub C (L.map (star σ)) := by
 induction h with
 | nil => intro _; exact .nil
 | cons k h t ih =>
  intro hs;simp only [Ye, Y8] at hs;exact .cons k (by rw [YH, h, Y7, solid_star hs.1]) (ih hs.2)
end
section
variable {X : Ctx} {n : Nat} {dr : Bool} {fn : FuncId} {ops : Array Oper} {base i : Nat} {l : List Oper} {e : Env} {σ : Heap} {K : Env → Heap → Prop}
variable {d : Nat} {t : TypeId} {p : String} {af : Array Edge} {x : Operand} {lo hi : Nat} {L C : List Res}
end
inductive FzC (L : List Res) : PV → FV → Prop
 | v (y : FV) : FzC L (.v y) y
 | n : FzC L .nils (.sl [])
 | ro {v : PV} {xs : List (List FV)} (h : RO v xs) : FzC L v (.sl xs)
 | s {v : PV} {et : TypeId} {sz : Nat} {xs : List (List FV)} (k : Nat) (h : L[k]? = some (.sl v et sz xs false)) : FzC L v (.sl xs)
inductive FzCs (L : List Res) : List PV → List FV → Prop
 | nil : FzCs L [] []
 | cons {x : PV} {y : FV} {xs : List PV} {ys : List FV} (h : FzC L x y) (t : FzCs L xs ys) : FzCs L (x :: xs) (y :: ys)
inductive FzV (L : List Res) : PV → PV → Prop
 | c {x : PV} {y : FV} (h : FzC L x y) : FzV L x (.v y)
 | a {xs : List PV} {ys : List FV} (h : FzCs L xs ys) : FzV L (.agg xs) (.agg (vs ys))
 | p {x : PV} (h : x.pure = true) : FzV L x x
inductive FzVs (L : List Res) : List PV → List PV → Prop
 | nil : FzVs L [] []
 | cons {x y : PV} {xs ys : List PV} (h : FzV L x y) (t : FzVs L xs ys) : FzVs L (x :: xs) (y :: ys)
section
variable {σ : Heap} {lo hi : Nat} {L : List Res}
end
def PV.one : PV → Bool
 | .v _ => true
 | .fptr _ => true
 | .ptr _ _ _ => true
 | .clo _ _ _ => true
 | .yld _ => true
 | _ => false
theorem Z3V {x : PV} (h : x.one = true) : x.still = true := by cases x <;> first | rfl | cases h
end Go.Dn

namespace Go.Dn
open Go
def cF (n : Nat) : List FV := [.fn n]
def tailsOK (ops : Array Oper) : Nat → List Oper → Bool
 | _, [] => true
 | k, o :: l => (o.after.all fun e => !Region.binds .any e || decide (e.on < k)) && (l.all fun oj => oj.after.any (fun e => Region.binds .any e && e.on == k) || o.apart ops oj) && tailsOK ops (k + 1) l
section
variable {X : Ctx} {n : Nat} {dr : Bool} {ops : Array Oper} {base i : Nat} {l : List Oper} {e : Env} {σ : Heap} {K : Env → Heap → Prop}
variable {d : Nat} {t t1 : TypeId} {p : String} {af : Array Edge} {x y : Operand} {lo hi : Nat} {L : List Res}
end
end Go.Dn

namespace Go.Dn
open Go
theorem p2 {A B : Type} {a a' : A} {b b' : B} (h : (a, b) = (a', b')) : a = a' ∧ b = b' := by cases h; exact ⟨rfl, rfl⟩
theorem p3 {A B C : Type} {a a' : A} {b b' : B} {c c' : C} (h : (a, b, c) = (a', b', c')) : a = a' ∧ b = b' ∧ c = c' := by cases h; exact ⟨rfl, rfl, rfl⟩
theorem p4 {A B C D : Type} {a a' : A} {b b' : B} {c c' : C} {d d' : D} (h : (a, b, c, d) = (a', b', c', d')) : a = a' ∧ b = b' ∧ c = c' ∧ d = d' := by cases h; exact ⟨rfl, rfl, rfl, rfl⟩
theorem p5 {A B C D E : Type} {a a' : A} {b b' : B} {c c' : C} {d d' : D} {e e' : E} (h : (a, b, c, d, e) = (a', b', c', d', e')) : a = a' ∧ b = b' ∧ c = c' ∧ d = d' ∧ e = e' := by cases h; exact ⟨rfl, rfl, rfl, rfl, rfl⟩
def gOK (ops : Array Oper) (e : Env) : Option (Nat × Bool) → Bool
 | none => true
 | some (j, w) => match (ops[j]?).bind (·.dst) with
  | some d => match e d with
   | .v (.bool b) => b == w
   | _ => false
  | none => false
def skipN (ops : Array Oper) (n : Nat) : Nat → List Oper → Env → Option (List Oper × Env)
 | 0, l, e => some (l, e)
 | k + 1, [], e => none
 | k + 1, o :: l, e => match o.guard with
  | some (j, w) => match (ops[j]?).bind (·.dst) with
   | some g => match e g with
    | .v (.bool b) => bif b == w then none else match o.dst with
     | some d => bif Nat.blt d n then skipN ops n k l (set e d .undef) else none
     | none => skipN ops n k l e
    | .undef => match o.dst with
     | some d => bif Nat.blt d n then skipN ops n k l (set e d .undef) else none
     | none => skipN ops n k l e
    | _ => none
   | none => none
  | none => none
theorem EI {e : Env} : ∀ {L : List (Nat × PV)}, (L.map fun p => e p.1) = L.map (·.2) → ZL e L
 | [], _ => trivial
 | (k, v) :: L, h => by
  have h1 := List.cons.inj h
  exact ⟨h1.1, EI h1.2⟩
section
variable {X : Ctx} {n : Nat} {dr : Bool} {fn : FuncId} {ops : Array Oper} {base i : Nat} {l : List Oper} {e : Env} {σ : Heap} {K : Env → Heap → Prop} {Q : Ex → Env → Heap → Prop} {c a b : Code}
variable {d : Nat} {t t1 t2 : TypeId} {p : String} {af : Array Edge} {x y : Operand} {v : PV} {lo hi : Nat} {L : List Res} {g : Option (Nat × Bool)} {dst : Option Tmp} {op : Op}
theorem Ops.gd (hg : gOK ops e g = true) (hk : Ops X n dr ops base i (⟨dst, op, t, p, af, none⟩ :: l) e σ K) : Ops X n dr ops base i (⟨dst, op, t, p, af, g⟩ :: l) e σ K := by
 cases g with
 | none => exact hk
 | some q =>
  obtain ⟨j, w⟩ := q
  simp only [gOK] at hg
  split at hg
  ·rename_i d hd
   split at hg
   ·rename_i b hb;have : b = w := by simpa using hg
    subst this;exact .wanted hd hb hk
   ·cases hg
  ·cases hg
theorem Ops.ps {l' : List Oper} {e' : Env} : ∀ (k : Nat) {i : Nat} {l : List Oper} {e : Env}, skipN ops n k l e = some (l', e') → Ops X n dr ops base (i + k) l' e' σ K → Ops X n dr ops base i l e σ K
 | 0, i, l, e, h, hk => by cases h; exact hk
 | k + 1, i, [], e, h, hk => by cases h
 | k + 1, i, ⟨dst, op, t, p, af, none⟩ :: l, e, h, hk => by cases h
 | k + 1, i, ⟨dst, op, t, p, af, some (j, w)⟩ :: l, e, h, hk => by
  rw [show i + (k + 1) = i + 1 + k by omega] at hk
  simp only [skipN] at h
  split at h
  ·rename_i g hg
   split at h
   ·rename_i b hb;cases hw : b == w with
    | true => rw [hw] at h; cases h
    | false =>
     rw [hw] at h;have hb' : e g = .v (.bool (!w)) := by rw [hb]; cases b <;> cases w <;> first | rfl | cases hw
     simp only [cond_false] at h;cases dst with
     | some d =>
      cases hd : Nat.blt d n with
      | false => simp [hd] at h
      | true => simp only [hd, cond_true] at h; exact .pass hg hb' hd (Ops.ps k h hk)
     | none => exact .pass0 hg hb' (Ops.ps k h hk)
   ·rename_i hb;cases dst with
    | some d =>
     cases hd : Nat.blt d n with
     | false => simp [hd] at h
     | true => simp only [hd, cond_true] at h; exact .passU hg hb hd (Ops.ps k h hk)
    | none => exact .pass0U hg hb (Ops.ps k h hk)
   ·cases h
  ·cases h
theorem Ops.m1 (v : PV) (h1 : Z0 X e x = some v) (h : (Nat.blt d n, gOK ops e g) = (true, true)) (hk : Ops X n dr ops base (i + 1) l (set e d v) σ K) : Ops X n dr ops base i (⟨some d, .move x, t, p, af, g⟩ :: l) e σ K :=
 .gd (p2 h).2 (.move h1 (p2 h).1 hk)
theorem Ops.a1 (v : PV) (h1 : Z0 X e x = some v) (h : (Nat.blt d n, gOK ops e g) = (true, true)) (hk : Ops X n dr ops base (i + 1) l (set e d v) σ K) : Ops X n dr ops base i (⟨some d, .assign x, t, p, af, g⟩ :: l) e σ K :=
 .gd (p2 h).2 (.assign h1 (p2 h).1 hk)
theorem Ops.mV {u : FV} (h : (Z0 X e x, Nat.blt d n, gOK ops e g) = (some (.v u), true, true)) (hk : Ops X n dr ops base (i + 1) l (set e d (.v u)) σ K) : Ops X n dr ops base i (⟨some d, .move x, t, p, af, g⟩ :: l) e σ K := .gd (p3 h).2.2 (.move (p3 h).1 (p3 h).2.1 hk)
theorem Ops.mB {u q r : Nat} (h : (Z0 X e x, Nat.blt d n, gOK ops e g) = (some (.buf u q r), true, true)) (hk : Ops X n dr ops base (i + 1) l (set e d (.buf u q r)) σ K) : Ops X n dr ops base i (⟨some d, .move x, t, p, af, g⟩ :: l) e σ K := .gd (p3 h).2.2 (.move (p3 h).1 (p3 h).2.1 hk)
theorem Ops.aV {u : FV} (h : (Z0 X e x, Nat.blt d n, gOK ops e g) = (some (.v u), true, true)) (hk : Ops X n dr ops base (i + 1) l (set e d (.v u)) σ K) : Ops X n dr ops base i (⟨some d, .assign x, t, p, af, g⟩ :: l) e σ K := .gd (p3 h).2.2 (.assign (p3 h).1 (p3 h).2.1 hk)
theorem Ops.aB {u q r : Nat} (h : (Z0 X e x, Nat.blt d n, gOK ops e g) = (some (.buf u q r), true, true)) (hk : Ops X n dr ops base (i + 1) l (set e d (.buf u q r)) σ K) : Ops X n dr ops base i (⟨some d, .assign x, t, p, af, g⟩ :: l) e σ K := .gd (p3 h).2.2 (.assign (p3 h).1 (p3 h).2.1 hk)
theorem Ops.tV {b : Bool} (h : (Z0 X e x, Nat.blt d n, gOK ops e g) = (some (.v (.bool b)), true, true)) (hk : Ops X n dr ops base (i + 1) l (set e d (.v (.bool (!b)))) σ K) : Ops X n dr ops base i (⟨some d, .unOp .not t1 x, t, p, af, g⟩ :: l) e σ K := .gd (p3 h).2.2 (.not (p3 h).1 (p3 h).2.1 hk)
theorem Ops.iV {op : BinOp} {k : IntKind} {m m' : Int} {r : FV} (h : (Z0 X e x, Z0 X e y, Z3P op k m m', Nat.blt d n, (op != .shl && op != .shr) && gOK ops e g) = (some (.v (.int k m)), some (.v (.int k m')), some r, true, true)) (hk : Ops X n dr ops base (i + 1) l (set e d (.v r)) σ K) :
  Ops X n dr ops base i (⟨some d, .binOp op t1 x y t2, t, p, af, g⟩ :: l) e σ K := by
 obtain ⟨h1, h2, h3, h4, h5⟩ := p5 h
 rw [Y8] at h5
 exact .gd h5.2 (.int h1 h2 h5.1 h3 h4 hk)
theorem Ops.xV {vs : List PV} {j : Nat} (h : (Z0 X e x, vs[j]?, Nat.blt d n, gOK ops e g) = (some (.tup vs), some v, true, true)) (hk : Ops X n dr ops base (i + 1) l (set e d v) σ K) : Ops X n dr ops base i (⟨some d, .extract x j, t, p, af, g⟩ :: l) e σ K := by
 obtain ⟨h1, h2, h3, h4⟩ := p4 h
 exact .gd h4 (.extract h1 h2 h3 hk)
theorem Ops.kT {c : Operand} {u : FV} (h : (Z0 X e c, Z0 X e x, Nat.blt d n, gOK ops e g) = (some (.v (.bool true)), some (.v u), true, true)) (hk : Ops X n dr ops base (i + 1) l (set e d (.v u)) σ K) : Ops X n dr ops base i (⟨some d, .pick c x y, t, p, af, g⟩ :: l) e σ K := by
 obtain ⟨h1, h2, h3, h4⟩ := p4 h
 exact .gd h4 (.pickT h1 h2 h3 hk)
theorem Ops.kF {c : Operand} {u : FV} (h : (Z0 X e c, Z0 X e y, Nat.blt d n, gOK ops e g) = (some (.v (.bool false)), some (.v u), true, true)) (hk : Ops X n dr ops base (i + 1) l (set e d (.v u)) σ K) : Ops X n dr ops base i (⟨some d, .pick c x y, t, p, af, g⟩ :: l) e σ K := by
 obtain ⟨h1, h2, h3, h4⟩ := p4 h
 exact .gd h4 (.pickF h1 h2 h3 hk)
theorem Ops.bV {parts : Array (Nat × Operand)} (cs : List PV) (h : (Z4l X e t1 parts.toList, Nat.blt d n, gOK ops e g) = (some (.agg cs), true, true)) (hk : Ops X n dr ops base (i + 1) l (set e d (.agg cs)) σ K) : Ops X n dr ops base i (⟨some d, .build t1 parts, t, p, af, g⟩ :: l) e σ K :=
 .gd (p3 h).2.2 (.buildA (p3 h).1 (p3 h).2.1 hk)
theorem Ops.cV {f : FuncId} {args : Array Operand} {ts : Array TypeId} {ys : List PV} {r : PV} (hf : Fn X f ys r) (h : (ZG X e args.toList, Nat.blt d n, gOK ops e g) = (some ys, true, true)) (hk : Ops X n dr ops base (i + 1) l (set e d r) σ K) :
  Ops X n dr ops base i (⟨some d, .call { callee := .value (.func f), args := args, argTypes := ts }, t, p, af, g⟩ :: l) e σ K := .gd (p3 h).2.2 (.call (p3 h).1 hf (p3 h).2.1 hk)
theorem Ops.nV {α : Type} {c : α → List FV} {xs : List α} {el : TypeId} (h : (Z0 X e x, tslice X.P t1, Nat.blt d n, gOK ops e g) = (some (.v (.sl (xs.map c))), some el, true, true))
  (hk' : Ops X n dr ops base (i + 1) l (set e d (.v (.int .i64 xs.length))) σ K) : Ops X n dr ops base i (⟨some d, .call { callee := .builtin .len, args := #[x], argTypes := #[t1] }, t, p, af, g⟩ :: l) e σ K := by
 obtain ⟨h1, h2, h3, h4⟩ := p4 h
 exact .gd h4 (.lenPt h1 h2 h3 hk')
theorem Ops.jV {α : Type} {c : α → List FV} {xs : List α} {iv : Int} {ik : IntKind} {u : α} {m : Nat} (hu : at? xs iv = some u) (h : (Z0 X e x, Z0 X e y, (tslice X.P t1).bind (tsize X.P), (c u).length, (tslice X.P t1).isSome && Nat.blt d n && gOK ops e g) = (some (.v (.sl (xs.map c))), some (.v (.int ik iv)), some m, m, true))
  (hk' : Ops X n dr ops base (i + 1) l (set e d (.fptr (c u))) σ K) : Ops X n dr ops base i (⟨some d, .indexAddr t1 x y, t, p, af, g⟩ :: l) e σ K := by
 obtain ⟨h1, h2, h3, h4, h5⟩ := p5 h
 simp only [Y8, Option.isSome_iff_exists] at h5
 obtain ⟨⟨⟨el, he⟩, h6⟩, h7⟩ := h5
 rw [he, Y1] at h3
 exact .gd h7 (.indexP h1 h2 hu he h3 h4 h6 hk')
theorem Ops.pV {u : FV} {cells : List FV} (h : (Z0 X e x, tagg X.P t1, cells[0]?, Nat.blt d n, gOK ops e g) = (some (.fptr cells), some false, some u, true, true))
  (hk' : Ops X n dr ops base (i + 1) l (set e d (.v u)) σ K) : Ops X n dr ops base i (⟨some d, .load t1 x, t, p, af, g⟩ :: l) e σ K := by
 obtain ⟨h1, h2, h3, h4, h5⟩ := p5 h
 exact .gd h5 (.loadP h1 h2 h3 h4 hk')
theorem Ops.qV {m : Nat} {cells : List FV} (cs : List FV) (h : (Z0 X e x, tsize X.P t1, cells.take m, (tagg X.P t1 == some true) && Nat.ble m cells.length && Nat.blt d n, gOK ops e g) = (some (.fptr cells), some m, cs, true, true))
  (hk' : Ops X n dr ops base (i + 1) l (set e d (.agg (vs cs))) σ K) : Ops X n dr ops base i (⟨some d, .load t1 x, t, p, af, g⟩ :: l) e σ K := by
 obtain ⟨h1, h2, h3, h4, h5⟩ := p5 h
 simp only [Y8, beq_iff_eq] at h4
 exact .gd h5 (.loadPA h1 h4.1.1 h2 h4.1.2 h3 h4.2 hk')
theorem Ops.fV {id ver off f fo : Nat} {ft : TypeId} {m : Nat} {te : TypeId} {cells : List PV} (H : Has σ lo hi L) (k : Nat) (h : (Z0 X e x, L[k]?, tfield X.P t1 f, tsize X.P ft, Nat.beq cells.length ver && Nat.blt d n && gOK ops e g) = (some (.ptr id ver off), some (.blk id te cells), some (fo, ft), some (m + 1), true))
  (hk' : Ops X n false ops base (i + 1) l (set e d (.ptr id ver (off + fo))) σ K) : Ops X n false ops base i (⟨some d, .fieldAddr t1 x f, t, p, af, g⟩ :: l) e σ K := by
 obtain ⟨h1, h2, h3, h4, h5⟩ := p5 h
 simp only [Y8] at h5
 exact .gd h5.2 (.Z2J H k h2 (Yw h5.1.1) h1 h3 h4 nofun h5.1.2 hk')
theorem Ops.lV {id ver off : Nat} {te : TypeId} {cells : List PV} (H : Has σ lo hi L) (k : Nat) (h : (Z0 X e x, L[k]?, tagg X.P t1, cells[off]?, Nat.beq cells.length ver && Nat.blt d n && gOK ops e g) = (some (.ptr id ver off), some (.blk id te cells), some false, some v, true))
  (hk' : Ops X n false ops base (i + 1) l (set e d v) σ K) : Ops X n false ops base i (⟨some d, .load t1 x, t, p, af, g⟩ :: l) e σ K := by
 obtain ⟨h1, h2, h3, h4, h5⟩ := p5 h
 simp only [Y8] at h5
 exact .gd h5.2 (.loadH H k h2 (Yw h5.1.1) h1 h3 h4 nofun h5.1.2 hk')
theorem Ops.LV {id ver off m : Nat} {te : TypeId} {cells : List PV} (cs : List PV) (H : Has σ lo hi L) (k : Nat) (h : (Z0 X e x, L[k]?, tsize X.P t1, (cells.drop off).take m, (tagg X.P t1 == some true) && Nat.ble (off + m) cells.length && Nat.beq cells.length ver && Nat.blt d n && gOK ops e g) = (some (.ptr id ver off), some (.blk id te cells), some m, cs, true))
  (hk' : Ops X n false ops base (i + 1) l (set e d (.agg cs)) σ K) : Ops X n false ops base i (⟨some d, .load t1 x, t, p, af, g⟩ :: l) e σ K := by
 obtain ⟨h1, h2, h3, h4, h5⟩ := p5 h
 simp only [Y8, beq_iff_eq] at h5
 exact .gd h5.2 (.loadHA H k h2 (Yw h5.1.1.2) h1 h5.1.1.1.1 h3 h5.1.1.1.2 h4 nofun h5.1.2 hk')
theorem Ops.sV {id ver off : Nat} {te : TypeId} {cells ys : List PV} (cells' : List PV) (H : Has σ lo hi L) (k : Nat) (h : (Z0 X e x, L[k]?, (Z0 X e y).bind PV.cells, splice cells off ys, (tsize X.P t1 == some ys.length) && Nat.ble (off + ys.length) cells.length && Nat.beq cells.length ver && gOK ops e g) = (some (.ptr id ver off), some (.blk id te cells), some ys, cells', true))
  (hk' : ∀ σ', Has σ' lo hi (L.set k (.blk id te cells')) → Ops X n false ops base (i + 1) l e σ' K) : Ops X n false ops base i (⟨none, .store t1 x y, t, p, af, g⟩ :: l) e σ K := by
 obtain ⟨h1, h2, h3, h4, h5⟩ := p5 h
 simp only [Y8, beq_iff_eq] at h5
 rw [Y2] at h3
 obtain ⟨v, h6, h7⟩ := h3
 exact .gd h5.2 (.storeH H k h2 (Yw h5.1.2) h1 h6 h7 h5.1.1.1 rfl h5.1.1.2 h4 nofun hk')
theorem Ops.md {L0 : List Res} (H : Has σ lo hi L0) (k : Nat) (E : List (Nat × PV)) (L : List Res) (hk : Nat.ble k l.length = true) (h1 : Ops X n dr ops base i (l.take k) e σ fun e σ => ZL e E ∧ Has σ (base + (i + k)) hi L) (h2 : ∀ e σ, Has σ (base + (i + k)) hi L → Ops X n dr ops base (i + k) (l.drop k) (sets e E) σ K) : Ops X n dr ops base i l e σ K :=
 .mid k hk h1 fun e σ ⟨he, H⟩ => by rw [he.eq]; exact h2 e σ H
theorem Runs.wh {α : Type} {c : Bool} {A B z : α} {t : Operand} (h : (bif c then A else B) = z) (ht : Z0 X e t = some (.v (.bool c))) (h1 : A = z → Runs X n fn a e σ Q) (h2 : B = z → Runs X n fn b e σ Q) : Runs X n fn (.cond t a b) e σ Q :=
 .whether ht (fun hc => h1 (cond_T hc h)) fun hc => h2 (cond_F hc h)
theorem Ops.sp {α : Type} {j gt : Nat} {w v : Bool} {A B z : α} (hb : (bif v then A else B) = z) (h : ((ops[j]?).bind (·.dst), e gt) = (some gt, .v (.bool v))) (ht : A = z → Ops X n dr ops base i (⟨dst, op, t, p, af, some (j, w)⟩ :: l) (set e gt (.v (.bool true))) σ K)
  (hf : B = z → Ops X n dr ops base i (⟨dst, op, t, p, af, some (j, w)⟩ :: l) (set e gt (.v (.bool false))) σ K) : Ops X n dr ops base i (⟨dst, op, t, p, af, some (j, w)⟩ :: l) e σ K :=
 .split (p2 h).1 (p2 h).2 (fun hc => ht (cond_T hc hb)) fun hc => hf (cond_F hc hb)
theorem Runs.lp {S R β : Type} {step : S → Option (S ⊕ R)} {s : S} {G : R → Option β} {z : β} (h : (Dn.loopO step s).bind G = some z) (E : S → List (Nat × PV)) (L : S → List Res) (ex : Ex) (E' : R → List (Nat × PV)) (L' : R → List Res) (h0 : ZL e (E s)) (H : Hs σ (L s))
  (hs : ∀ s e σ, Hs σ (L s) → ∀ z, step s = some z → Runs X n fn c (sets e (E s)) σ (LoopEnd (fun s e σ => ZL e (E s) ∧ Hs σ (L s)) (fun y x e σ => x = ex ∧ ZL e (E' y) ∧ Hs σ (L' y)) z))
  (hq : ∀ y e σ, Hs σ (L' y) → G y = some z → Q ex (sets e (E' y)) σ) : Runs X n fn (.loop c) e σ Q := by
 obtain ⟨y, h1, h2⟩ := bind_some h
 obtain ⟨k, h1⟩ := Zc.1 h1
 refine (Runs.loopO h1 (fun s e σ => ZL e (E s) ∧ Hs σ (L s)) (fun y x e σ => x = ex ∧ ZL e (E' y) ∧ Hs σ (L' y)) ⟨h0, H⟩ ?_).mono ?_
 ·rintro s e σ ⟨he, H⟩ z hz;rw [he.eq];exact hs s e σ H z hz
 ·rintro x e σ ⟨rfl, he, H⟩;rw [he.eq];exact hq y e σ H h2
theorem Runs.jn {A B : Type} {o : Option A} {G : A → Option B} {z : B} (h : o.bind G = some z) (ex : Ex) (E : A → List (Nat × PV)) (L : A → List Res)
  (h1 : ∀ y, o = some y → Runs X n fn c e σ fun x e σ => x = ex ∧ ZL e (E y) ∧ Hs σ (L y)) (h2 : ∀ y e σ, Hs σ (L y) → G y = some z → Q ex (sets e (E y)) σ) : Runs X n fn c e σ Q := by
 obtain ⟨y, h3, h4⟩ := bind_some h
 refine (h1 y h3).mono ?_
 rintro x e σ ⟨rfl, he, H⟩
 rw [he.eq]
 exact h2 y e σ H h4
theorem Runs.tR {id : Nat} {os : List Oper} (m : Nat) (hm : os.length = m) (H : Hs σ L) (h : ∀ base σ', Has σ' base (base + m) L → Ops X n false os.toArray base 0 os e σ' fun e σ => Runs X n fn b e σ Q) : Runs X n fn (.seq (.region id os.toArray false) b) e σ Q :=
 .then (.Zn m hm H h)
theorem bs {α β : Type} {x : Option α} {f : α → Option β} {b : β} (h : x.bind f = some b) : ∃ a, x = some a ∧ f a = some b := Option.bind_eq_some_iff.1 h
theorem Ends.eR {rs : List ResultVar} {xs : List PV} {r : PV} (h : (Zh X.P e σ rs, Z2k (Z0K xs), Z0K xs) = (some xs, true, r)) : Ends X rs r .ret e σ := .ret (p3 h).1 (p3 h).2.1 (p3 h).2.2
theorem Fn.go {f : FuncId} {args : List PV} {r : PV} {fu : Func} {c : Code} (hf : X.P.funcs[f]? = some fu) (h : (fu.body, X.intr f args, X.keep f, X.opn f, args.all PV.pure) = (some c, none, false, false, true))
  (hr : ∀ σ, Hs σ [] → Runs X (max fu.ntmps args.length) f c (Z2j args) σ (Ends X fu.results.toList r)) : Fn X f args r := by
 obtain ⟨h1, h2, h3, h4, h5⟩ := p5 h
 exact .ends hf h1 h2 h3 h4 h5 rfl (hr _ (Has.nil (Y9 _)))
end
end Go.Dn

namespace Go.Dn
open Go
def famL {α : Type} (rt : TypeId) (sz : Nat) (c : α → List FV) : List PV → List (List α) → List Res
 | v :: ids, r :: x => .sl v rt sz (r.map c) true :: famL rt sz c ids x
 | _, _ => []
section
variable {α : Type} {rt : TypeId} {sz : Nat} {c : α → List FV}
theorem famL_len : ∀ {ids : List PV} {x : List (List α)}, ids.length = x.length → (famL rt sz c ids x).length = x.length
 | [], [], _ => rfl
 | v :: ids, r :: x, h => by simp only [famL, Yf]; rw [famL_len (by simpa using h)]
 | [], _ :: _, h => by simp at h
 | _ :: _, [], h => by simp at h
theorem famL_get : ∀ {ids : List PV} {x : List (List α)}, ids.length = x.length → ∀ {m : Nat} {r : List α}, x[m]? = some r → ∃ v, ids[m]? = some v ∧ (famL rt sz c ids x)[m]? = some (.sl v rt sz (r.map c) true)
 | [], [], _, m, r, h => by simp at h
 | v :: ids, r0 :: x, hl, 0, r, h => by simp at h; subst h; exact ⟨v, rfl, rfl⟩
 | v :: ids, r0 :: x, hl, m + 1, r, h => famL_get (ids := ids) (x := x) (by simpa using hl) (m := m) (r := r) (by simpa using h)
 | [], _ :: _, h, _, _, _ => by simp at h
 | _ :: _, [], h, _, _, _ => by simp at h
theorem famL_set : ∀ {ids : List PV} {x : List (List α)} {m : Nat} {v : PV} {r : List α}, ids[m]? = some v → (famL rt sz c ids x).set m (.sl v rt sz (r.map c) true) = famL rt sz c ids (x.set m r)
 | [], x, m, v, r, h => by simp at h
 | v0 :: ids, [], m, v, r, h => by simp [famL]
 | v0 :: ids, r0 :: x, 0, v, r, h => by simp at h; subst h; rfl
 | v0 :: ids, r0 :: x, m + 1, v, r, h => by simp only [famL, List.set_cons_succ]; rw [famL_set (by simpa using h)]
theorem famL_put : ∀ {ids : List PV} {x : List (List α)}, ids.length = x.length → ∀ {m : Nat} {v : PV} {r : List α}, (famL rt sz c ids x).set m (.sl v rt sz (r.map c) true) = famL rt sz c (ids.set m v) (x.set m r)
 | [], [], _, m, v, r => by simp [famL]
 | v0 :: ids, r0 :: x, hl, 0, v, r => rfl
 | v0 :: ids, r0 :: x, hl, m + 1, v, r => by simp only [famL, List.set_cons_succ]; rw [famL_put (by simpa using hl)]
 | [], _ :: _, h, _, _, _ => by simp at h
 | _ :: _, [], h, _, _, _ => by simp at h
theorem famL_snoc : ∀ {ids : List PV} {x : List (List α)}, ids.length = x.length → ∀ {v : PV} {r : List α}, famL rt sz c (ids ++ [v]) (x ++ [r]) = famL rt sz c ids x ++ [.sl v rt sz (r.map c) true]
 | [], [], _, v, r => rfl
 | v0 :: ids, r0 :: x, hl, v, r => by simp only [Y0B, famL]; rw [famL_snoc (by simpa using hl)]
 | [], _ :: _, h, _, _ => by simp at h
 | _ :: _, [], h, _, _ => by simp at h
theorem Z2D {ids : List PV} {x : List (List α)} (hM : ids.length = x.length) {iv : Int} {r : List α} (h : at? x iv = some r) : ∃ v, ids[iv.toNat]? = some v ∧ (famL rt sz c ids x)[iv.toNat]? = some (.sl v rt sz (r.map c) true) := famL_get hM (at?_some h).2
theorem at?_nn {x : List α} {iv : Int} {r : α} (h : at? x iv = some r) : 0 ≤ iv := (at?_some h).1
theorem Z1A {β : Type} {l : List β} {m : Nat} {a : β} (h : l[m]? = some a) : m < l.length := (List.getElem?_eq_some_iff.1 h).1
end
theorem Z0C {L F T : List Res} (k : Nat) (hL : L.drop k = F ++ T) {m : Nat} {r : Res} (h : F[m]? = some r) : L[k + m]? = some r := by
 have e : (L.drop k)[m]? = some r := by rw [hL, YO (Z1A h), h]
 rw [YY] at e
 exact e
section
variable {σ : Heap} {lo hi : Nat} {L T : List Res}
theorem Has.famSet {α : Type} {rt : TypeId} {sz : Nat} {c : α → List FV} {ids : List PV} {x : List (List α)} {v : PV} {r : List α} {k m : Nat} (hL : L.drop k = famL rt sz c ids x ++ T) (hM : ids.length = x.length) (hv : ids[m]? = some v)
  (H : Has σ lo hi (L.set (k + m) (.sl v rt sz (r.map c) true))) : Has σ lo hi (L.take k ++ (famL rt sz c ids (x.set m r) ++ T)) := by
 have hlt : m < (famL rt sz c ids x).length := by rw [famL_len hM, ← hM]; exact Z1A hv
 have e : L.set (k + m) (.sl v rt sz (r.map c) true) = L.take k ++ (famL rt sz c ids (x.set m r) ++ T) := by
  rw [← famL_set hv]
  conv => lhs; rw [← Yx k L]
  have hk : (L.take k).length = k := by
   rw [YM];have : (L.drop k).length ≠ 0 := by rw [hL]; simp only [YK]; omega
   simp only [Yl] at this;omega
  rw [Y0F _ _ (by omega), hk, Ya, hL, List.set_append_left _ _ hlt]
 rw [← e]; exact H
theorem Has.nilFam {α : Type} {rt : TypeId} {sz : Nat} {c : α → List FV} (A : List Res) (H : Has σ lo hi (A ++ T)) : ∀ k : Nat, Has σ lo hi (A ++ (famL rt sz c (List.replicate k PV.nils) (List.replicate k []) ++ T))
 | 0 => H
 | k + 1 => by
  have h := (Has.nilFam (c := c) (rt := rt) (sz := sz) A H k).pushNil rt sz true
  exact h.perm List.perm_middle.symm
theorem Has.moveIn {r : Res} (H : Has σ lo hi (r :: L)) {p : Nat} (hp : p < L.length) : Has σ lo hi (L.set p r) := by
 have h1 := H.erase (p + 1)
 rw [List.eraseIdx_cons_succ] at h1
 refine h1.perm ?_
 rw [Ym, if_pos hp, List.eraseIdx_eq_take_drop_succ]
 exact List.perm_middle.symm
end
theorem Has.rowPut {σ : Heap} {lo hi : Nat} {L T : List Res} {α : Type} {rt : TypeId} {sz : Nat} {c : α → List FV} {ids : List PV} {x : List (List α)} {w : PV} {r : List α} {k m : Nat} (hL : L.drop k = famL rt sz c ids x ++ T) (hM : ids.length = x.length) (hm : m < ids.length)
  (H : Has σ lo hi (.sl w rt sz (r.map c) true :: L)) : Has σ lo hi (L.take k ++ (famL rt sz c (ids.set m w) (x.set m r) ++ T)) := by
 have hlt : m < (famL rt sz c ids x).length := by rw [famL_len hM, ← hM]; exact hm
 have hkl : k + m < L.length := by
  have : m < (L.drop k).length := by rw [hL, YK]; omega
  rw [Yl] at this; omega
 have e : L.set (k + m) (.sl w rt sz (r.map c) true) = L.take k ++ (famL rt sz c (ids.set m w) (x.set m r) ++ T) := by
  rw [← famL_put hM]
  conv => lhs; rw [← Yx k L]
  have hk : (L.take k).length = k := by rw [YM]; omega
  rw [Y0F _ _ (by omega), hk, Ya, hL, List.set_append_left _ _ hlt]
 rw [← e]; exact H.moveIn hkl
theorem Z62 {cells : List PV} {j : Nat} {w : PV} (h : j < cells.length) : splice cells j [w] = cells.set j w := by
 unfold splice
 rw [Ym, if_pos h]; simp
theorem new?_some {α : Type} {b : Nat} {n : Int} {z : α} {r : List α} (h : new? b n z = some r) : 0 ≤ n ∧ n.toNat * b ≤ room ∧ r = List.replicate n.toNat z := by
 unfold new? at h
 split at h
 ·rename_i hn; cases h; exact ⟨hn.1, hn.2, rfl⟩
 ·cases h
theorem Has.toMat {σ : Heap} {lo hi : Nat} {T : List Res} {α : Type} {c : α → List FV} {d : List (List α)} {et : TypeId} {w : PV} {u : Unit} (hd : some? d = some u) (H : Has σ lo hi (.sl w et 1 (d.map (cL c)) true :: T)) : ∃ id, w = .buf id d.length 1 ∧ Has σ lo hi (.blk id et (d.map fun r => PV.v (.sl (r.map c))) :: T) := by
 obtain ⟨hs, hv⟩ := H.sl (k := 0) rfl
 rcases hv with ⟨_, h⟩ | ⟨id, rfl, hb⟩
 ·cases d with
  | nil => cases hd
  | cons a d => simp at h
 ·refine ⟨id, by rw [YI], H.say (k := 0) (r' := .blk id et _) rfl ?_ rfl⟩
  show σ.ent id = _
  rw [hb]
  congr 1
  clear hb hs H hd
  induction d with
  | nil => rfl
  | cons a d ih => simp only [Y01, YU, Z1H, ih]; rfl
theorem Has.ownRow {σ : Heap} {lo hi : Nat} {T : List Res} {α : Type} {c : α → List FV} {r : List (List α)} {et rt : TypeId} {sz id k : Nat} {ids : List PV} {w : PV} (hk : ids.length = k) (hlt : k < r.length)
  (H : Has σ lo hi (.sl w rt sz (r[k].map c) true :: .blk id et ((ids ++ (r.drop k).map fun q => PV.v (.sl (q.map c))).set ((k : Int)).toNat w) :: (famL rt sz c ids (r.take k) ++ T))) :
  Has σ lo hi (.blk id et ((ids ++ [w]) ++ (r.drop (k + 1)).map fun q => PV.v (.sl (q.map c))) :: (famL rt sz c (ids ++ [w]) (r.take (k + 1)) ++ T)) := by
 have hl : ids.length = (r.take k).length := by rw [YM]; omega
 have e1 : (ids ++ (r.drop k).map fun q => PV.v (.sl (q.map c))).set ((k : Int)).toNat w = (ids ++ [w]) ++ (r.drop (k + 1)).map fun q => PV.v (.sl (q.map c)) := by
  rw [YP, Y0F _ _ (by omega), hk, Nat.sub_self, List.drop_eq_getElem_cons hlt, Y01, List.set_cons_zero, Yn]; rfl
 have e2 : famL rt sz c (ids ++ [w]) (r.take (k + 1)) = famL rt sz c ids (r.take k) ++ [.sl w rt sz (r[k].map c) true] := by
  rw [← famL_snoc hl, List.take_append_getElem hlt]
 have e3 : famL rt sz c ids (r.take k) ++ [Res.sl w rt sz (r[k].map c) true] ++ T = famL rt sz c ids (r.take k) ++ (Res.sl w rt sz (r[k].map c) true :: T) := by simp
 rw [e1] at H
 rw [e2, e3]
 refine H.perm ?_
 refine (List.Perm.swap _ _ _).trans (List.Perm.cons _ ?_)
 exact List.perm_middle.symm
theorem Has.matLast {σ : Heap} {lo hi : Nat} {M : List Res} (A : List Res) (H : Has σ lo hi (M ++ A)) : Has σ lo hi (A ++ (M ++ [])) := by
 rw [YD]; exact H.perm List.perm_append_comm
theorem wrap_small {x : Int} (h1 : -9223372036854775808 ≤ x) (h2 : x ≤ 9223372036854775807) : IntKind.i64.wrap x = x := by
 simp [IntKind.wrap, IntKind.bits, IntKind.signed]
 split <;> omega
section
variable {X : Ctx} {n : Nat} {dr : Bool} {fn : FuncId} {ops : Array Oper} {base i : Nat} {l : List Oper} {e : Env} {σ : Heap} {K : Env → Heap → Prop} {Q : Ex → Env → Heap → Prop}
variable {d : Nat} {t t1 t2 : TypeId} {p : String} {af : Array Edge} {x y z : Operand} {v : PV} {lo hi : Nat} {L : List Res}
theorem Ops.Z1e {id m : Nat} {el te : TypeId} {cells : List PV} {ik : IntKind} {iv : Int} (H : Has σ lo hi L) (k : Nat) (hk : L[k]? = some (.blk id te cells)) (hv : cells.length = m) (hx : Z0 X e x = some (.buf id m 1))
  (hy : Z0 X e y = some (.v (.int ik iv))) (h0 : 0 ≤ iv) (hlt : iv.toNat < m) (ht : tslice X.P t1 = some el) (hs : tsize X.P el = some 1) (ha : dr = true → Seen ops base i id false) (hd : Nat.blt d n = true)
  (hk' : Ops X n dr ops base (i + 1) l (set e d (.ptr id m iv.toNat)) σ K) : Ops X n dr ops base i (⟨some d, .indexAddr t1 x y, t, p, af, none⟩ :: l) e σ K := by
 refine .plain (x := .ptr id m iv.toNat) (σ1 := σ) ?_ (fun h => Z0l (ids := [id]) rfl ?_ (fun j hj => by simp at hj; subst hj; exact ha h)) hd hk'
 ·have hc : σ.cur id m = true := H.cur hk hv
  simp only [Z3, hx, hy, Zz, Z1V, if_pos h0, ht, Nat.mul_one, hc, hs, Bool.true_and, beq_self_eq_true, decide_eq_true hlt, Y0N, if_true, Y7]
 ·simp only [touched, ZI, YC, YE, hx, vids, YD]
theorem Ops.lenM {id m : Nat} {el te : TypeId} {cells : List PV} (H : Has σ lo hi L) (k : Nat) (hk : L[k]? = some (.blk id te cells)) (hv : cells.length = m) (hx : Z0 X e x = some (.buf id m 1)) (ht : tslice X.P t1 = some el)
  (ha : dr = true → Seen ops base i id false) (hd : Nat.blt d n = true)
  (hk' : Ops X n dr ops base (i + 1) l (set e d (.v (.int .i64 m))) σ K) : Ops X n dr ops base i (⟨some d, .call { callee := .builtin .len, args := #[x], argTypes := #[t1] }, t, p, af, none⟩ :: l) e σ K := by
 refine .plain (x := .v (.int .i64 m)) (σ1 := σ) ?_ (fun h => Z0l (ids := [id]) rfl ?_ (fun j hj => by simp at hj; subst hj; exact ha h)) hd hk'
 ·have hc : σ.cur id (m * 1) = true := H.cur hk (by omega)
  simp only [Z3, ZW, ZG, hx, Y1, Zf, lenD, ht, hc, if_true, Y7]
 ·simp only [touched, ZI, YC, YE, hx, vids, YD]
theorem Ops.makeM {el : TypeId} {by_ : Nat} {m : Int} (H : Has σ lo hi L) (hlo : lo ≤ base + i) (hhi : base + i < hi)
  (hx : Z0 X e x = some (.v (.int .i64 m))) (hy : Z0 X e y = some (.v (.int .i64 m))) (h0 : 0 ≤ m) (hroom : m.toNat * by_ ≤ room)
  (ht : tslice X.P t1 = some el) (hs : tsize X.P el = some 1) (hb : tbytes X.P el = some by_) (hz : tzero X.P el = some [.nils]) (hby : (by_ != 0) = true) (hd : Nat.blt d n = true)
  (hk : ∀ σ', Has σ' (base + i + 1) hi (.blk (base + i) el (List.replicate m.toNat .nils) :: L) → Ops X n dr ops base (i + 1) l (set e d (.buf (base + i) m.toNat 1)) σ' K) :
  Ops X n dr ops base i (⟨some d, .makeSlice t1 x y, t, p, af, none⟩ :: l) e σ K := by
 have hby : by_ ≠ 0 := by simpa using hby
 have e2 : (List.replicate m.toNat [PV.nils]).flatten = List.replicate m.toNat .nils := by
  induction m.toNat with
  | zero => rfl
  | succ k ih => rw [List.replicate_succ, YU, ih, List.replicate_succ]; rfl
 refine .plain (x := .buf (base + i) m.toNat 1) (σ1 := σ.put (base + i) (.blk el (List.replicate m.toNat .nils) true)) ?_ (fun _ => Zu rfl) hd (hk _ (H.push hlo hhi (r' := .blk (base + i) el _) Z0f rfl))
 simp only [Z3, hx, hy, makeD, ht, hs, hb, hz]
 rw [if_pos ⟨trivial, h0, hroom, rfl, by decide, hby⟩, e2]
theorem Ops.isNilV {α : Type} {c : α → List FV} {xs : List α} {u : Unit} {el : TypeId} (h : some? xs = some u) (hx : Z0 X e x = some (.v (.sl (xs.map c)))) (hy : Z0 X e y = some .nils) (ht : tslice X.P t1 = some el) (hd : Nat.blt d n = true)
  (hk' : Ops X n dr ops base (i + 1) l (set e d (.v (.bool false))) σ K) : Ops X n dr ops base i (⟨some d, .binOp .eql t1 x y t2, t, p, af, none⟩ :: l) e σ K := by
 cases xs with
 | nil => cases h
 | cons a xs =>
  refine .plain (x := .v (.bool false)) (σ1 := σ) ?_ (fun _ => Z1J rfl ?_) hd hk'
  ·simp only [Z3, hx, hy, Y01, binD, ht, Z3Q, Y7]
  ·simp only [touched, ZI, YC, YE, hx, hy, vids, YD]
theorem cutA {n : Int} {m : Nat} {u : Unit} (h : winA n m = some u) : 0 ≤ n ∧ n.toNat < m := by
 unfold winA at h
 split at h
 ·assumption
 ·cases h
theorem cutB {n : Int} {m : Nat} {u : Unit} (h : winB n m = some u) : 0 < n ∧ n.toNat ≤ m := by
 unfold winB at h
 split at h
 ·assumption
 ·cases h
theorem win_le {n : Int} {m : Nat} {u : Unit} (h : winB n m = some u) : n.toNat ≤ m := (cutB h).2
theorem Ops.viewA {id m sz : Nat} {el : TypeId} {k1 : IntKind} {j : Int} (hx : Z0 X e x = some (.buf id m sz)) (hl : Z0 X e y = some (.v (.int k1 j))) (h0 : 0 ≤ j) (hlt : j.toNat < m) (ht : tslice X.P t1 = some el) (hs : tsize X.P el = some sz)
  (hv : X.view (.slice t1 x (some y) none none) = true) (hd : Nat.blt d n = true)
  (hk' : Ops X n dr ops base (i + 1) l (set e d (.view id m j.toNat (m - j.toNat) sz)) σ K) : Ops X n dr ops base i (⟨some d, .slice t1 x (some y) none none, t, p, af, none⟩ :: l) e σ K := by
 refine .plain (x := .view id m j.toNat (m - j.toNat) sz) (σ1 := σ) ?_ (fun h => ?_) hd hk'
 ·simp only [Z3, hx, hl, optD, Y7, hv, if_true, viewD, ht, Y1, hs, Z1V, if_pos h0];rw [if_pos ⟨trivial, hlt, Y9 _⟩]; rfl
 ·exact ask0 (by simp only [ZP, Zb, hx, hv])
theorem Ops.viewB {id m sz : Nat} {el : TypeId} {k1 : IntKind} {j : Int} (hx : Z0 X e x = some (.buf id m sz)) (hl : Z0 X e y = some (.v (.int k1 j))) (h0 : 0 < j) (hlt : j.toNat ≤ m) (ht : tslice X.P t1 = some el) (hs : tsize X.P el = some sz)
  (hv : X.view (.slice t1 x none (some y) none) = true) (hd : Nat.blt d n = true)
  (hk' : Ops X n dr ops base (i + 1) l (set e d (.view id m 0 j.toNat sz)) σ K) : Ops X n dr ops base i (⟨some d, .slice t1 x none (some y) none, t, p, af, none⟩ :: l) e σ K := by
 refine .plain (x := .view id m 0 j.toNat sz) (σ1 := σ) ?_ (fun h => ?_) hd hk'
 ·simp only [Z3, hx, hl, optD, Y7, hv, if_true, viewD, ht, Y1, hs, Z1V, if_pos (show (0 : Int) ≤ j by omega)]
  rw [if_pos ⟨trivial, by omega, hlt⟩]; rfl
 ·exact ask0 (by simp only [ZP, Zb, hx, hv])
theorem Ops.copyW {α : Type} {c : α → List FV} {xs : List α} {el t9 : TypeId} {sz id a m : Nat} (H : Has σ lo hi L) (k : Nat) (hk : L[k]? = some (.sl (.buf id m sz) el sz (xs.map c) true))
  (hx : Z0 X e x = some (.view id m a (m - a) sz)) (hy : Z0 X e y = some (.view id m 0 a sz)) (ha1 : a ≤ m) (ht : tslice X.P t1 = some el) (hs : tsize X.P el = some sz)
  (ha : dr = true → Seen ops base i id true) (hd : Nat.blt d n = true)
  (hk' : ∀ σ', Has σ' lo hi (L.set k (.sl (.buf id m sz) el sz ((dbl xs a).map c) true)) → Ops X n dr ops base (i + 1) l (set e d (.v (.int .i64 (min a (m - a) : Nat)))) σ' K) :
  Ops X n dr ops base i (⟨some d, .call { callee := .builtin .copy, args := #[x, y], argTypes := #[t1, t9] }, t, p, af, none⟩ :: l) e σ K := by
 obtain ⟨hsz, hv'⟩ := H.sl hk
 rcases hv' with ⟨h, _⟩ | ⟨id', hid, hbl⟩
 ·cases h
 cases hid
 have hL : (xs.map c).length = xs.length := YI _
 rw [hL] at hx hy ha1 hk hk'
 have hl2 : (vs (xs.map c).flatten).length = xs.length * sz := by rw [Zo, Zg hsz, hL]
 have htk : ((vs (xs.map c).flatten).drop (0 * sz)).take (a * sz) = vs (((xs.take a).map c).flatten) := by
  rw [Nat.zero_mul, List.drop_zero, Z3e, Z2c hsz, Y0D]
 have hta : ∀ y ∈ (xs.take a).map c, y.length = sz := fun y hy => hsz y (by rw [Y0D] at hy; exact YS hy)
 have hm1 : ((xs.take a).map c).length = a := by rw [YI, YM]; omega
 have hcp : splice (vs (xs.map c).flatten) (a * sz) ((vs (((xs.take a).map c).flatten)).take (min a (xs.length - a) * sz)) = vs ((dbl xs a).map c).flatten := by
  rw [Z3e, Z2c hta];unfold splice;rw [Z3e, Z2c hsz, Zo, vs_drop, Zg (sz := sz) (fun y hy => hta y (YS hy)), ← Yb, Z45 hsz, ← Z1H, ← Z1H, ← Yq, ← Yq]
  congr 2
  unfold dbl;simp only [Y05, Y0D, List.map_drop, YM, YI]
  congr 1
  ·congr 1
   rw [List.take_take, List.take_take]
   congr 1
   omega
  ·congr 2
   omega
 refine .plain (x := .v (.int .i64 (min a (xs.length - a) : Nat))) (σ1 := σ.put id (.blk el (vs ((dbl xs a).map c).flatten) true)) ?_ (fun h => Z2C (ids := [id, id]) rfl ?_ (fun j hj => by simp at hj; subst hj; exact ha h)) hd
  (hk' _ (H.put hk rfl (r' := .sl (.buf id xs.length sz) el sz ((dbl xs a).map c) true) ⟨fun y hy => ?_, .inr ⟨id, ?_, Z0f⟩⟩ rfl))
 ·simp only [Z3, ZW, ZG, hx, hy, Y1, Zf, Z3A, ht, hs, Z1B, hbl];rw [if_pos ⟨trivial, by rw [hl2], by omega⟩, htk]
  simp only [hbl];rw [if_pos ⟨trivial, trivial, hl2, by omega⟩, hcp]
 ·simp only [touched, ZI, YC, YE, hx, hy, vids, YD, Y0B, List.nil_append]
 ·obtain ⟨a', ha', rfl⟩ := List.mem_map.1 hy
  have : a' ∈ xs := by
   unfold dbl at ha'
   rcases List.mem_append.1 ha' with h | h
   ·rcases List.mem_append.1 h with h | h
    ·exact YS h
    ·exact YS (YS h)
   ·exact List.mem_of_mem_drop h
  exact hsz _ (List.mem_map.2 ⟨a', this, rfl⟩)
 ·have : ((dbl xs a).map c).length = xs.length := by
   unfold dbl;simp only [YI, YK, YM, Yl];omega
  rw [this]
end
theorem fam_exp {α : Type} {rt : TypeId} {sz d : Nat} {c : α → List FV} : ∀ {ids : List PV} {x : List (List α)} {σ : Heap} {lo hi : Nat} {A T : List Res}, ids.length = x.length → Has σ lo hi (A ++ (famL rt sz c ids x ++ T)) →
  ∃ σ', ZX (ZR (d + 2)) σ ids = some (x.map (fun r => FV.sl (r.map c)), σ')
 | [], [], σ, lo, hi, A, T, _, H => ⟨σ, rfl⟩
 | v :: ids, r :: x, σ, lo, hi, A, T, hl, H => by
  have hk : (A ++ (famL rt sz c (v :: ids) (r :: x) ++ T))[A.length]? = some (.sl v rt sz (r.map c) true) := by
   rw [YL (Y9 _), Nat.sub_self]; rfl
  obtain ⟨hs, hv⟩ := H.sl hk
  obtain ⟨σ1, h1, H1⟩ : ∃ σ1, ZR (d + 2) σ v = some (.sl (r.map c), σ1) ∧ ∃ lo hi, Has σ1 lo hi ((A ++ [.sl v rt sz (r.map c) false]) ++ (famL rt sz c ids x ++ T)) := by
   have e : ∀ rr, (A ++ (famL rt sz c (v :: ids) (r :: x) ++ T)).set A.length rr = (A ++ [rr]) ++ (famL rt sz c ids x ++ T) := fun rr => by
    rw [Y0F _ _ (Y9 _), Nat.sub_self]; simp [famL]
   rcases hv with ⟨rfl, h0⟩ | ⟨id, rfl, hb⟩
   ·refine ⟨σ, by rw [h0]; rfl, lo, hi, ?_⟩
    have := H.say hk (r' := .sl .nils rt sz (r.map c) false) ⟨hs, .inl ⟨rfl, h0⟩⟩ rfl
    rwa [e] at this
   ·refine ⟨σ.put id (.blk rt (vs (r.map c).flatten) false), ?_, lo, hi, ?_⟩
    ·rw [Z35 hb (by rw [Zo, Zg hs]), Z59]
     simp only [Y1, Z3r hs]
    ·have := H.put hk rfl (r' := .sl (.buf id (r.map c).length sz) rt sz (r.map c) false) ⟨hs, .inr ⟨id, rfl, Z0f⟩⟩ rfl
     rwa [e] at this
  obtain ⟨lo1, hi1, H1⟩ := H1
  obtain ⟨σ2, h2⟩ := fam_exp (d := d) (ids := ids) (x := x) (by simpa using hl) H1
  exact ⟨σ2, by simp only [ZX, h1, Y1, h2, Y01]⟩
 | [], _ :: _, σ, lo, hi, A, T, h, _ => by simp at h
 | _ :: _, [], σ, lo, hi, A, T, h, _ => by simp at h
theorem chunk_one : ∀ (l : List FV), chunk 1 l.length l = l.map fun y => [y]
 | [] => rfl
 | y :: l => by simp only [Yf, chunk, Y01]; rw [← chunk_one l]; rfl
theorem mat_exp {α : Type} {rt et : TypeId} {sz id k m : Nat} {c : α → List FV} {ids : List PV} {x : List (List α)} {σ : Heap} {lo hi : Nat} {L T : List Res} (H : Has σ lo hi L) (hk : L[k]? = some (.blk id et ids)) (hL : L.drop (k + 1) = famL rt sz c ids x ++ T) (hM : ids.length = x.length) (hm : ids.length = m) :
  ∃ σ', ZR 6 σ (.buf id m 1) = some (.sl (x.map fun r => [FV.sl (r.map c)]), σ') := by
 have hb := H.blk hk
 have H2 := H.put hk rfl (r' := .hole id) (en := .blk et ids false) trivial rfl
 have hlt : k < L.length := Z1A hk
 have e : L.set k (.hole id) = (L.take k ++ [.hole id]) ++ (famL rt sz c ids x ++ T) := by
  rw [Ym, if_pos hlt, hL]; simp
 rw [e] at H2
 obtain ⟨σ', h⟩ := fam_exp (d := 3) hM H2
 refine ⟨σ', ?_⟩
 rw [Z35 hb (by rw [hm]; omega)]
 have h' : ZX (ZR 5) (σ.put id (.blk et ids false)) ids = some (x.map (fun r => FV.sl (r.map c)), σ') := h
 rw [h']
 simp only [Y1]
 have : m = (x.map (fun r => FV.sl (r.map c))).length := by rw [YI]; omega
 rw [this, chunk_one, List.map_map]
 rfl
theorem Ends.M {α : Type} {X : Ctx} {rs : List ResultVar} {rt et : TypeId} {sz id m : Nat} {c : α → List FV} {ids : List PV} {x : List (List α)} {e : Env} {σ : Heap} {lo hi : Nat} {L T : List Res} {xs : List PV} {r : PV} {ex : Ex} (hx : ex = .normal ∨ ex = .ret) (H : Has σ lo hi L) (k : Nat) (hk : L[k]? = some (.blk id et ids)) (hL : L.drop (k + 1) = famL rt sz c ids x ++ T) (hM : ids.length = x.length) (hm : ids.length = m)
  (h : Zh X.P e σ rs = some (.buf id m 1 :: xs)) (hp : xs.all PV.pure = true) (hr : Z0K (.v (.sl (x.map fun r => [FV.sl (r.map c)])) :: xs) = r) : Ends X rs r ex e σ := by
 obtain ⟨σ', q⟩ := mat_exp H hk hL hM hm
 refine ⟨hx, _, σ', h, ?_⟩
 have q1 : Z08 σ (.buf id m 1) = some (.v (.sl (x.map fun r => [FV.sl (r.map c)])), σ') := by
  show (ZR 6 σ (.buf id m 1)).bind _ = _
  rw [q]; rfl
 rw [← hr]
 cases xs with
 | nil => exact q1
 | cons y ys =>
  show (Z0J σ (.buf id m 1 :: y :: ys)).bind _ = _
  simp only [Z0J, q1, Y1];have := Z2p (σ := σ') hp
  simp only [Z0J] at this;rw [this]
  rfl
end Go.Dn

namespace Go.Dn
open Go Go.Proofs
def cloneV (sz by_ : Nat) : List PV → Option PV
 | [.v (.sl xs)] => if (xs.all fun y => y.length == sz) = true ∧ xs.length * by_ ≤ room then some (.v (.sl xs)) else none
 | _ => none
noncomputable def CA : Ctx := { P := Try.prog, glob := fun _ => none, intr := fun f args => none, opn := fun f => false, keep := fun f => false, lit := true }
noncomputable def C0 : Ctx := { P := Try.prog, glob := fun _ => none, intr := fun _ _ => none, opn := fun _ => false, keep := fun _ => false }
theorem prog_ok : ProgOK Try.prog := by
 refine ⟨fun f fn h => ?_, by kernel_rfl⟩
 have hall : Try.prog.funcs.all (fun fn => !(fn.name == "runtime.NumGoroutine")) = true := by kernel_rfl
 have := Array.all_eq_true_iff_forall_mem.1 hall fn (Array.mem_of_getElem? h)
 simpa using this
theorem ca_ok : CtxOK CA := by
 refine ⟨prog_ok, fun f args r h s hi hG vs hv hp => ?_⟩
 simp only [CA] at h
 cases h
noncomputable def CX : Ctx := { P := Try.prog, glob := fun _ => none, intr := fun f args => CA.intr f args, opn := fun f => f == 63 || f == 69 || f == 70 || f == 78 || f == 79, keep := fun f => f == 70, view := fun o => match o with | .slice 43 (.tmp 39) (some (.tmp 40)) none none => true | .slice 43 (.tmp 42) none (some (.tmp 43)) none => true | _ => false }
theorem cx_ok : CtxOK CX := by
 refine ⟨prog_ok, fun f args r h s hi hG vs hv hp => ?_⟩
 simp only [CX] at h
 exact ca_ok.intr f args r h s hi hG vs hv hp
end Go.Dn

namespace Go.Dn
open Go
noncomputable section
structure Bound where
 Inf : Int
 N : Int
 deriving DecidableEq
def Bound.cs (x : Bound) : List FV := [(.int .i8 x.Inf), (.int .i64 x.N)]
def Bound.ok (x : Bound) : Prop := okI .i8 x.Inf ∧ okI .i64 x.N
structure epactlaw24_Set where
 I : Int
 J : Int
 Most : Bound
 deriving DecidableEq
def epactlaw24_Set.cs (x : epactlaw24_Set) : List FV := [(.int .i64 x.I), (.int .i64 x.J), (.int .i8 x.Most.Inf), (.int .i64 x.Most.N)]
def epactlaw24_Set.ok (x : epactlaw24_Set) : Prop := okI .i64 x.I ∧ okI .i64 x.J ∧ Bound.ok x.Most
def safe_Floor (a : Int) (b : Int) : Option (Int × Int × Int) :=
 (bif (b == 0) then
  some (0, 0, 11)
 else
  (bif ((b == (-1)) && (a == (-9223372036854775808))) then
   some (0, 0, 10)
  else
   (nz? b).bind fun u1 =>
   (nz? b).bind fun u2 =>
   (
    (bif (((a.tmod b) != 0) && ((decide ((a.tmod b) < 0)) != (decide (b < 0)))) then
     some ((w64 ((w64 (a.tdiv b)) - 1)), (w64 ((a.tmod b) + b)))
    else
     some ((w64 (a.tdiv b)), (a.tmod b)))).bind fun (y1 : Int × Int) =>
   some (y1.1, y1.2, 0)))
def Z29 (a : Int) : Int :=
 (bif (decide (a < 0)) then
  (IntKind.u64.wrap (0 - (IntKind.u64.wrap a)))
 else
  (IntKind.u64.wrap a))
def Zk (x' : Int) (y : Int) : Int × Int :=
 ((IntKind.u64.wrap ((IntKind.u64.wrap ((IntKind.u64.wrap ((x'.fdiv (2 ^ 32)) * (y.fdiv (2 ^ 32)))) + ((IntKind.u64.wrap ((IntKind.u64.wrap ((x'.fdiv (2 ^ 32)) * (iAnd .u64 y 4294967295))) + ((IntKind.u64.wrap ((iAnd .u64 x' 4294967295) * (iAnd .u64 y 4294967295))).fdiv (2 ^ 32)))).fdiv (2 ^ 32)))) + ((IntKind.u64.wrap ((iAnd .u64 (IntKind.u64.wrap ((IntKind.u64.wrap ((x'.fdiv (2 ^ 32)) * (iAnd .u64 y 4294967295))) + ((IntKind.u64.wrap ((iAnd .u64 x' 4294967295) * (iAnd .u64 y 4294967295))).fdiv (2 ^ 32)))) 4294967295) + (IntKind.u64.wrap ((iAnd .u64 x' 4294967295) * (y.fdiv (2 ^ 32)))))).fdiv (2 ^ 32)))), (IntKind.u64.wrap (x' * y)))
def Z5I (n : Int) (minus : Bool) : Int × Int :=
 (bif (minus && (decide (n ≤ 9223372036854775808))) then
  ((w64 (IntKind.u64.wrap (0 - n))), 0)
 else
  (bif ((!minus) && (decide (n ≤ 9223372036854775807))) then
   ((w64 n), 0)
  else
   (0, 10)))
def safe_Mul (a : Int) (b : Int) : Int × Int :=
 (bif (((Zk (Z29 a) (Z29 b)).1) != 0) then
  (0, 10)
 else
  ((Z5I ((Zk (Z29 a) (Z29 b)).2) ((decide (a < 0)) != (decide (b < 0)))).1, (Z5I ((Zk (Z29 a) (Z29 b)).2) ((decide (a < 0)) != (decide (b < 0)))).2))
def Z0D (a : Int) (b : Int) : Int × Int :=
 (bif (((decide ((w64 (a + b)) > a)) != (decide (b > 0))) && (b != 0)) then
  (0, 10)
 else
  ((w64 (a + b)), 0))
def ZQ (a : Bound) : Bool :=
 ((a.Inf == 0) || (((a.Inf == 1) || (a.Inf == (-1))) && (a.N == 0)))
def Z0n (a : Int) (b : Int) : Int × Int :=
 (bif (((decide ((w64 (a - b)) < a)) != (decide (b > 0))) && (b != 0)) then
  (0, 10)
 else
  ((w64 (a - b)), 0))
def Z03 (a : Bound) (b : Bound) : Bool :=
 (bif ((!(ZQ a)) || (!(ZQ b))) then
  false
 else
  (bif (a.Inf != b.Inf) then
   (decide (a.Inf < b.Inf))
  else
   (decide (a.N < b.N))))
def ZY (a : Bound) (b : Bound) : Bound × Int :=
 (bif ((!(ZQ a)) || (!(ZQ b))) then
  ((Bound.mk 0 0), 2)
 else
  (bif (((a.Inf != 0) && (b.Inf != 0)) && (a.Inf != b.Inf)) then
   ((Bound.mk 0 0), 10)
  else
   (bif (a.Inf != 0) then
    (a, 0)
   else
    (bif (b.Inf != 0) then
     (b, 0)
    else
     ((Bound.mk 0 ((Z0D a.N b.N).1)), (Z0D a.N b.N).2)))))
def ZB (x' : Int) (y : Int) : Int × Int :=
 ((Zk x' y).1, (Zk x' y).2)
def Z9.s0 (x' : (List Bound)) (count : Int) (s1 : Int × (List Bound)) : Option ((Int × (List Bound)) ⊕ ((List Bound))) :=
 (bif (decide (s1.1 < (s1.2.length : Int))) then
  (winA s1.1 ((w64 ((ZB (IntKind.u64.wrap (x'.length : Int)) (IntKind.u64.wrap count)).2))).toNat).bind fun u1 =>
  (winB s1.1 ((w64 ((ZB (IntKind.u64.wrap (x'.length : Int)) (IntKind.u64.wrap count)).2))).toNat).bind fun u2 =>
  some (.inl ((w64 (s1.1 + ((min (s1.1).toNat (((w64 ((ZB (IntKind.u64.wrap (x'.length : Int)) (IntKind.u64.wrap count)).2))).toNat - (s1.1).toNat) : Nat) : Int))), (dbl s1.2 (s1.1).toNat)))
 else
  some (.inr s1.2))
def Z9 (x' : (List Bound)) (count : Int) : Option ((List Bound)) :=
 (bif (decide (count < 0)) then
  none
 else
  (bif ((decide (((ZB (IntKind.u64.wrap (x'.length : Int)) (IntKind.u64.wrap count)).1) > 0)) || (decide (((ZB (IntKind.u64.wrap (x'.length : Int)) (IntKind.u64.wrap count)).2) > 9223372036854775807))) then
   none
  else
   (new? 16 (w64 ((ZB (IntKind.u64.wrap (x'.length : Int)) (IntKind.u64.wrap count)).2)) (Bound.mk 0 0)).bind fun x1 =>
   (loopO (Z9.s0 x' count) (((min x'.length x1.length : Nat) : Int), (cpy x1 x'))).bind fun (y1 : (List Bound)) =>
   some y1))
def Z0b.s0 (n : Int) (s1 : Int × (List (List Bound))) : Option ((Int × (List (List Bound))) ⊕ ((List (List Bound)))) :=
 (bif (decide (s1.1 < n)) then
  (Z9 [(Bound.mk 1 0)] n).bind fun x2 =>
  (at? s1.2 s1.1).bind fun x3 =>
  (at? (s1.2.set (s1.1).toNat x2) s1.1).bind fun x4 =>
  (at? x4 s1.1).bind fun x5 =>
  some (.inl ((w64 (s1.1 + 1)), ((s1.2.set (s1.1).toNat x2).set (s1.1).toNat (x4.set (s1.1).toNat (Bound.mk 0 0)))))
 else
  some (.inr s1.2))
def Z0b (n : Int) : Option ((List (List Bound)) × Int) :=
 (bif ((decide (n < 0)) || (decide (n > 24))) then
  some ([], 2)
 else
  (new? 24 n []).bind fun x1 =>
  (loopO (Z0b.s0 n) (0, x1)).bind fun (y1 : (List (List Bound))) =>
  some (y1, 0))
def Z5.s0 (s : (List (List Bound))) (f : (List Bound) → Option Bool) (s1 : Int) : Option ((Int) ⊕ (Jx (Unit) (Int))) :=
 (bif (decide (s1 < (s.length : Int))) then
  (at? s s1).bind fun x1 =>
  (f x1).bind fun x2 =>
  (bif x2 then
   some (.inr (.ret s1))
  else
   some (.inl (w64 (s1 + 1))))
 else
  some (.inr (.go ())))
def Z5 (s : (List (List Bound))) (f : (List Bound) → Option Bool) : Option (Int) :=
 (loopO (Z5.s0 s f) 0).bind fun (y1 : Jx (Unit) (Int)) =>
 y1.elim (fun r' =>
   some r') fun a2 =>
 some (-1)
def ZE (s : (List (List Bound))) (f : (List Bound) → Option Bool) : Option (Bool) :=
 (Z5 s f).bind fun x1 =>
 some (decide (x1 ≥ 0))
def Z8.s0 (s : (List Bound)) (f : Bound → Option Bool) (s1 : Int) : Option ((Int) ⊕ (Jx (Unit) (Int))) :=
 (bif (decide (s1 < (s.length : Int))) then
  (at? s s1).bind fun x1 =>
  (f x1).bind fun x2 =>
  (bif x2 then
   some (.inr (.ret s1))
  else
   some (.inl (w64 (s1 + 1))))
 else
  some (.inr (.go ())))
def Z8 (s : (List Bound)) (f : Bound → Option Bool) : Option (Int) :=
 (loopO (Z8.s0 s f) 0).bind fun (y1 : Jx (Unit) (Int)) =>
 y1.elim (fun r' =>
   some r') fun a2 =>
 some (-1)
def ZJ (s : (List Bound)) (f : Bound → Option Bool) : Option (Bool) :=
 (Z8 s f).bind fun x1 =>
 some (decide (x1 ≥ 0))
def Z1l (b : Bound) : Bool :=
 ((((ZQ b) && (decide (b.Inf ≥ 0))) && (decide (b.N ≥ (-1125899906842624)))) && (decide (b.N ≤ 1125899906842624)))
def Z1p (b : Bound) : Bool :=
 (!(Z1l b))
def Z1F (row : (List Bound)) (p1' : Int) : Option (Bool) :=
 (
  (bif ((row.length : Int) != p1') then
   some true
  else
   (ZJ row (fun z0 => some (Z1p z0))).bind fun x1 =>
   some x1)).bind fun (y1 : Bool) =>
 some y1
def Z0r (d : (List (List Bound))) : Option (Bool) :=
 (
  (bif (decide ((d.length : Int) ≤ 24)) then
   (ZE d (fun z0 => Z1F z0 (d.length : Int))).bind fun x1 =>
   some (!x1)
  else
   some false)).bind fun (y1 : Bool) =>
 some y1
def Z0A (s : (List (List Bound))) : Option ((List (List Bound))) :=
 (some? s).bind fun u1 =>
 (app? 24 [] s).bind fun x1 =>
 some x1
def Z0M (s : (List Bound)) : Option ((List Bound)) :=
 (some? s).bind fun u1 =>
 (app? 16 [] s).bind fun x1 =>
 some x1
def Z1w (d : (List (List Bound))) : Option ((List (List Bound))) :=
 (bif (!d.isEmpty && decide (d.length * 24 ≤ room) && d.all fun q => !q.isEmpty && decide (q.length * 16 ≤ room)) then
  some d
 else
  none)
def Z1z (d : (List (List Bound))) (i : Int) (j : Int) (most : Bound) : Option ((List (List Bound)) × Int) :=
 (Z0r d).bind fun x1 =>
 (bif ((((((!x1) || (decide (i < 0))) || (decide (j < 0))) || (decide (i ≥ (d.length : Int)))) || (decide (j ≥ (d.length : Int)))) || (!(Z1l most))) then
  some ([], 2)
 else
  (Z1w d).bind fun x2 =>
  (
   (at? x2 i).bind fun x3 =>
   (at? x3 j).bind fun x4 =>
   (bif (Z03 most x4) then
    (at? x2 i).bind fun x5 =>
    (at? x5 j).bind fun x6 =>
    some (x2.set (i).toNat (x5.set (j).toNat most))
   else
    some x2)).bind fun (y1 : (List (List Bound))) =>
  some (y1, 0))
def ZH.s0 (l : (List epactlaw24_Set)) (s1 : (List (List Bound)) × Int × Int) : Option (((List (List Bound)) × Int × Int) ⊕ ((List (List Bound)) × Int)) :=
 (bif (decide (s1.2.2 < (l.length : Int))) then
  (
   (
    (at? l s1.2.2).bind fun x2 =>
    (bif (s1.2.1 == 0) then
     (Z1z s1.1 x2.I x2.J x2.Most).bind fun x3 =>
     some (x3.1, x3.2)
    else
     some (s1.1, s1.2.1))).bind fun (y3 : (List (List Bound)) × Int) =>
   some (y3.1, y3.2)).bind fun (y2 : (List (List Bound)) × Int) =>
  some (.inl (y2.1, y2.2, (w64 (s1.2.2 + 1))))
 else
  some (.inr (s1.1, s1.2.1)))
def ZH (n : Int) (l : (List epactlaw24_Set)) : Option ((List (List Bound)) × Bool) :=
 (Z0b n).bind fun x1 =>
 (loopO (ZH.s0 l) (x1.1, x1.2, 0)).bind fun (y1 : (List (List Bound)) × Int) =>
 some (y1.1, (y1.2 == 0))
def ZT.s0 (x1 : (List epactlaw24_Set)) (s2 : Int × Int × (List epactlaw24_Set)) : Option ((Int × Int × (List epactlaw24_Set)) ⊕ (Int × (List epactlaw24_Set))) :=
 (bif (decide (s2.2.1 < (x1.length : Int))) then
  (
   (
    (at? x1 s2.2.1).bind fun x2 =>
    (nz? s2.1).bind fun u1 =>
    (nz? s2.1).bind fun u2 =>
    (
     (bif (x2.Most.Inf == 0) then
      some (0, (x2.Most.N.tmod 1001))
     else
      some (1, 0))).bind fun (y4 : Int × Int) =>
    (bif (((iAnd .i64 x2.I 255).tmod s2.1) != ((iAnd .i64 x2.J 255).tmod s2.1)) then
     (app? 32 s2.2.2 [(epactlaw24_Set.mk ((iAnd .i64 x2.I 255).tmod s2.1) ((iAnd .i64 x2.J 255).tmod s2.1) (Bound.mk y4.1 y4.2))]).bind fun x3 =>
     some x3
    else
     some s2.2.2)).bind fun (y3 : (List epactlaw24_Set)) =>
   some y3).bind fun (y2 : (List epactlaw24_Set)) =>
  some (.inl (s2.1, (w64 (s2.2.1 + 1)), y2))
 else
  some (.inr (s2.1, s2.2.2)))
def ZT (n : Int) (l : (List epactlaw24_Set)) : Option ((List (List Bound))) :=
 (cut? l 0 (iMin (l.length : Int) 60)).bind fun x1 =>
 (loopO (ZT.s0 x1) ((w64 (1 + (w64 (n.tmod 24)))), 0, [])).bind fun (y1 : Int × (List epactlaw24_Set)) =>
 (ZH y1.1 y1.2).bind fun x4 =>
 some x4.1
def Z7.s0 (d : (List (List Bound))) (s1 : Int × (List (List Bound))) : Option ((Int × (List (List Bound))) ⊕ (Jx ((List (List Bound))) ((List (List Bound)) × Bool × Int))) :=
 (bif (decide (s1.1 < ((d.length : Nat) : Int))) then
  (at? s1.2 s1.1).bind fun x3 =>
  (at? x3 s1.1).bind fun x4 =>
  (bif (Z03 x4 (Bound.mk 0 0)) then
   some (.inr (.ret ([], false, 0)))
  else
   (at? s1.2 s1.1).bind fun x5 =>
   (at? x5 s1.1).bind fun x6 =>
   some (.inl ((w64 (s1.1 + 1)), (s1.2.set (s1.1).toNat (x5.set (s1.1).toNat (Bound.mk 0 0))))))
 else
  some (.inr (.go s1.2)))
def Z7.s3 (d : (List (List Bound))) (s2 : Int × (List (List Bound))) (s3 : Int × (List (List Bound))) (s4 : Int × (List (List Bound))) : Option ((Int × (List (List Bound))) ⊕ ((List (List Bound)))) :=
 (bif (decide (s4.1 < ((d.length : Nat) : Int))) then
  (
   (
    (at? s4.2 s3.1).bind fun x7 =>
    (at? x7 s2.1).bind fun x8 =>
    (at? s4.2 s2.1).bind fun x9 =>
    (at? x9 s4.1).bind fun x10 =>
    (
     (bif (((ZY x8 x10).2) == 0) then
      (at? s4.2 s3.1).bind fun x11 =>
      (at? x11 s4.1).bind fun x12 =>
      some (Z03 ((ZY x8 x10).1) x12)
     else
      some false)).bind fun (y8 : Bool) =>
    (bif y8 then
     (at? s4.2 s3.1).bind fun x13 =>
     (at? x13 s4.1).bind fun x14 =>
     some (s4.2.set (s3.1).toNat (x13.set (s4.1).toNat ((ZY x8 x10).1)))
    else
     some s4.2)).bind fun (y7 : (List (List Bound))) =>
   some y7).bind fun (y6 : (List (List Bound))) =>
  some (.inl ((w64 (s4.1 + 1)), y6))
 else
  some (.inr s4.2))
def Z7.s2 (d : (List (List Bound))) (s2 : Int × (List (List Bound))) (s3 : Int × (List (List Bound))) : Option ((Int × (List (List Bound))) ⊕ ((List (List Bound)))) :=
 (bif (decide (s3.1 < ((d.length : Nat) : Int))) then
  (loopO (Z7.s3 d s2 s3) (0, s3.2)).bind fun (y5 : (List (List Bound))) =>
  some (.inl ((w64 (s3.1 + 1)), y5))
 else
  some (.inr s3.2))
def Z7.s4 (d : (List (List Bound))) (y4 : (List (List Bound))) (s5 : Int) : Option ((Int) ⊕ (Jx (Unit) (Unit))) :=
 (bif (decide (s5 < ((d.length : Nat) : Int))) then
  (at? y4 s5).bind fun x15 =>
  (at? x15 s5).bind fun x16 =>
  (bif (Z03 x16 (Bound.mk 0 0)) then
   some (.inr (.ret ()))
  else
   some (.inl (w64 (s5 + 1))))
 else
  some (.inr (.go ())))
def Z7.s1 (d : (List (List Bound))) (s2 : Int × (List (List Bound))) : Option ((Int × (List (List Bound))) ⊕ (Jx ((List (List Bound))) ((List (List Bound)) × Bool × Int))) :=
 (bif (decide (s2.1 < ((d.length : Nat) : Int))) then
  (
   (loopO (Z7.s2 d s2) (0, s2.2)).bind fun (y4 : (List (List Bound))) =>
   (loopO (Z7.s4 d y4) 0).bind fun (y9 : Jx (Unit) (Unit)) =>
   y9.elim (fun a7 =>
     some (false, y4)) fun a6 =>
   some (true, y4)).bind fun (y3 : Bool × (List (List Bound))) =>
  (bif (!y3.1) then
   some (.inr (.ret ([], false, 0)))
  else
   some (.inl ((w64 (s2.1 + 1)), y3.2)))
 else
  some (.inr (.go s2.2)))
def Z7 (d : (List (List Bound))) : Option ((List (List Bound)) × Bool × Int) :=
 (Z0r d).bind fun x1 =>
 (bif (!x1) then
  some ([], false, 2)
 else
  (Z1w d).bind fun x2 =>
  (loopO (Z7.s0 d) (0, x2)).bind fun (y1 : Jx ((List (List Bound))) ((List (List Bound)) × Bool × Int)) =>
  y1.elim (fun r' =>
    some r') fun a2 =>
  (loopO (Z7.s1 d) (0, a2)).bind fun (y2 : Jx ((List (List Bound))) ((List (List Bound)) × Bool × Int)) =>
  y2.elim (fun r' =>
    some r') fun a8 =>
  some (a8, true, 0))
def ZS.s1 (ticks : (List Int)) (s1 : Int) (x2 : (List Bound)) (s2 : Int) : Option ((Int) ⊕ (Jx (Unit) (Bool))) :=
 (bif (decide (s2 < (x2.length : Int))) then
  (
   (
    (at? x2 s2).bind fun x3 =>
    (at? ticks s2).bind fun x4 =>
    (at? ticks s1).bind fun x5 =>
    (
     (bif (x3.Inf == 1) then
      some (.go ())
     else
      (
       (
        (bif (((Z0n x4 x5).2) != 0) then
         (at? ticks s2).bind fun x6 =>
         (at? ticks s1).bind fun x7 =>
         some (decide (x6 > x7))
        else
         some false)).bind fun (y7 : Bool) =>
       (bif y7 then
        some y7
       else
        some ((((Z0n x4 x5).2) == 0) && (decide (((Z0n x4 x5).1) > x3.N))))).bind fun (y6 : Bool) =>
      (bif y6 then
       some (.ret false)
      else
       some (.go ())))).bind fun (y5 : Jx (Unit) (Bool)) =>
    y5.elim (fun r' =>
      some (.ret r')) fun a6 =>
    some (.go ())).bind fun (y4 : Jx (Unit) (Bool)) =>
   y4.elim (fun r' =>
     some (.ret r')) fun a7 =>
   some (.go ())).bind fun (y3 : Jx (Unit) (Bool)) =>
  y3.elim (fun r' =>
    some (.inr (.ret r'))) fun a8 =>
  some (.inl (w64 (s2 + 1)))
 else
  some (.inr (.go ())))
def ZS.s0 (d : (List (List Bound))) (ticks : (List Int)) (s1 : Int) : Option ((Int) ⊕ (Jx (Unit) (Bool))) :=
 (bif (decide (s1 < (d.length : Int))) then
  (at? d s1).bind fun x2 =>
  (loopO (ZS.s1 ticks s1 x2) 0).bind fun (y2 : Jx (Unit) (Bool)) =>
  y2.elim (fun r' =>
    some (.inr (.ret r'))) fun a9 =>
  some (.inl (w64 (s1 + 1)))
 else
  some (.inr (.go ())))
def ZS (d : (List (List Bound))) (ticks : (List Int)) : Option (Bool) :=
 (Z0r d).bind fun x1 =>
 (bif ((!x1) || ((ticks.length : Int) != (d.length : Int))) then
  some false
 else
  (loopO (ZS.s0 d ticks) 0).bind fun (y1 : Jx (Unit) (Bool)) =>
  y1.elim (fun r' =>
    some r') fun a10 =>
  some true)
def Z1 (n : Int) : Bound :=
 (Bound.mk 0 n)
def ZA.s0 (m : (List (List Bound))) (n : Int) (s1 : Int) : Option ((Int) ⊕ (Jx (Unit) (Bool))) :=
 (bif (decide (s1 < (m.length : Int))) then
  (at? m s1).bind fun x1 =>
  (bif ((x1.length : Int) != n) then
   some (.inr (.ret false))
  else
   some (.inl (w64 (s1 + 1))))
 else
  some (.inr (.go ())))
def ZA (m : (List (List Bound))) (n : Int) : Option (Bool) :=
 (loopO (ZA.s0 m n) 0).bind fun (y1 : Jx (Unit) (Bool)) =>
 y1.elim (fun r' =>
   some r') fun a2 =>
 some ((m.length : Int) == n)
def ZU.s1 (a : (List (List Bound))) (b : (List (List Bound))) (s1 : Int) (s2 : Int) : Option ((Int) ⊕ (Jx (Unit) (Bool))) :=
 (at? a s1).bind fun x3 =>
 (bif (decide (s2 < (x3.length : Int))) then
  (at? a s1).bind fun x4 =>
  (at? x4 s2).bind fun x5 =>
  (at? b s1).bind fun x6 =>
  (at? x6 s2).bind fun x7 =>
  (bif (!((x5.Inf == x7.Inf) && ((x5.N == x7.N) && true))) then
   some (.inr (.ret false))
  else
   some (.inl (w64 (s2 + 1))))
 else
  some (.inr (.go ())))
def ZU.s0 (a : (List (List Bound))) (b : (List (List Bound))) (s1 : Int) : Option ((Int) ⊕ (Jx (Unit) (Bool))) :=
 (bif (decide (s1 < (a.length : Int))) then
  (at? a s1).bind fun x1 =>
  (at? b s1).bind fun x2 =>
  (bif ((x1.length : Int) != (x2.length : Int)) then
   some (.inr (.ret false))
  else
   (loopO (ZU.s1 a b s1) 0).bind fun (y2 : Jx (Unit) (Bool)) =>
   y2.elim (fun r' =>
     some (.inr (.ret r'))) fun a3 =>
   some (.inl (w64 (s1 + 1))))
 else
  some (.inr (.go ())))
def ZU (a : (List (List Bound))) (b : (List (List Bound))) : Option (Bool) :=
 (bif ((a.length : Int) != (b.length : Int)) then
  some false
 else
  (loopO (ZU.s0 a b) 0).bind fun (y1 : Jx (Unit) (Bool)) =>
  y1.elim (fun r' =>
    some r') fun a4 =>
  some true)
def Z0P : Option (Bool) :=
 (ZH 2 [(epactlaw24_Set.mk 0 1 (Z1 5)), (epactlaw24_Set.mk 1 0 (Z1 (-2)))]).bind fun x1 =>
 (Z7 x1.1).bind fun x2 =>
 (ZH 3 [(epactlaw24_Set.mk 0 1 (Z1 5)), (epactlaw24_Set.mk 1 0 (Z1 (-2))), (epactlaw24_Set.mk 1 2 (Z1 1))]).bind fun x3 =>
 (Z7 x3.1).bind fun x4 =>
 (ZH 2 [(epactlaw24_Set.mk 0 1 (Z1 5)), (epactlaw24_Set.mk 1 0 (Z1 (-6)))]).bind fun x5 =>
 (Z7 x5.1).bind fun x6 =>
 (Z0b 2).bind fun x7 =>
 (
  (bif ((((((((((!x1.2) || (!x3.2)) || (!x5.2)) || (!x2.2.1)) || (!x4.2.1)) || x6.2.1) || (x2.2.2 != 0)) || (x4.2.2 != 0)) || (x6.2.2 != 0)) || (x7.2 != 0)) then
   some true
  else
   (ZA x4.1 3).bind fun x8 =>
   some (!x8))).bind fun (y1 : Bool) =>
 (
  (bif y1 then
   some true
  else
   (ZA x7.1 2).bind fun x9 =>
   some (!x9))).bind fun (y2 : Bool) =>
 (bif y2 then
  some false
 else
  (ZU x2.1 x1.1).bind fun x10 =>
  (
   (bif x10 then
    (at? x4.1 0).bind fun x11 =>
    (at? x11 2).bind fun x12 =>
    some ((x12.Inf == ((Z1 6).Inf)) && ((x12.N == ((Z1 6).N)) && true))
   else
    some false)).bind fun (y3 : Bool) =>
  (
   (bif y3 then
    (at? x7.1 0).bind fun x13 =>
    (at? x13 0).bind fun x14 =>
    some ((x14.Inf == ((Z1 0).Inf)) && ((x14.N == ((Z1 0).N)) && true))
   else
    some false)).bind fun (y4 : Bool) =>
  (
   (bif y4 then
    (at? x7.1 0).bind fun x15 =>
    (at? x15 1).bind fun x16 =>
    some ((x16.Inf == 1) && ((x16.N == 0) && true))
   else
    some false)).bind fun (y5 : Bool) =>
  (
   (bif y5 then
    (ZS x1.1 [3, 7]).bind fun x17 =>
    some x17
   else
    some false)).bind fun (y6 : Bool) =>
  (
   (bif y6 then
    (ZS x1.1 [3, 9]).bind fun x18 =>
    some (!x18)
   else
    some false)).bind fun (y7 : Bool) =>
  some y7)
def ZM : Bool := true
def ZV.s0 (x1 : (List (List Bound))) (s1 : (List Int)) : Option (((List Int)) ⊕ ((List Int))) :=
 (bif (decide ((s1.length : Int) < (x1.length : Int))) then
  (cut? s1 0 (s1.length : Int)).bind fun x5 =>
  (app? 8 x5 [0]).bind fun x6 =>
  some (.inl x6)
 else
  some (.inr s1))
def ZV.s2 (x1 : (List (List Bound))) (x2 : (List (List Bound)) × Bool × Int) (s2 : Int × (List Int)) (s3 : Int × (List Int)) : Option ((Int × (List Int)) ⊕ ((List Int))) :=
 (bif (decide (s3.1 < (x1.length : Int))) then
  (
   (
    (at? x2.1 s3.1).bind fun x13 =>
    (at? x13 s2.1).bind fun x14 =>
    (bif (x14.Inf == 0) then
     (at? s3.2 s2.1).bind fun x15 =>
     (at? x2.1 s3.1).bind fun x16 =>
     (at? x16 s2.1).bind fun x17 =>
     (at? s3.2 s2.1).bind fun x18 =>
     some (s3.2.set (s2.1).toNat (iMin x15 x17.N))
    else
     some s3.2)).bind fun (y5 : (List Int)) =>
   some y5).bind fun (y4 : (List Int)) =>
  some (.inl ((w64 (s3.1 + 1)), y4))
 else
  some (.inr s3.2))
def ZV.s1 (x1 : (List (List Bound))) (x2 : (List (List Bound)) × Bool × Int) (s2 : Int × (List Int)) : Option ((Int × (List Int)) ⊕ ((List Int))) :=
 (bif (decide (s2.1 < (x1.length : Int))) then
  (loopO (ZV.s2 x1 x2 s2) (0, s2.2)).bind fun (y3 : (List Int)) =>
  some (.inl ((w64 (s2.1 + 1)), y3))
 else
  some (.inr s2.2))
def ZV.s4 (x1 : (List (List Bound))) (x2 : (List (List Bound)) × Bool × Int) (s4 : Int × (List Int)) (s5 : Int × (List Int)) : Option ((Int × (List Int)) ⊕ ((List Int))) :=
 (bif (decide (s5.1 < (x1.length : Int))) then
  (
   (
    (at? x2.1 s5.1).bind fun x27 =>
    (at? x27 s4.1).bind fun x28 =>
    (bif (x28.Inf == 0) then
     (at? s5.2 s4.1).bind fun x29 =>
     (at? x2.1 s5.1).bind fun x30 =>
     (at? x30 s4.1).bind fun x31 =>
     (at? s5.2 s4.1).bind fun x32 =>
     some (s5.2.set (s4.1).toNat (iMin x29 x31.N))
    else
     some s5.2)).bind fun (y10 : (List Int)) =>
   some y10).bind fun (y9 : (List Int)) =>
  some (.inl ((w64 (s5.1 + 1)), y9))
 else
  some (.inr s5.2))
def ZV.s3 (x1 : (List (List Bound))) (x2 : (List (List Bound)) × Bool × Int) (s4 : Int × (List Int)) : Option ((Int × (List Int)) ⊕ ((List Int))) :=
 (bif (decide (s4.1 < (x1.length : Int))) then
  (loopO (ZV.s4 x1 x2 s4) (0, s4.2)).bind fun (y8 : (List Int)) =>
  some (.inl ((w64 (s4.1 + 1)), y8))
 else
  some (.inr s4.2))
def ZV (n : Int) (l : (List epactlaw24_Set)) (ticks : (List Int)) : Option (Bool) :=
 (ZT n l).bind fun x1 =>
 (bif ((x1.length : Int) == 0) then
  some false
 else
  (Z7 x1).bind fun x2 =>
  (bif (decide ((ticks.length : Int) < (x1.length : Int))) then
   (cut? ticks 0 (ticks.length : Int)).bind fun x3 =>
   (app? 8 x3 [0]).bind fun x4 =>
   (loopO (ZV.s0 x1) x4).bind fun (y1 : (List Int)) =>
   (cut? y1 0 (x1.length : Int)).bind fun x7 =>
   (ZS x1 x7).bind fun x8 =>
   (bif ((x2.2.2 != 0) || (!x2.2.1)) then
    some ((((x2.2.2 == 0) && (!x8)) && ((x2.1.length : Int) == 0)) && ZM)
   else
    (cut? y1 0 (x1.length : Int)).bind fun x9 =>
    (ZS x2.1 x9).bind fun x10 =>
    (bif (x10 != x8) then
     some false
    else
     (ZA x2.1 (x1.length : Int)).bind fun x11 =>
     (bif (!x11) then
      some false
     else
      (new? 8 (x1.length : Int) 0).bind fun x12 =>
      (loopO (ZV.s1 x1 x2) (0, x12)).bind fun (y2 : (List Int)) =>
      (ZS x1 y2).bind fun x19 =>
      (
       (bif x19 then
        (ZS x2.1 y2).bind fun x20 =>
        some x20
       else
        some false)).bind fun (y6 : Bool) =>
      some (y6 && ZM))))
  else
   (cut? ticks 0 (x1.length : Int)).bind fun x21 =>
   (ZS x1 x21).bind fun x22 =>
   (bif ((x2.2.2 != 0) || (!x2.2.1)) then
    some ((((x2.2.2 == 0) && (!x22)) && ((x2.1.length : Int) == 0)) && ZM)
   else
    (cut? ticks 0 (x1.length : Int)).bind fun x23 =>
    (ZS x2.1 x23).bind fun x24 =>
    (bif (x24 != x22) then
     some false
    else
     (ZA x2.1 (x1.length : Int)).bind fun x25 =>
     (bif (!x25) then
      some false
     else
      (new? 8 (x1.length : Int) 0).bind fun x26 =>
      (loopO (ZV.s3 x1 x2) (0, x26)).bind fun (y7 : (List Int)) =>
      (ZS x1 y7).bind fun x33 =>
      (
       (bif x33 then
        (ZS x2.1 y7).bind fun x34 =>
        some x34
       else
        some false)).bind fun (y11 : Bool) =>
      some (y11 && ZM))))))
def Z01.s2 (x1 : (List (List Bound))) (x2 : (List (List Bound)) × Bool × Int) (s1 : Int) (s2 : Int) (x7 : Bound) (s3 : Int) : Option ((Int) ⊕ (Jx (Unit) (Bool))) :=
 (bif (decide (s3 < (x1.length : Int))) then
  (at? x2.1 s1).bind fun x16 =>
  (at? x16 s3).bind fun x17 =>
  (at? x2.1 s3).bind fun x18 =>
  (at? x18 s2).bind fun x19 =>
  (bif (((x17.Inf == 0) && (x19.Inf == 0)) && ((x7.Inf == 1) || (decide (x7.N > (w64 (x17.N + x19.N)))))) then
   some (.inr (.ret false))
  else
   some (.inl (w64 (s3 + 1))))
 else
  some (.inr (.go ())))
def Z01.s1 (x1 : (List (List Bound))) (x2 : (List (List Bound)) × Bool × Int) (x3 : (List (List Bound)) × Bool × Int) (s1 : Int) (s2 : Int) : Option ((Int) ⊕ (Jx (Unit) (Bool))) :=
 (bif (decide (s2 < (x1.length : Int))) then
  (at? x2.1 s1).bind fun x6 =>
  (at? x6 s2).bind fun x7 =>
  (
   (bif (x7.Inf == 1) then
    (at? x1 s1).bind fun x8 =>
    (at? x8 s2).bind fun x9 =>
    some (x9.Inf == 0)
   else
    some false)).bind fun (y5 : Bool) =>
  (
   (bif y5 then
    some true
   else
    (
     (bif (x7.Inf == 0) then
      (at? x1 s1).bind fun x10 =>
      (at? x10 s2).bind fun x11 =>
      some (x11.Inf == 0)
     else
      some false)).bind fun (y7 : Bool) =>
    (
     (bif y7 then
      (at? x1 s1).bind fun x12 =>
      (at? x12 s2).bind fun x13 =>
      some (decide (x7.N > x13.N))
     else
      some false)).bind fun (y8 : Bool) =>
    some y8)).bind fun (y6 : Bool) =>
  (
   (bif y6 then
    some true
   else
    (at? x3.1 s1).bind fun x14 =>
    (at? x14 s2).bind fun x15 =>
    some (!((x15.Inf == x7.Inf) && ((x15.N == x7.N) && true))))).bind fun (y9 : Bool) =>
  (bif (y9 || ((s1 == s2) && (!((x7.Inf == 0) && ((x7.N == 0) && true))))) then
   some (.inr (.ret false))
  else
   (loopO (Z01.s2 x1 x2 s1 s2 x7) 0).bind fun (y10 : Jx (Unit) (Bool)) =>
   y10.elim (fun r' =>
     some (.inr (.ret r'))) fun a4 =>
   some (.inl (w64 (s2 + 1))))
 else
  some (.inr (.go ())))
def Z01.s0 (x1 : (List (List Bound))) (x2 : (List (List Bound)) × Bool × Int) (x3 : (List (List Bound)) × Bool × Int) (s1 : Int) : Option ((Int) ⊕ (Jx (Unit) (Bool))) :=
 (bif (decide (s1 < (x1.length : Int))) then
  (loopO (Z01.s1 x1 x2 x3 s1) 0).bind fun (y4 : Jx (Unit) (Bool)) =>
  y4.elim (fun r' =>
    some (.inr (.ret r'))) fun a5 =>
  some (.inl (w64 (s1 + 1)))
 else
  some (.inr (.go ())))
def Z01 (n : Int) (l : (List epactlaw24_Set)) : Option (Bool) :=
 (ZT n l).bind fun x1 =>
 (bif ((x1.length : Int) == 0) then
  some false
 else
  (Z7 x1).bind fun x2 =>
  (bif ((x2.2.2 != 0) || (!x2.2.1)) then
   some ((x2.2.2 == 0) && ZM)
  else
   (Z7 x2.1).bind fun x3 =>
   (
    (bif ((x3.2.2 != 0) || (!x3.2.1)) then
     some true
    else
     (ZA x3.1 (x1.length : Int)).bind fun x4 =>
     some (!x4))).bind fun (y1 : Bool) =>
   (
    (bif y1 then
     some true
    else
     (ZA x2.1 (x1.length : Int)).bind fun x5 =>
     some (!x5))).bind fun (y2 : Bool) =>
   (bif y2 then
    some false
   else
    (loopO (Z01.s0 x1 x2 x3) 0).bind fun (y3 : Jx (Unit) (Bool)) =>
    y3.elim (fun r' =>
      some r') fun a6 =>
    some ZM)))
def ZD.s1 (x2 : (List (List Bound)) × Bool × Int) (x4 : (List (List Bound)) × Bool × Int) (s1 : Int) (s2 : Int) : Option ((Int) ⊕ (Jx (Unit) (Bool))) :=
 (bif (decide (s2 < (x2.1.length : Int))) then
  (at? x4.1 s1).bind fun x9 =>
  (at? x9 s2).bind fun x10 =>
  (
   (bif (x10.Inf == 1) then
    (at? x2.1 s1).bind fun x11 =>
    (at? x11 s2).bind fun x12 =>
    some (x12.Inf == 0)
   else
    some false)).bind fun (y5 : Bool) =>
  (
   (bif y5 then
    some true
   else
    (at? x4.1 s1).bind fun x13 =>
    (at? x13 s2).bind fun x14 =>
    (
     (bif (x14.Inf == 0) then
      (at? x2.1 s1).bind fun x15 =>
      (at? x15 s2).bind fun x16 =>
      some (x16.Inf == 0)
     else
      some false)).bind fun (y7 : Bool) =>
    (
     (bif y7 then
      (at? x4.1 s1).bind fun x17 =>
      (at? x17 s2).bind fun x18 =>
      (at? x2.1 s1).bind fun x19 =>
      (at? x19 s2).bind fun x20 =>
      some (decide (x18.N > x20.N))
     else
      some false)).bind fun (y8 : Bool) =>
    some y8)).bind fun (y6 : Bool) =>
  (bif y6 then
   some (.inr (.ret false))
  else
   some (.inl (w64 (s2 + 1))))
 else
  some (.inr (.go ())))
def ZD.s0 (x2 : (List (List Bound)) × Bool × Int) (x4 : (List (List Bound)) × Bool × Int) (s1 : Int) : Option ((Int) ⊕ (Jx (Unit) (Bool))) :=
 (bif (decide (s1 < (x2.1.length : Int))) then
  (loopO (ZD.s1 x2 x4 s1) 0).bind fun (y4 : Jx (Unit) (Bool)) =>
  y4.elim (fun r' =>
    some (.inr (.ret r'))) fun a3 =>
  some (.inl (w64 (s1 + 1)))
 else
  some (.inr (.go ())))
def ZD (n : Int) (l : (List epactlaw24_Set)) (x' : epactlaw24_Set) : Option (Bool) :=
 (ZT (IntKind.u8.wrap (1 + (n.tmod 23))) l).bind fun x1 =>
 (bif (decide ((x1.length : Int) < 2)) then
  some false
 else
  (nz? (x1.length : Int)).bind fun u1 =>
  (nz? (x1.length : Int)).bind fun u2 =>
  (bif (((iAnd .i64 x'.I 255).tmod (x1.length : Int)) == ((iAnd .i64 x'.J 255).tmod (x1.length : Int))) then
   some ZM
  else
   (Z7 x1).bind fun x2 =>
   (Z1z x1 ((iAnd .i64 x'.I 255).tmod (x1.length : Int)) ((iAnd .i64 x'.J 255).tmod (x1.length : Int)) (Bound.mk 0 (x'.Most.N.tmod 1001))).bind fun x3 =>
   (Z7 x3.1).bind fun x4 =>
   (bif ((((x2.2.2 != 0) || (x3.2 != 0)) || (x4.2.2 != 0)) || (x4.2.1 && (!x2.2.1))) then
    some false
   else
    (bif (!x2.2.1) then
     some ZM
    else
     (ZA x2.1 (x1.length : Int)).bind fun x5 =>
     (
      (bif (!x5) then
       some true
      else
       (
        (bif x4.2.1 then
         (ZA x4.1 (x1.length : Int)).bind fun x6 =>
         some (!x6)
        else
         some false)).bind fun (y2 : Bool) =>
       some y2)).bind fun (y1 : Bool) =>
     (bif y1 then
      some false
     else
      (bif (!x4.2.1) then
       (at? x2.1 ((iAnd .i64 x'.J 255).tmod (x1.length : Int))).bind fun x7 =>
       (at? x7 ((iAnd .i64 x'.I 255).tmod (x1.length : Int))).bind fun x8 =>
       some (((x8.Inf == 0) && (decide ((w64 (x8.N + (x'.Most.N.tmod 1001))) < 0))) && ZM)
      else
       (loopO (ZD.s0 x2 x4) 0).bind fun (y3 : Jx (Unit) (Bool)) =>
       y3.elim (fun r' =>
         some r') fun a4 =>
       (at? x4.1 ((iAnd .i64 x'.I 255).tmod (x1.length : Int))).bind fun x21 =>
       (at? x21 ((iAnd .i64 x'.J 255).tmod (x1.length : Int))).bind fun x22 =>
       (
        (bif (x22.Inf == 0) then
         (at? x4.1 ((iAnd .i64 x'.I 255).tmod (x1.length : Int))).bind fun x23 =>
         (at? x23 ((iAnd .i64 x'.J 255).tmod (x1.length : Int))).bind fun x24 =>
         some (decide (x24.N ≤ (x'.Most.N.tmod 1001)))
        else
         some false)).bind fun (y9 : Bool) =>
       some (y9 && ZM)))))))
end
end Go.Dn

namespace Go.Dn
open Go
noncomputable section
def Le {α : Type} (a b : Option α) : Prop := ∀ r, a = some r → b = some r
theorem Le.refl {α : Type} (a : Option α) : Le a a := fun _ h => h
theorem Le.bind {α β : Type} {a b : Option α} {f g : α → Option β} (h : Le a b) (hf : ∀ x, Le (f x) (g x)) : Le (a.bind f) (b.bind g) := fun r hr => by
 cases ha : a with
 | none => rw [ha] at hr; cases hr
 | some x => rw [ha] at hr; rw [h x ha]; exact hf x r hr
theorem Le.cond {α : Type} {c : Bool} {a b a' b' : Option α} (h : Le a a') (h' : Le b b') : Le (bif c then a else b) (bif c then a' else b') := by
 cases c
 ·exact h'
 ·exact h
theorem Le.elim {A B C : Type} {y : Jx A B} {f f' : B → Option C} {g g' : A → Option C} (h : ∀ r, Le (f r) (f' r)) (h' : ∀ a, Le (g a) (g' a)) : Le (y.elim f g) (y.elim f' g') := by
 cases y
 ·exact h' _
 ·exact h _
theorem Le.rangeY {S T : Type} {f g : S → T → Option (S × Nat)} (h : ∀ s t, Le (f s t) (g s t)) (s : S × Nat) (t : T) : Le (rangeY f s t) (rangeY g s t) := fun r hr => by
 unfold Go.Dn.rangeY at hr ⊢
 split at hr
 ·rename_i h0;rw [if_pos h0];cases ha : f s.1 t with
  | none => rw [ha] at hr; cases hr
  | some x => rw [ha] at hr; rw [h _ _ x ha]; exact hr
 ·cases hr
def Z1u {S R : Type} (step : S → Option (S ⊕ R)) (s : S) : Option R := Z1Z step 1000000 s
theorem iterO_le {S R : Type} {step step' : S → Option (S ⊕ R)} (h : ∀ s, Le (step s) (step' s)) : ∀ (n : Nat) (s : S), Le (Z1Z step n s) (Z1Z step' n s)
 | 0, s => fun r hr => by cases hr
 | n + 1, s => fun r hr => by
  simp only [Z1Z] at hr ⊢;cases hs : step s with
  | none => rw [hs] at hr; cases hr
  | some x =>
   rw [hs] at hr;rw [h s x hs];cases x with
   | inl s' => exact iterO_le h n s' r hr
   | inr r' => exact hr
theorem Le.loop {S R : Type} {step step' : S → Option (S ⊕ R)} {s : S} (h : ∀ s, Le (step s) (step' s)) : Le (Z1u step s) (loopO step' s) := fun r hr => Zc.2 ⟨1000000, iterO_le h _ s r hr⟩
def Z06 (x' : (List Bound)) (count : Int) : Option ((List Bound)) :=
 (bif (decide (count < 0)) then
  none
 else
  (bif ((decide (((ZB (IntKind.u64.wrap (x'.length : Int)) (IntKind.u64.wrap count)).1) > 0)) || (decide (((ZB (IntKind.u64.wrap (x'.length : Int)) (IntKind.u64.wrap count)).2) > 9223372036854775807))) then
   none
  else
   (new? 16 (w64 ((ZB (IntKind.u64.wrap (x'.length : Int)) (IntKind.u64.wrap count)).2)) (Bound.mk 0 0)).bind fun x1 =>
   (Z1u (Z9.s0 x' count) (((min x'.length x1.length : Nat) : Int), (cpy x1 x'))).bind fun (y1 : (List Bound)) =>
   some y1))
theorem Z1Y {x' : (List Bound)} {count : Int} : Le (Z06 x' count) (Z9 x' count) := by
 unfold Z06 Z9
 repeat' (with_reducible (first | exact Le.refl _ | apply Le.bind | apply Le.cond | apply Le.loop | intro _))
def Z0i.s0 (n : Int) (s1 : Int × (List (List Bound))) : Option ((Int × (List (List Bound))) ⊕ ((List (List Bound)))) :=
 (bif (decide (s1.1 < n)) then
  (Z06 [(Bound.mk 1 0)] n).bind fun x2 =>
  (at? s1.2 s1.1).bind fun x3 =>
  (at? (s1.2.set (s1.1).toNat x2) s1.1).bind fun x4 =>
  (at? x4 s1.1).bind fun x5 =>
  some (.inl ((w64 (s1.1 + 1)), ((s1.2.set (s1.1).toNat x2).set (s1.1).toNat (x4.set (s1.1).toNat (Bound.mk 0 0)))))
 else
  some (.inr s1.2))
theorem Z5U {n : Int} {s1 : Int × (List (List Bound))} : Le (Z0i.s0 n s1) (Z0b.s0 n s1) := by
 unfold Z0i.s0 Z0b.s0
 repeat' (with_reducible (first | exact Le.refl _ | apply Le.bind | apply Le.cond | apply Z1Y | intro _))
def Z0i (n : Int) : Option ((List (List Bound)) × Int) :=
 (bif ((decide (n < 0)) || (decide (n > 24))) then
  some ([], 2)
 else
  (new? 24 n []).bind fun x1 =>
  (Z1u (Z0i.s0 n) (0, x1)).bind fun (y1 : (List (List Bound))) =>
  some (y1, 0))
theorem Z4N {n : Int} : Le (Z0i n) (Z0b n) := by
 unfold Z0i Z0b
 repeat' (with_reducible (first | exact Le.refl _ | apply Le.bind | apply Le.cond | apply Le.loop | apply Z5U | intro _))
def ZF.s0 (s : (List (List Bound))) (f : (List Bound) → Option Bool) (s1 : Int) : Option ((Int) ⊕ (Jx (Unit) (Int))) :=
 (bif (decide (s1 < (s.length : Int))) then
  (at? s s1).bind fun x1 =>
  (f x1).bind fun x2 =>
  (bif x2 then
   some (.inr (.ret s1))
  else
   some (.inl (w64 (s1 + 1))))
 else
  some (.inr (.go ())))
theorem Z0g {s : (List (List Bound))} {f f_ : (List Bound) → Option Bool} {s1 : Int} (h_f : ∀ z0, Le (f z0) (f_ z0)) : Le (ZF.s0 s f s1) (Z5.s0 s f_ s1) := by
 unfold ZF.s0 Z5.s0
 repeat' (with_reducible (first | exact Le.refl _ | exact h_f _ | exact h_f | apply Le.bind | apply Le.cond | intro _))
def ZF (s : (List (List Bound))) (f : (List Bound) → Option Bool) : Option (Int) :=
 (Z1u (ZF.s0 s f) 0).bind fun (y1 : Jx (Unit) (Int)) =>
 y1.elim (fun r' =>
   some r') fun a2 =>
 some (-1)
theorem Z0y {s : (List (List Bound))} {f f_ : (List Bound) → Option Bool} (h_f : ∀ z0, Le (f z0) (f_ z0)) : Le (ZF s f) (Z5 s f_) := by
 unfold ZF Z5
 repeat' (with_reducible (first | exact Le.refl _ | exact h_f _ | exact h_f | apply Le.bind | apply Le.elim | apply Le.loop | apply Z0g | intro _))
def Zm (s : (List (List Bound))) (f : (List Bound) → Option Bool) : Option (Bool) :=
 (ZF s f).bind fun x1 =>
 some (decide (x1 ≥ 0))
theorem Z0h {s : (List (List Bound))} {f f_ : (List Bound) → Option Bool} (h_f : ∀ z0, Le (f z0) (f_ z0)) : Le (Zm s f) (ZE s f_) := by
 unfold Zm ZE
 repeat' (with_reducible (first | exact Le.refl _ | exact h_f _ | exact h_f | apply Le.bind | apply Z0y | intro _))
def ZK.s0 (s : (List Bound)) (f : Bound → Option Bool) (s1 : Int) : Option ((Int) ⊕ (Jx (Unit) (Int))) :=
 (bif (decide (s1 < (s.length : Int))) then
  (at? s s1).bind fun x1 =>
  (f x1).bind fun x2 =>
  (bif x2 then
   some (.inr (.ret s1))
  else
   some (.inl (w64 (s1 + 1))))
 else
  some (.inr (.go ())))
theorem Z0w {s : (List Bound)} {f f_ : Bound → Option Bool} {s1 : Int} (h_f : ∀ z0, Le (f z0) (f_ z0)) : Le (ZK.s0 s f s1) (Z8.s0 s f_ s1) := by
 unfold ZK.s0 Z8.s0
 repeat' (with_reducible (first | exact Le.refl _ | exact h_f _ | exact h_f | apply Le.bind | apply Le.cond | intro _))
def ZK (s : (List Bound)) (f : Bound → Option Bool) : Option (Int) :=
 (Z1u (ZK.s0 s f) 0).bind fun (y1 : Jx (Unit) (Int)) =>
 y1.elim (fun r' =>
   some r') fun a2 =>
 some (-1)
theorem Z1C {s : (List Bound)} {f f_ : Bound → Option Bool} (h_f : ∀ z0, Le (f z0) (f_ z0)) : Le (ZK s f) (Z8 s f_) := by
 unfold ZK Z8
 repeat' (with_reducible (first | exact Le.refl _ | exact h_f _ | exact h_f | apply Le.bind | apply Le.elim | apply Le.loop | apply Z0w | intro _))
def Zp (s : (List Bound)) (f : Bound → Option Bool) : Option (Bool) :=
 (ZK s f).bind fun x1 =>
 some (decide (x1 ≥ 0))
theorem Z0v {s : (List Bound)} {f f_ : Bound → Option Bool} (h_f : ∀ z0, Le (f z0) (f_ z0)) : Le (Zp s f) (ZJ s f_) := by
 unfold Zp ZJ
 repeat' (with_reducible (first | exact Le.refl _ | exact h_f _ | exact h_f | apply Le.bind | apply Z1C | intro _))
def Z2I (row : (List Bound)) (p1' : Int) : Option (Bool) :=
 (
  (bif ((row.length : Int) != p1') then
   some true
  else
   (Zp row (fun z0 => some (Z1p z0))).bind fun x1 =>
   some x1)).bind fun (y1 : Bool) =>
 some y1
theorem Z4q {row : (List Bound)} {p1' : Int} : Le (Z2I row p1') (Z1F row p1') := by
 unfold Z2I Z1F
 repeat' (with_reducible (first | exact Le.refl _ | apply Le.bind | apply Le.cond | apply Z0v | intro _))
def Z1T (d : (List (List Bound))) : Option (Bool) :=
 (
  (bif (decide ((d.length : Int) ≤ 24)) then
   (Zm d (fun z0 => Z2I z0 (d.length : Int))).bind fun x1 =>
   some (!x1)
  else
   some false)).bind fun (y1 : Bool) =>
 some y1
theorem Z2H {d : (List (List Bound))} : Le (Z1T d) (Z0r d) := by
 unfold Z1T Z0r
 repeat' (with_reducible (first | exact Le.refl _ | apply Le.bind | apply Le.cond | apply Z0h | apply Z4q | intro _))
def Z3p (d : (List (List Bound))) (i : Int) (j : Int) (most : Bound) : Option ((List (List Bound)) × Int) :=
 (Z1T d).bind fun x1 =>
 (bif ((((((!x1) || (decide (i < 0))) || (decide (j < 0))) || (decide (i ≥ (d.length : Int)))) || (decide (j ≥ (d.length : Int)))) || (!(Z1l most))) then
  some ([], 2)
 else
  (Z1w d).bind fun x2 =>
  (
   (at? x2 i).bind fun x3 =>
   (at? x3 j).bind fun x4 =>
   (bif (Z03 most x4) then
    (at? x2 i).bind fun x5 =>
    (at? x5 j).bind fun x6 =>
    some (x2.set (i).toNat (x5.set (j).toNat most))
   else
    some x2)).bind fun (y1 : (List (List Bound))) =>
  some (y1, 0))
theorem evle_stp_Set {d : (List (List Bound))} {i : Int} {j : Int} {most : Bound} : Le (Z3p d i j most) (Z1z d i j most) := by
 unfold Z3p Z1z
 repeat' (with_reducible (first | exact Le.refl _ | apply Le.bind | apply Le.cond | apply Z2H | intro _))
def Zd.s0 (l : (List epactlaw24_Set)) (s1 : (List (List Bound)) × Int × Int) : Option (((List (List Bound)) × Int × Int) ⊕ ((List (List Bound)) × Int)) :=
 (bif (decide (s1.2.2 < (l.length : Int))) then
  (
   (
    (at? l s1.2.2).bind fun x2 =>
    (bif (s1.2.1 == 0) then
     (Z3p s1.1 x2.I x2.J x2.Most).bind fun x3 =>
     some (x3.1, x3.2)
    else
     some (s1.1, s1.2.1))).bind fun (y3 : (List (List Bound)) × Int) =>
   some (y3.1, y3.2)).bind fun (y2 : (List (List Bound)) × Int) =>
  some (.inl (y2.1, y2.2, (w64 (s1.2.2 + 1))))
 else
  some (.inr (s1.1, s1.2.1)))
theorem Z2b {l : (List epactlaw24_Set)} {s1 : (List (List Bound)) × Int × Int} : Le (Zd.s0 l s1) (ZH.s0 l s1) := by
 unfold Zd.s0 ZH.s0
 repeat' (with_reducible (first | exact Le.refl _ | apply Le.bind | apply Le.cond | apply evle_stp_Set | intro _))
def Zd (n : Int) (l : (List epactlaw24_Set)) : Option ((List (List Bound)) × Bool) :=
 (Z0i n).bind fun x1 =>
 (Z1u (Zd.s0 l) (x1.1, x1.2, 0)).bind fun (y1 : (List (List Bound)) × Int) =>
 some (y1.1, (y1.2 == 0))
theorem Z3B {n : Int} {l : (List epactlaw24_Set)} : Le (Zd n l) (ZH n l) := by
 unfold Zd ZH
 repeat' (with_reducible (first | exact Le.refl _ | apply Le.bind | apply Le.loop | apply Z4N | apply Z2b | intro _))
def Zl.s2 (d : (List (List Bound))) (s2 : Int × (List (List Bound))) (s3 : Int × (List (List Bound))) : Option ((Int × (List (List Bound))) ⊕ ((List (List Bound)))) :=
 (bif (decide (s3.1 < ((d.length : Nat) : Int))) then
  (Z1u (Z7.s3 d s2 s3) (0, s3.2)).bind fun (y5 : (List (List Bound))) =>
  some (.inl ((w64 (s3.1 + 1)), y5))
 else
  some (.inr s3.2))
theorem Z48 {d : (List (List Bound))} {s2 : Int × (List (List Bound))} {s3 : Int × (List (List Bound))} : Le (Zl.s2 d s2 s3) (Z7.s2 d s2 s3) := by
 unfold Zl.s2 Z7.s2
 repeat' (with_reducible (first | exact Le.refl _ | apply Le.bind | apply Le.cond | apply Le.loop | intro _))
def Zl.s1 (d : (List (List Bound))) (s2 : Int × (List (List Bound))) : Option ((Int × (List (List Bound))) ⊕ (Jx ((List (List Bound))) ((List (List Bound)) × Bool × Int))) :=
 (bif (decide (s2.1 < ((d.length : Nat) : Int))) then
  (
   (Z1u (Zl.s2 d s2) (0, s2.2)).bind fun (y4 : (List (List Bound))) =>
   (Z1u (Z7.s4 d y4) 0).bind fun (y9 : Jx (Unit) (Unit)) =>
   y9.elim (fun a7 =>
     some (false, y4)) fun a6 =>
   some (true, y4)).bind fun (y3 : Bool × (List (List Bound))) =>
  (bif (!y3.1) then
   some (.inr (.ret ([], false, 0)))
  else
   some (.inl ((w64 (s2.1 + 1)), y3.2)))
 else
  some (.inr (.go s2.2)))
theorem Z4Q {d : (List (List Bound))} {s2 : Int × (List (List Bound))} : Le (Zl.s1 d s2) (Z7.s1 d s2) := by
 unfold Zl.s1 Z7.s1
 repeat' (with_reducible (first | exact Le.refl _ | apply Le.bind | apply Le.cond | apply Le.elim | apply Le.loop | apply Z48 | intro _))
def Zl (d : (List (List Bound))) : Option ((List (List Bound)) × Bool × Int) :=
 (Z1T d).bind fun x1 =>
 (bif (!x1) then
  some ([], false, 2)
 else
  (Z1w d).bind fun x2 =>
  (Z1u (Z7.s0 d) (0, x2)).bind fun (y1 : Jx ((List (List Bound))) ((List (List Bound)) × Bool × Int)) =>
  y1.elim (fun r' =>
    some r') fun a2 =>
  (Z1u (Zl.s1 d) (0, a2)).bind fun (y2 : Jx ((List (List Bound))) ((List (List Bound)) × Bool × Int)) =>
  y2.elim (fun r' =>
    some r') fun a8 =>
  some (a8, true, 0))
theorem Z5m {d : (List (List Bound))} : Le (Zl d) (Z7 d) := by
 unfold Zl Z7
 repeat' (with_reducible (first | exact Le.refl _ | apply Le.bind | apply Le.cond | apply Le.elim | apply Le.loop | apply Z2H | apply Z4Q | intro _))
def Z0O.s0 (d : (List (List Bound))) (ticks : (List Int)) (s1 : Int) : Option ((Int) ⊕ (Jx (Unit) (Bool))) :=
 (bif (decide (s1 < (d.length : Int))) then
  (at? d s1).bind fun x2 =>
  (Z1u (ZS.s1 ticks s1 x2) 0).bind fun (y2 : Jx (Unit) (Bool)) =>
  y2.elim (fun r' =>
    some (.inr (.ret r'))) fun a9 =>
  some (.inl (w64 (s1 + 1)))
 else
  some (.inr (.go ())))
theorem Z4V {d : (List (List Bound))} {ticks : (List Int)} {s1 : Int} : Le (Z0O.s0 d ticks s1) (ZS.s0 d ticks s1) := by
 unfold Z0O.s0 ZS.s0
 repeat' (with_reducible (first | exact Le.refl _ | apply Le.bind | apply Le.cond | apply Le.elim | apply Le.loop | intro _))
def Z0O (d : (List (List Bound))) (ticks : (List Int)) : Option (Bool) :=
 (Z1T d).bind fun x1 =>
 (bif ((!x1) || ((ticks.length : Int) != (d.length : Int))) then
  some false
 else
  (Z1u (Z0O.s0 d ticks) 0).bind fun (y1 : Jx (Unit) (Bool)) =>
  y1.elim (fun r' =>
    some r') fun a10 =>
  some true)
theorem Z5q {d : (List (List Bound))} {ticks : (List Int)} : Le (Z0O d ticks) (ZS d ticks) := by
 unfold Z0O ZS
 repeat' (with_reducible (first | exact Le.refl _ | apply Le.bind | apply Le.cond | apply Le.elim | apply Le.loop | apply Z2H | apply Z4V | intro _))
def Z0S (m : (List (List Bound))) (n : Int) : Option (Bool) :=
 (Z1u (ZA.s0 m n) 0).bind fun (y1 : Jx (Unit) (Bool)) =>
 y1.elim (fun r' =>
   some r') fun a2 =>
 some ((m.length : Int) == n)
theorem Z2y {m : (List (List Bound))} {n : Int} : Le (Z0S m n) (ZA m n) := by
 unfold Z0S ZA
 repeat' (with_reducible (first | exact Le.refl _ | apply Le.bind | apply Le.elim | apply Le.loop | intro _))
def Zq.s0 (a : (List (List Bound))) (b : (List (List Bound))) (s1 : Int) : Option ((Int) ⊕ (Jx (Unit) (Bool))) :=
 (bif (decide (s1 < (a.length : Int))) then
  (at? a s1).bind fun x1 =>
  (at? b s1).bind fun x2 =>
  (bif ((x1.length : Int) != (x2.length : Int)) then
   some (.inr (.ret false))
  else
   (Z1u (ZU.s1 a b s1) 0).bind fun (y2 : Jx (Unit) (Bool)) =>
   y2.elim (fun r' =>
     some (.inr (.ret r'))) fun a3 =>
   some (.inl (w64 (s1 + 1))))
 else
  some (.inr (.go ())))
theorem Z2m {a : (List (List Bound))} {b : (List (List Bound))} {s1 : Int} : Le (Zq.s0 a b s1) (ZU.s0 a b s1) := by
 unfold Zq.s0 ZU.s0
 repeat' (with_reducible (first | exact Le.refl _ | apply Le.bind | apply Le.cond | apply Le.elim | apply Le.loop | intro _))
def Zq (a : (List (List Bound))) (b : (List (List Bound))) : Option (Bool) :=
 (bif ((a.length : Int) != (b.length : Int)) then
  some false
 else
  (Z1u (Zq.s0 a b) 0).bind fun (y1 : Jx (Unit) (Bool)) =>
  y1.elim (fun r' =>
    some r') fun a4 =>
  some true)
theorem Z3U {a : (List (List Bound))} {b : (List (List Bound))} : Le (Zq a b) (ZU a b) := by
 unfold Zq ZU
 repeat' (with_reducible (first | exact Le.refl _ | apply Le.bind | apply Le.cond | apply Le.elim | apply Le.loop | apply Z2m | intro _))
def Z0j : Option (Bool) :=
 (Zd 2 [(epactlaw24_Set.mk 0 1 (Z1 5)), (epactlaw24_Set.mk 1 0 (Z1 (-2)))]).bind fun x1 =>
 (Zl x1.1).bind fun x2 =>
 (Zd 3 [(epactlaw24_Set.mk 0 1 (Z1 5)), (epactlaw24_Set.mk 1 0 (Z1 (-2))), (epactlaw24_Set.mk 1 2 (Z1 1))]).bind fun x3 =>
 (Zl x3.1).bind fun x4 =>
 (Zd 2 [(epactlaw24_Set.mk 0 1 (Z1 5)), (epactlaw24_Set.mk 1 0 (Z1 (-6)))]).bind fun x5 =>
 (Zl x5.1).bind fun x6 =>
 (Z0i 2).bind fun x7 =>
 (
  (bif ((((((((((!x1.2) || (!x3.2)) || (!x5.2)) || (!x2.2.1)) || (!x4.2.1)) || x6.2.1) || (x2.2.2 != 0)) || (x4.2.2 != 0)) || (x6.2.2 != 0)) || (x7.2 != 0)) then
   some true
  else
   (Z0S x4.1 3).bind fun x8 =>
   some (!x8))).bind fun (y1 : Bool) =>
 (
  (bif y1 then
   some true
  else
   (Z0S x7.1 2).bind fun x9 =>
   some (!x9))).bind fun (y2 : Bool) =>
 (bif y2 then
  some false
 else
  (Zq x2.1 x1.1).bind fun x10 =>
  (
   (bif x10 then
    (at? x4.1 0).bind fun x11 =>
    (at? x11 2).bind fun x12 =>
    some ((x12.Inf == ((Z1 6).Inf)) && ((x12.N == ((Z1 6).N)) && true))
   else
    some false)).bind fun (y3 : Bool) =>
  (
   (bif y3 then
    (at? x7.1 0).bind fun x13 =>
    (at? x13 0).bind fun x14 =>
    some ((x14.Inf == ((Z1 0).Inf)) && ((x14.N == ((Z1 0).N)) && true))
   else
    some false)).bind fun (y4 : Bool) =>
  (
   (bif y4 then
    (at? x7.1 0).bind fun x15 =>
    (at? x15 1).bind fun x16 =>
    some ((x16.Inf == 1) && ((x16.N == 0) && true))
   else
    some false)).bind fun (y5 : Bool) =>
  (
   (bif y5 then
    (Z0O x1.1 [3, 7]).bind fun x17 =>
    some x17
   else
    some false)).bind fun (y6 : Bool) =>
  (
   (bif y6 then
    (Z0O x1.1 [3, 9]).bind fun x18 =>
    some (!x18)
   else
    some false)).bind fun (y7 : Bool) =>
  some y7)
theorem Z2x : Le (Z0j) (Z0P) := by
 unfold Z0j Z0P
 repeat' (with_reducible (first | exact Le.refl _ | apply Le.bind | apply Le.cond | apply Z3B | apply Z5m | apply Z4N | apply Z2y | apply Z3U | apply Z5q | intro _))
theorem Z34 : Z0j = some true := by kernel_rfl
theorem Z2w : Z0P = some true := Z2x _ Z34
end
end Go.Dn

namespace Go.Dn
open Go Go.Proofs
set_option maxRecDepth 100000
set_option maxHeartbeats 4000000
abbrev vl {α : Type} (c : α → List FV) (x : List α) : PV := .v (.sl (x.map c))
abbrev vi (x : Int) : PV := .v (.int .i64 x)
abbrev vu (x : Int) : PV := .v (.int .u64 x)
abbrev vb (x : Bool) : PV := .v (.bool x)
section
theorem Ops.wt {X : Ctx} {n : Nat} {dr : Bool} {ops : Array Oper} {base i : Nat} {l : List Oper} {e : Env} {σ : Heap} {K : Env → Heap → Prop} {op : Op} {t : TypeId} {p : String} {af : Array Edge} {j : Nat} {g : Tmp} {w : Bool} {dst : Option Tmp} (hg : (ops[j]?).bind (·.dst) = some g) (he : e g = .v (.bool w)) (hk : Ops X n dr ops base i (⟨dst, op, t, p, af, none⟩ :: l) e σ K) : Ops X n dr ops base i (⟨dst, op, t, p, af, some (j, w)⟩ :: l) e σ K := .wanted hg he hk
variable {X : Ctx} {n : Nat} {dr : Bool} {ops : Array Oper} {base i : Nat} {l : List Oper} {e : Env} {σ : Heap} {K : Env → Heap → Prop} {d : Nat} {t t1 t2 : TypeId} {p : String} {af : Array Edge} {x y : Operand} {lo hi : Nat} {L : List Res}
theorem Ops.mv (v : PV) (hx : Z0 X e x = some v) (hd : Nat.blt d n = true) (hk : Ops X n dr ops base (i + 1) l (set e d v) σ K) : Ops X n dr ops base i (⟨some d, .move x, t, p, af, none⟩ :: l) e σ K := .move hx hd hk
theorem Ops.av (v : PV) (hx : Z0 X e x = some v) (hd : Nat.blt d n = true) (hk : Ops X n dr ops base (i + 1) l (set e d v) σ K) : Ops X n dr ops base i (⟨some d, .assign x, t, p, af, none⟩ :: l) e σ K := .assign hx hd hk
theorem Ops.it {op : BinOp} {k : IntKind} (m m' : Int) (r : FV) (hx : Z0 X e x = some (.v (.int k m))) (hy : Z0 X e y = some (.v (.int k m'))) (hop : (op != .shl && op != .shr) = true) (hr : Z3P op k m m' = some r) (hd : Nat.blt d n = true) (hk : Ops X n dr ops base (i + 1) l (set e d (.v r)) σ K) : Ops X n dr ops base i (⟨some d, .binOp op t1 x y t2, t, p, af, none⟩ :: l) e σ K := .int hx hy hop hr hd hk
theorem Ops.xt (v : PV) {vs : List PV} {j : Nat} (hx : Z0 X e x = some (.tup vs)) (hj : vs[j]? = some v) (hd : Nat.blt d n = true) (hk : Ops X n dr ops base (i + 1) l (set e d v) σ K) : Ops X n dr ops base i (⟨some d, .extract x j, t, p, af, none⟩ :: l) e σ K := .extract hx hj hd hk
theorem Ops.ld (v : PV) {id ver off : Nat} {te : TypeId} {cells : List PV} (H : Has σ lo hi L) (k : Nat) (hk : L[k]? = some (.blk id te cells)) (hv : cells.length = ver) (hx : Z0 X e x = some (.ptr id ver off)) (hg : tagg X.P t1 = some false) (hc : cells[off]? = some v) (ha : dr = true → Seen ops base i id false) (hd : Nat.blt d n = true) (hk' : Ops X n dr ops base (i + 1) l (set e d v) σ K) : Ops X n dr ops base i (⟨some d, .load t1 x, t, p, af, none⟩ :: l) e σ K := .loadH H k hk hv hx hg hc ha hd hk'
end
theorem sk {α : Type} {a b : α} (h : some a = some b) : b = a := (Option.some.inj h).symm
theorem V {α : Sort _} {a : α} : a = a := rfl
theorem U : True := trivial
theorem Has.wk {σ : Heap} {lo hi : Nat} {L : List Res} (H : Has σ lo hi L) {lo' : Nat} (h : lo ≤ lo') : Has σ lo' hi L := H.weak h (Y9 _)
theorem sj {α : Type} {a b : α} (h : some a = some b) : a = b := Option.some.inj h
theorem Z3w {x' : Int} {y : Int} {r : Int × Int} (h : Zk x' y = r) : Fn CX 49 [(vu x'), (vu y)] (.tup [(vu r.1), (vu r.2)]) := by
 refine Fn.go Try.func49 V fun σ H => ?_; unfold Zk at h; refine .tR 2 V H fun b1 σ H => (.aV V (.aV V (.nila H fun H => (.tR 3 V H fun b2 σ H => (.mV V (.iV V (.aV V (.nila H fun H => ?_)))))))); refine .tR 3 V H fun b3 σ H => (.mV V (.shr (m := x') (m' := 32) V V (by decide) V (.aV V (.nila H fun H => (.tR 3 V H fun b4 σ H => (.mV V (.iV V (.aV V ?_)))))))); refine .nila H fun H => (.tR 3 V H fun b5 σ H => (.mV V (.shr (m := y) (m' := 32) V V (by decide) V (.aV V (.nila H fun H => (.tR 4 V H fun b6 σ H => (.mV V (.mV V ?_)))))))); refine .iV V (.aV V (.nila H fun H => (.tR 7 V H fun b7 σ H => (.mV V (.mV V (.iV V (.mV V (.shr (m := (IntKind.u64.wrap ((iAnd .u64 x' 4294967295) * (iAnd .u64 y 4294967295)))) (m' := 32) V V (by decide) V ?_)))))))); refine .iV V (.aV V (.nila H fun H => (.tR 3 V H fun b8 σ H => (.mV V (.iV V (.aV V (.nila H fun H => (.tR 3 V H fun b9 σ H => ?_)))))))); refine .mV V (.shr (m := (IntKind.u64.wrap ((IntKind.u64.wrap ((x'.fdiv (2 ^ 32)) * (iAnd .u64 y 4294967295))) + ((IntKind.u64.wrap ((iAnd .u64 x' 4294967295) * (iAnd .u64 y 4294967295))).fdiv (2 ^ 32))))) (m' := 32) V V (by decide) V (.aV V (.nila H fun H => (.tR 6 V H fun b10 σ H => (.mV V (.mV V (.mV V (.iV V ?_)))))))); refine .iV V (.aV V (.nila H fun H => (.tR 9 V H fun b11 σ H => (.mV V (.mV V (.iV V (.mV V (.iV V ?_)))))))); refine .mV V (.shr (m := (IntKind.u64.wrap ((iAnd .u64 (IntKind.u64.wrap ((IntKind.u64.wrap ((x'.fdiv (2 ^ 32)) * (iAnd .u64 y 4294967295))) + ((IntKind.u64.wrap ((iAnd .u64 x' 4294967295) * (iAnd .u64 y 4294967295))).fdiv (2 ^ 32)))) 4294967295) + (IntKind.u64.wrap ((iAnd .u64 x' 4294967295) * (y.fdiv (2 ^ 32))))))) (m' := 32) V V (by decide) V (.iV V (.aV V (.nila H fun H => (.tR 4 V H fun b12 σ H => (.mV V (.mV V (.iV V ?_))))))))
 refine .aV V (.nila H fun H => (.ret ?_)); subst h; exact Ends.eR V
theorem Z4w {x' : Int} {y : Int} {r : Int × Int} (h : ZB x' y = r) : Fn CX 75 [(vu x'), (vu y)] (.tup [(vu r.1), (vu r.2)]) := by
 refine Fn.go Try.func75 V fun σ H => ?_; unfold ZB at h; refine .tR 2 V H fun b1 σ H => (.aV V (.aV V (.nila H fun H => (.then (.no V (.skip (.tR 8 V H fun b2 σ H => (.mV V ?_)))))))); refine .mV V (.cV (Z3w V) V (.m1 (.tup [(vu (Zk x' y).1), (vu (Zk x' y).2)]) V V (.xV V (.xV V (.aV V (.aV V (.nila H fun H => (.tR 4 V H fun b3 σ H => ?_)))))))); refine .mV V (.mV V (.aV V (.aV V (.nila H fun H => (.ret ?_))))); subst h; exact Ends.eR V
theorem Z1o {x' : (List Bound)} {count : Int} {r : (List Bound)} (h : Z9 x' count = some r) : FnO CX 63 [(vl Bound.cs x'), (vi count)] (fun q A => ∃ (w1 : PV), w1 = q ∧ A = [.sl w1 32 2 (r.map Bound.cs) true]) := by
 refine FnO.of Try.func63 V V V V V V ?_; intro σ T H; unfold Z9 at h; refine .tR 1 V H fun b1 σ H => (.a1 .nils V V (.nila H fun H => (.then (.tR 2 V H fun b2 σ H => (.mV V (.iV V (.nila H fun H => ?_))))))); refine .wh h V ?_ ?_ <;> intro h
 ·cases h
 refine .skip (.tR 11 V H fun b3 σ H => (.mV V (.nV V (.conv (m := (x'.length : Int)) V V V V (.mV V (.conv (m := count) V V V V (.cV (Z4w V) V (.m1 (.tup [(vu (ZB (IntKind.u64.wrap (x'.length : Int)) (IntKind.u64.wrap count)).1), (vu (ZB (IntKind.u64.wrap (x'.length : Int)) (IntKind.u64.wrap count)).2)]) V V ?_)))))))); refine .xV V (.xV V (.aV V (.aV V (.nila H fun H => (.then (.tR 6 V H fun b4 σ H => (.mV V (.iV V ?_)))))))); refine .mV V ?_; refine .md H 3 [(26, (vb ((decide (((ZB (IntKind.u64.wrap (x'.length : Int)) (IntKind.u64.wrap count)).1) > 0)) || (decide (((ZB (IntKind.u64.wrap (x'.length : Int)) (IntKind.u64.wrap count)).2) > 9223372036854775807))))), (0, (vl Bound.cs x')), (6, (vu (ZB (IntKind.u64.wrap (x'.length : Int)) (IntKind.u64.wrap count)).2))] (T) rfl ?_ fun e σ H => ?_
 ·refine .split V V ?_ ?_ <;> intro hc2
  ·refine .ps 2 V (.kT V (.nil ?_)); exact ⟨⟨or_T hc2, V, V, U⟩, H.wk (by omega)⟩
  ·refine .mV V (.iV V (.kF V (.nil ?_))); exact ⟨⟨or_F hc2, V, V, U⟩, H.wk (by omega)⟩
 refine .nila H fun H => ?_; refine .wh h V ?_ ?_ <;> intro h
 ·cases h
 refine .skip (.tR 4 V H fun b5 σ H => (.mV V (.conv (m := (ZB (IntKind.u64.wrap (x'.length : Int)) (IntKind.u64.wrap count)).2) V V V V ?_))); obtain ⟨x1, q1, h⟩ := bs h; refine .makeS (zs := [(.int .i8 0), (.int .i64 0)]) (cc := Bound.cs) H (by omega) (by omega) V V q1 V V V V V V V fun σ H => (.aB V (.nila H fun H => (.tR 4 V H fun b6 σ H => (.mB V (.mV V (.copyS (c := Bound.cs) (w := (vl Bound.cs x')) (xs := x1) (ys := x') H 0 V V V V (.m (fun _ => V)) V V nofun V fun σ H => (.aV V (.nila H fun H => ?_)))))))); refine .then (.inBlock ?_); refine .lp h (fun s1 => [(7, (.buf (b5 + 2) ((w64 ((ZB (IntKind.u64.wrap (x'.length : Int)) (IntKind.u64.wrap count)).2))).toNat 2)), (8, (vi s1.1))]) (fun s1 => (.sl (.buf (b5 + 2) ((w64 ((ZB (IntKind.u64.wrap (x'.length : Int)) (IntKind.u64.wrap count)).2))).toNat 2) 32 2 (s1.2.map Bound.cs) true :: T)) (.exit 0) (fun y1 => [(7, (.buf (b5 + 2) ((w64 ((ZB (IntKind.u64.wrap (x'.length : Int)) (IntKind.u64.wrap count)).2))).toNat 2))]) (fun y1 => (.sl (.buf (b5 + 2) ((w64 ((ZB (IntKind.u64.wrap (x'.length : Int)) (IntKind.u64.wrap count)).2))).toNat 2) 32 2 (y1.map Bound.cs) true :: T)) (EI V) H (fun s1 e σ H z h => ?_) fun y1 e σ H h => ?_
 ·unfold Z9.s0 at h; refine .then (.tR 4 V H fun b7 σ H => (.mV V (.mB V (.lenSt (c := Bound.cs) (xs := s1.2) H 0 V V V nofun V (.iV V (.nila H fun H => ?_)))))); refine .wh h V ?_ ?_ <;> intro h
  ·refine .skip (.inBlock (.Z1W 10 V (by kernel_rfl) H fun b8 σ H B8 => (.mV V (.mB V (.mV V ?_))))); obtain ⟨u1, q2, h⟩ := bs h; refine .viewA V V (cutA q2).1 (cutA q2).2 V V V V (.mB V (.mV V ?_)); obtain ⟨u2, q3, h⟩ := bs h; refine .viewB V V (cutB q3).1 (cutB q3).2 V V V V (.copyW (c := Bound.cs) (xs := s1.2) (a := (s1.1).toNat) (m := ((w64 ((ZB (IntKind.u64.wrap (x'.length : Int)) (IntKind.u64.wrap count)).2))).toNat) H 0 V V V (win_le q3) V V (fun _ => .inl ⟨B8 0 _ V _ V, (fun _ => by kernel_rfl), nofun⟩) V fun σ H => (.iV V (.aV V (.nila H fun H => ?_)))); obtain rfl := sj h; exact ⟨V, EI V, H⟩
  refine .exit ?_; obtain rfl := sj h; exact ⟨nofun, ⟨V, EI V, H⟩⟩
 refine .tR 2 V H fun b9 σ H => (.mB V (.aB V (.nila H fun H => (.ret ?_)))); obtain rfl := sj h; exact ⟨.inr V, _, Z1N H (.tmp (v := (.buf (b5 + 2) ((w64 ((ZB (IntKind.u64.wrap (x'.length : Int)) (IntKind.u64.wrap count)).2))).toNat 2)) V .nil), _, ⟨(.buf (b5 + 2) ((w64 ((ZB (IntKind.u64.wrap (x'.length : Int)) (IntKind.u64.wrap count)).2))).toNat 2), V, V⟩, H⟩
theorem Z5u {n : Int} {r : (List (List Bound)) × Int} (h : Z0b n = some r) : Fn CX 36 [(vi n)] (.tup [(vl (cL Bound.cs) r.1), (vi r.2)]) := by
 refine Fn.go Try.func36 V fun σ H => ?_; unfold Z0b at h; refine .tR 2 V H fun b1 σ H => (.a1 .nils V V (.aV V (.nila H fun H => (.then (.tR 6 V H fun b2 σ H => (.mV V (.iV V (.mV V ?_)))))))); refine .md H 3 [(11, (vb ((decide (n < 0)) || (decide (n > 24))))), (0, (vi n))] [] rfl ?_ fun e σ H => ?_
 ·refine .split V V ?_ ?_ <;> intro hc1
  ·refine .ps 2 V (.kT V (.nil ?_)); exact ⟨⟨or_T hc1, V, U⟩, H.wk (by omega)⟩
  ·refine .mV V (.iV V (.kF V (.nil ?_))); exact ⟨⟨or_F hc1, V, U⟩, H.wk (by omega)⟩
 refine .nila H fun H => ?_; refine .wh h V ?_ ?_ <;> intro h
 ·refine .tR 2 V H fun b3 σ H => (.a1 .nils V V (.aV V (.nila H fun H => (.ret ?_)))); obtain rfl := sj h; exact (Ends.H (xs := [.nils, (vi 2)]) (.inr V) H (.tmp (v := .nils) V (.tmp (v := (vi 2)) V .nil)) (.two (.cons (.c .n) (.cons (.c (.v _)) .nil))))
 refine .skip (.tR 3 V H fun b4 σ H => (.mV V ?_)); obtain ⟨x1, q1, h⟩ := bs h; obtain ⟨hn1, hr1, hx1⟩ := new?_some q1; refine .makeM H (by omega) (by omega) V V hn1 hr1 V V V V V V fun σ H => ?_; have hMs1 : (List.replicate (n).toNat PV.nils).length = x1.length := by rw [hx1, Y02, Y02]
 have hNs1 : (List.replicate (n).toNat PV.nils).length = (n).toNat := Y02; replace H := Has.nilFam (c := Bound.cs) (rt := 32) (sz := 2) (T := []) [.blk (b4 + 1) 43 (List.replicate (n).toNat PV.nils)] H (n).toNat; rw [← hx1] at H; replace H : Has σ _ _ (.blk (b4 + 1) 43 (List.replicate (n).toNat PV.nils) :: (famL 32 2 Bound.cs (List.replicate (n).toNat PV.nils) x1 ++ [])) := H; refine .aB V (.nila H fun H => (.then (.tR 2 V H fun b5 σ H => (.mV V (.mV V (.nila H fun H => (.inBlock ?_))))))); obtain ⟨y1, hj1, h⟩ := bs h; obtain ⟨n1, hj1⟩ := Zc.1 hj1; refine .mono (Runs.loopO hj1 (fun s1 e σ => ∃ (ids3 : List PV), ids3.length = s1.2.length ∧ ids3.length = (n).toNat ∧ ZL e [(0, (vi n)), (4, (.buf (b4 + 1) ((n).toNat) 1)), (14, (vi n)), (15, (vi s1.1))] ∧ Hs σ (.blk (b4 + 1) 43 ids3 :: (famL 32 2 Bound.cs ids3 s1.2 ++ []))) (fun y1 x e σ => ∃ (ids4 : List PV), ids4.length = y1.length ∧ ids4.length = (n).toNat ∧ x = .exit 0 ∧ ZL e [(4, (.buf (b4 + 1) ((n).toNat) 1))] ∧ Hs σ (.blk (b4 + 1) 43 ids4 :: (famL 32 2 Bound.cs ids4 y1 ++ []))) ⟨(List.replicate (n).toNat PV.nils), hMs1, hNs1, EI V, H⟩ ?_) ?_
 ·intro s1 e σ hI z h; obtain ⟨ids3, hMids3, hNids3, he, H⟩ := hI; obtain ⟨e, rfl⟩ := he.ex; unfold Z0b.s0 at h; refine .tR 1 V H fun b6 σ H => (.iV V (.nila H fun H => (.then ?_))); refine .wh h V ?_ ?_ <;> intro h
  ·refine .skip (.then (.inBlock (.tR 2 V H fun b7 σ H => (.mV V (.aV V (.nila H fun H => (.tR 8 V H fun b8 σ H => (.mB V ?_)))))))); refine .mV V (.bV [(.v (.int .i8 1)), (vi 0)] V (.Z2t (sz := 2) ([(Bound.mk 1 0)].map Bound.cs) H (by omega) (by omega) V V V V V V V V V fun σ H => (.mV V ?_))); obtain ⟨x2, q2, h⟩ := bs h; refine .callFOX (xs := [(.buf (b8 + 3) 1 2), (vi n)]) (ys := [(vl Bound.cs [(Bound.mk 1 0)]), (vi n)]) H rfl (.cons (.c (.s 0 rfl)) (.cons (.c (.v _)) .nil)) (Z1o q2) rfl rfl rfl rfl nofun rfl ?_; rintro _ _ σ ⟨w1, rfl, rfl⟩ H; obtain ⟨x3, q3, h⟩ := bs h; obtain ⟨v1, hv1, hr2⟩ := Z2D (rt := 32) (sz := 2) (c := Bound.cs) hMids3 q3; refine .Z1e H 2 V hNids3 V V (at?_nn q3) (hNids3 ▸ Z1A hv1) V V nofun V ?_; have hw1 := Z1A hv1; refine .storeH (v := w1) (ys := [w1]) (cells' := (ids3.set (s1.1).toNat w1)) H 2 V hNids3 V V (H.slCells (k := 0) V) V V (Nat.ble_eq_true_of_le hw1) (Z62 hw1) nofun fun σ H => ?_; have hMs2 : (ids3.set (s1.1).toNat w1).length = (s1.2.set (s1.1).toNat x2).length := by rw [Yd, Yd]; exact hMids3
   have hNs2 : (ids3.set (s1.1).toNat w1).length = (n).toNat := by rw [Yd]; exact hNids3
   replace H : Has σ _ _ (.sl (.buf (b8 + 3) 1 2) 32 2 ([(Bound.mk 1 0)].map Bound.cs) false :: .blk (b4 + 1) 43 (ids3.set (s1.1).toNat w1) :: (famL 32 2 Bound.cs (ids3.set (s1.1).toNat w1) (s1.2.set (s1.1).toNat x2) ++ [])) := H.rowPut (k := 2) rfl hMids3 hw1; refine .nila H fun H => (.Zn 8 V H fun b9 σ H => (.mB V (.mV V ?_))); obtain ⟨x4, q4, h⟩ := bs h; obtain ⟨v2, hv2, hr3⟩ := Z2D (rt := 32) (sz := 2) (c := Bound.cs) hMs2 q4; refine .Z1e H 1 V hNs2 V V (at?_nn q4) (hNs2 ▸ Z1A hv2) V V nofun V ?_; refine .ld v2 H 1 V hNs2 V V hv2 nofun V (.mV V (.bV [(.v (.int .i8 0)), (vi 0)] V ?_)); obtain ⟨x5, q5, h⟩ := bs h; refine .Z2X H (2 + (s1.1).toNat) (Z0C 2 V hr3) V V (at?_map q5) V V nofun V ?_; intro id1 hv3; refine .storeSt (id := id1) (j := 0) (zs := [(.int .i8 0), (.int .i64 0)]) (u := x5) (u' := (Bound.mk 0 0)) H (2 + (s1.1).toNat) (Z0C 2 V hr3) hv3 (by simp) q5 V (by simp) V V V V V V nofun fun σ H => ?_; have hMs3 : (ids3.set (s1.1).toNat w1).length = ((s1.2.set (s1.1).toNat x2).set (s1.1).toNat (x4.set (s1.1).toNat (Bound.mk 0 0))).length := hMs2.trans (Yd ..).symm; replace H : Has σ _ _ (.sl (.buf (b8 + 3) 1 2) 32 2 ([(Bound.mk 1 0)].map Bound.cs) false :: .blk (b4 + 1) 43 (ids3.set (s1.1).toNat w1) :: (famL 32 2 Bound.cs (ids3.set (s1.1).toNat w1) ((s1.2.set (s1.1).toNat x2).set (s1.1).toNat (x4.set (s1.1).toNat (Bound.mk 0 0))) ++ [])) := H.famSet (k := 2) rfl hMs2 hv2; refine .nila H fun H => (.Zn 2 V H fun b10 σ H => (.iV V (.mV V (.nila H fun H => ?_))))
   obtain rfl := sj h; exact ⟨V, (ids3.set (s1.1).toNat w1), hMs3, hNs2, EI V, (H.erase 0)⟩
  refine .exit ?_; obtain rfl := sj h; exact ⟨nofun, ⟨ids3, hMids3, hNids3, V, EI V, H⟩⟩
 ·rintro x e σ ⟨ids5, hMids5, hNids5, rfl, he, H⟩; obtain ⟨e, rfl⟩ := he.ex; refine .tR 3 V H fun b11 σ H => (.mB V (.aB V (.aV V (.nila H fun H => (.ret ?_))))); obtain rfl := sj h; exact (Ends.M (c := Bound.cs) (T := []) (.inr V) H 0 V V hMids5 hNids5 (Z1N H (.tmp (v := (.buf (b4 + 1) ((n).toNat) 1)) V (.tmp (v := (vi 0)) V .nil))) V V)
theorem Z19 {s : (List (List Bound))} {f : (List Bound) → Option Bool} {C : List Res} {cv0 : PV} (hs0 : cv0.one = true) (hp0 : cv0.pure = true → C = []) (hf0 : ∀ z0 y, f z0 = some y → CloH CX cv0 [(vl Bound.cs z0)] (vb y) C) {r : Int} (h : Z5 s f = some r) : FnH CX 76 [(vl (cL Bound.cs) s), cv0] (vi r) C := by
 refine FnH.of Try.func76 V V V V (all_t V (all_t (Z3V hs0) all_nil)) V (fun h => hp0 (Z4C h 1 V)) ?_; intro σ L hC H; unfold Z5 at h; refine .tR 1 V H fun b1 σ H => (.aV V (.nila H fun H => (.then (.tR 3 V H fun b2 σ H => (.mV V (.nV V (.mV V (.nila H fun H => ?_)))))))); refine .inBlock ?_; obtain ⟨y1, hj1, h⟩ := bs h; obtain ⟨n1, hj1⟩ := Zc.1 hj1; refine .mono (Runs.loopO hj1 (fun s1 e σ => ZL e [(0, (vl (cL Bound.cs) s)), (1, cv0), (7, (vi (s.length : Int))), (8, (vi s1))] ∧ Hs σ (L)) (fun y1 x e σ => (∃ a1, y1 = (.go a1) ∧ x = .exit 0 ∧ ZL e [] ∧ Hs σ (L)) ∨ (∃ r', y1 = (.ret r') ∧ x = .ret ∧ EndsH CX Try.f76.results.toList (vi r') L x e σ)) ⟨EI V, H⟩ ?_) ?_
 ·intro s1 e σ hI z h; obtain ⟨he, H⟩ := hI; obtain ⟨e, rfl⟩ := he.ex; unfold Z5.s0 at h; refine .tR 1 V H fun b3 σ H => (.iV V (.nila H fun H => (.then ?_))); refine .wh h V ?_ ?_ <;> intro h
  ·refine .skip (.then (.inBlock (.tR 2 V H fun b4 σ H => (.mV V (.aV V (.nila H fun H => (.tR 6 V H fun b5 σ H => (.m1 cv0 V V ?_)))))))); refine .mV V (.mV V ?_); obtain ⟨x1, q1, h⟩ := bs h; refine .jV q1 V (.pV V ?_); obtain ⟨x2, q2, h⟩ := bs h; refine .callV (cv := cv0) (ys := [(vl Bound.cs x1)]) (r := (vb x2)) H V V (hf0 x1 _ q2) hC nofun V fun σ H => (.nila H fun H => ?_); refine .wh h V ?_ ?_ <;> intro h
   ·refine .tR 2 V H fun b6 σ H => (.mV V (.aV V (.nila H fun H => (.ret ?_)))); obtain rfl := sj h; exact ⟨nofun, (.inr ⟨_, V, V, (EndsH.H (xs := [(vi s1)]) (.inr V) H (.tmp (v := (vi s1)) V .nil) (.one (.c (.v _))) 0 V)⟩)⟩
   refine .skip (.Zn 2 V H fun b7 σ H => (.iV V (.mV V (.nila H fun H => ?_)))); obtain rfl := sj h; exact ⟨V, EI V, H⟩
  refine .exit ?_; obtain rfl := sj h; exact ⟨nofun, (.inl ⟨_, V, V, U, H⟩)⟩
 ·rintro x e σ (⟨a2, rfl, rfl, he, H⟩ | ⟨r', rfl, rfl, hE⟩)
  ·replace h := jgo h; obtain ⟨e, rfl⟩ := he.ex; refine .tR 1 V H fun b8 σ H => (.aV V (.nila H fun H => (.ret ?_))); obtain rfl := sj h; exact (EndsH.H (xs := [(vi (-1))]) (.inr V) H (.tmp (v := (vi (-1))) V .nil) (.one (.c (.v _))) 0 V)
  ·replace h := jret h; obtain rfl := sj h; exact hE
theorem Z0s {s : (List (List Bound))} {f : (List Bound) → Option Bool} {C : List Res} {cv0 : PV} (hs0 : cv0.one = true) (hp0 : cv0.pure = true → C = []) (hf0 : ∀ z0 y, f z0 = some y → CloH CX cv0 [(vl Bound.cs z0)] (vb y) C) {r : Bool} (h : ZE s f = some r) : FnH CX 66 [(vl (cL Bound.cs) s), cv0] (vb r) C := by
 refine FnH.of Try.func66 V V V V (all_t V (all_t (Z3V hs0) all_nil)) V (fun h => hp0 (Z4C h 1 V)) ?_; intro σ L hC H; unfold ZE at h; refine .tR 1 V H fun b1 σ H => (.aV V (.nila H fun H => (.tR 5 V H fun b2 σ H => (.mV V (.m1 cv0 V V ?_))))); obtain ⟨x1, q1, h⟩ := bs h; refine .callH (ys := [(vl (cL Bound.cs) s), cv0]) (r := (vi x1)) H V (Z19 (C := C) hs0 hp0 hf0 q1) hC nofun V fun σ H => (.iV V (.aV V (.nila H fun H => (.ret ?_)))); obtain rfl := sj h; exact (EndsH.H (xs := [(vb (decide (x1 ≥ 0)))]) (.inr V) H (.tmp (v := (vb (decide (x1 ≥ 0)))) V .nil) (.one (.c (.v _))) 0 V)
theorem Z1R {s : (List Bound)} {f : Bound → Option Bool} {C : List Res} {cv0 : PV} (hs0 : cv0.one = true) (hp0 : cv0.pure = true → C = []) (hf0 : ∀ z0 y, f z0 = some y → CloH CX cv0 [(.agg (vs (Bound.cs z0)))] (vb y) C) {r : Int} (h : Z8 s f = some r) : FnH CX 77 [(vl Bound.cs s), cv0] (vi r) C := by
 refine FnH.of Try.func77 V V V V (all_t V (all_t (Z3V hs0) all_nil)) V (fun h => hp0 (Z4C h 1 V)) ?_; intro σ L hC H; unfold Z8 at h; refine .tR 1 V H fun b1 σ H => (.aV V (.nila H fun H => (.then (.tR 3 V H fun b2 σ H => (.mV V (.nV V (.mV V (.nila H fun H => ?_)))))))); refine .inBlock ?_; obtain ⟨y1, hj1, h⟩ := bs h; obtain ⟨n1, hj1⟩ := Zc.1 hj1; refine .mono (Runs.loopO hj1 (fun s1 e σ => ZL e [(0, (vl Bound.cs s)), (1, cv0), (7, (vi (s.length : Int))), (8, (vi s1))] ∧ Hs σ (L)) (fun y1 x e σ => (∃ a1, y1 = (.go a1) ∧ x = .exit 0 ∧ ZL e [] ∧ Hs σ (L)) ∨ (∃ r', y1 = (.ret r') ∧ x = .ret ∧ EndsH CX Try.f77.results.toList (vi r') L x e σ)) ⟨EI V, H⟩ ?_) ?_
 ·intro s1 e σ hI z h; obtain ⟨he, H⟩ := hI; obtain ⟨e, rfl⟩ := he.ex; unfold Z8.s0 at h; refine .tR 1 V H fun b3 σ H => (.iV V (.nila H fun H => (.then ?_))); refine .wh h V ?_ ?_ <;> intro h
  ·refine .skip (.then (.inBlock (.tR 2 V H fun b4 σ H => (.mV V (.aV V (.nila H fun H => (.tR 6 V H fun b5 σ H => (.m1 cv0 V V ?_)))))))); refine .mV V (.mV V ?_); obtain ⟨x1, q1, h⟩ := bs h; refine .jV q1 V (.qV [(.int .i8 x1.Inf), (.int .i64 x1.N)] V ?_); obtain ⟨x2, q2, h⟩ := bs h; refine .callV (cv := cv0) (ys := [(.agg (vs (Bound.cs x1)))]) (r := (vb x2)) H V V (hf0 x1 _ q2) hC nofun V fun σ H => (.nila H fun H => ?_); refine .wh h V ?_ ?_ <;> intro h
   ·refine .tR 2 V H fun b6 σ H => (.mV V (.aV V (.nila H fun H => (.ret ?_)))); obtain rfl := sj h; exact ⟨nofun, (.inr ⟨_, V, V, (EndsH.H (xs := [(vi s1)]) (.inr V) H (.tmp (v := (vi s1)) V .nil) (.one (.c (.v _))) 0 V)⟩)⟩
   refine .skip (.Zn 2 V H fun b7 σ H => (.iV V (.mV V (.nila H fun H => ?_)))); obtain rfl := sj h; exact ⟨V, EI V, H⟩
  refine .exit ?_; obtain rfl := sj h; exact ⟨nofun, (.inl ⟨_, V, V, U, H⟩)⟩
 ·rintro x e σ (⟨a2, rfl, rfl, he, H⟩ | ⟨r', rfl, rfl, hE⟩)
  ·replace h := jgo h; obtain ⟨e, rfl⟩ := he.ex; refine .tR 1 V H fun b8 σ H => (.aV V (.nila H fun H => (.ret ?_))); obtain rfl := sj h; exact (EndsH.H (xs := [(vi (-1))]) (.inr V) H (.tmp (v := (vi (-1))) V .nil) (.one (.c (.v _))) 0 V)
  ·replace h := jret h; obtain rfl := sj h; exact hE
theorem Z14 {s : (List Bound)} {f : Bound → Option Bool} {C : List Res} {cv0 : PV} (hs0 : cv0.one = true) (hp0 : cv0.pure = true → C = []) (hf0 : ∀ z0 y, f z0 = some y → CloH CX cv0 [(.agg (vs (Bound.cs z0)))] (vb y) C) {r : Bool} (h : ZJ s f = some r) : FnH CX 68 [(vl Bound.cs s), cv0] (vb r) C := by
 refine FnH.of Try.func68 V V V V (all_t V (all_t (Z3V hs0) all_nil)) V (fun h => hp0 (Z4C h 1 V)) ?_; intro σ L hC H; unfold ZJ at h; refine .tR 1 V H fun b1 σ H => (.aV V (.nila H fun H => (.tR 5 V H fun b2 σ H => (.mV V (.m1 cv0 V V ?_))))); obtain ⟨x1, q1, h⟩ := bs h; refine .callH (ys := [(vl Bound.cs s), cv0]) (r := (vi x1)) H V (Z1R (C := C) hs0 hp0 hf0 q1) hC nofun V fun σ H => (.iV V (.aV V (.nila H fun H => (.ret ?_)))); obtain rfl := sj h; exact (EndsH.H (xs := [(vb (decide (x1 ≥ 0)))]) (.inr V) H (.tmp (v := (vb (decide (x1 ≥ 0)))) V .nil) (.one (.c (.v _))) 0 V)
theorem Z10 {a : Bound} {r : Bool} (h : ZQ a = r) : Fn CX 31 [(.agg (vs (Bound.cs a)))] (vb r) := by
 refine Fn.go Try.func31 V fun σ H => ?_; unfold ZQ at h; refine .tR 2 V H fun b1 σ H => (.boxH (cs := [(.v (.int .i8 a.Inf)), (vi a.N)]) H (by omega) (by omega) V V V fun σ H => (.aV V (.nila H fun H => (.tR 19 V H fun b2 σ H => (.fV H 0 V (.lV H 0 V (.iV V (.mV V ?_)))))))); refine .md H 14 [(20, (vb ((a.Inf == 0) || (((a.Inf == 1) || (a.Inf == (-1))) && (a.N == 0)))))] [] rfl ?_ fun e σ H => ?_
 ·refine .split V V ?_ ?_ <;> intro hc1
  ·refine .ps 13 V (.kT V (.nil ?_)); exact ⟨⟨or_T hc1, U⟩, (H.erase 0).wk (by omega)⟩
  ·refine .fV H 0 V (.lV H 0 V (.iV V (.mV V ?_))); refine .md H 4 [(14, (vb ((a.Inf == 1) || (a.Inf == (-1))))), (1, (.ptr (b1 + 0) 2 0)), (6, (vb false))] [.blk (b1 + 0) 32 [(.v (.int .i8 a.Inf)), (vi a.N)]] rfl ?_ fun e σ H => ?_
   ·refine .split V V ?_ ?_ <;> intro hc2
    ·refine .ps 3 V (.kT V (.nil ?_)); exact ⟨⟨or_T hc2, V, V, U⟩, H.wk (by omega)⟩
    ·refine .fV H 0 V (.lV H 0 V (.iV V (.kF V (.nil ?_)))); exact ⟨⟨or_F hc2, V, V, U⟩, H.wk (by omega)⟩
   refine .mV V ?_; refine .md H 4 [(19, (vb (((a.Inf == 1) || (a.Inf == (-1))) && (a.N == 0)))), (6, (vb false))] [] rfl ?_ fun e σ H => ?_
   ·refine .split V V ?_ ?_ <;> intro hc3
    ·refine .fV H 0 V (.lV H 0 V (.iV V (.kT V (.nil ?_)))); exact ⟨⟨Z2h hc3, V, U⟩, (H.erase 0).wk (by omega)⟩
    ·refine .ps 3 V (.kF V (.nil ?_)); exact ⟨⟨Z2n hc3, V, U⟩, (H.erase 0).wk (by omega)⟩
   refine .kF V (.nil ?_); exact ⟨⟨or_F hc1, U⟩, H.wk (by omega)⟩
 refine .aV V (.nila H fun H => (.ret ?_)); subst h; exact Ends.eR V
theorem Z5p {b : Bound} {r : Bool} (h : Z1l b = r) : Fn CX 65 [(.agg (vs (Bound.cs b)))] (vb r) := by
 refine Fn.go Try.func65 V fun σ H => ?_; unfold Z1l at h; refine .tR 2 V H fun b1 σ H => (.boxH (cs := [(.v (.int .i8 b.Inf)), (vi b.N)]) H (by omega) (by omega) V V V fun σ H => (.aV V (.nila H fun H => (.tR 18 V H fun b2 σ H => (.LV [(.v (.int .i8 b.Inf)), (vi b.N)] H 0 V (.cV (Z10 (V : ZQ b = _)) V (.mV V ?_))))))); refine .md H 4 [(9, (vb ((ZQ b) && (decide (b.Inf ≥ 0))))), (1, (.ptr (b1 + 0) 2 0))] [.blk (b1 + 0) 32 [(.v (.int .i8 b.Inf)), (vi b.N)]] V ?_ fun e σ H => ?_
 ·refine .split V V ?_ ?_ <;> intro hc1
  ·refine .fV H 0 V (.lV H 0 V (.iV V (.kT V (.nil ?_)))); exact ⟨⟨Z2h hc1, V, U⟩, H.wk (by omega)⟩
  ·refine .ps 3 V (.kF V (.nil ?_)); exact ⟨⟨Z2n hc1, V, U⟩, H.wk (by omega)⟩
 refine .mV V ?_; refine .md H 4 [(14, (vb (((ZQ b) && (decide (b.Inf ≥ 0))) && (decide (b.N ≥ (-1125899906842624)))))), (1, (.ptr (b1 + 0) 2 0))] [.blk (b1 + 0) 32 [(.v (.int .i8 b.Inf)), (vi b.N)]] V ?_ fun e σ H => ?_
 ·refine .split V V ?_ ?_ <;> intro hc2
  ·refine .fV H 0 V (.lV H 0 V (.iV V (.kT V (.nil ?_)))); exact ⟨⟨Z2h hc2, V, U⟩, H.wk (by omega)⟩
  ·refine .ps 3 V (.kF V (.nil ?_)); exact ⟨⟨Z2n hc2, V, U⟩, H.wk (by omega)⟩
 refine .mV V ?_; refine .md H 4 [(19, (vb ((((ZQ b) && (decide (b.Inf ≥ 0))) && (decide (b.N ≥ (-1125899906842624)))) && (decide (b.N ≤ 1125899906842624)))))] [] V ?_ fun e σ H => ?_
 ·refine .split V V ?_ ?_ <;> intro hc3
  ·refine .fV H 0 V (.lV H 0 V (.iV V (.kT V (.nil ?_)))); exact ⟨⟨Z2h hc3, U⟩, (H.erase 0).wk (by omega)⟩
  ·refine .ps 3 V (.kF V (.nil ?_)); exact ⟨⟨Z2n hc3, U⟩, (H.erase 0).wk (by omega)⟩
 refine .aV V (.nila H fun H => (.ret ?_)); subst h; exact Ends.eR V
theorem Z5W {b : Bound} {r : Bool} (h : Z1p b = r) : Fn CX 64 [(.agg (vs (Bound.cs b)))] (vb r) := by
 refine Fn.go Try.func64 V fun σ H => ?_; unfold Z1p at h; refine .tR 2 V H fun b1 σ H => (.boxH (cs := [(.v (.int .i8 b.Inf)), (vi b.N)]) H (by omega) (by omega) V V V fun σ H => (.aV V (.nila H fun H => (.tR 4 V H fun b2 σ H => (.LV [(.v (.int .i8 b.Inf)), (vi b.N)] H 0 V (.cV (Z5p (V : Z1l b = _)) V (.tV V (.aV V ?_)))))))); refine .nila H fun H => (.ret ?_); subst h; exact Ends.eR V
theorem Z63 {row : (List Bound)} {p1' : Int} {id0' : Nat} {id1' : Nat} {r : Bool} (h : Z1F row p1' = some r) : FnH CX 67 [(vl Bound.cs row), (.ptr id0' 1 0), (.ptr id1' 1 0)] (vb r) [.blk id0' 3 [(vi p1')], .blk id1' 36 [(.v (.fn 64))]] := by
 refine FnH.of Try.func67 V V V V V V (fun h => by have := Z4C h 1 V; cases this) ?_; intro σ L hC H; have hC0 := hC; obtain ⟨k0', hk0', hC⟩ := hC.inv; obtain ⟨k1', hk1', hC⟩ := hC.inv; unfold Z1F at h; refine .tR 1 V H fun b1 σ H => (.aV V (.nila H fun H => (.tR 10 V H fun b2 σ H => (.mV V (.nV V (.ld (vi p1') H k0' hk0' V V V V nofun V (.iV V (.mV V ?_)))))))); obtain ⟨y1, hj1, h⟩ := bs h; refine .md H 4 [(13, (vb y1))] (L) V ?_ fun e σ H => ?_
 ·refine .sp hj1 V ?_ ?_ <;> intro h
  ·refine .ps 3 V (.kT V (.nil ?_)); obtain rfl := sj h; exact ⟨EI V, H.wk (by omega)⟩
  refine .mV V (.wt V V (.ld (.v (.fn 64)) H k1' hk1' V V V V nofun V (.wt V V ?_))); obtain ⟨x1, q1, h⟩ := bs h; refine .callH (ys := [(vl Bound.cs row), (.v (.fn 64))]) (r := (vb x1)) H V (Z14 (C := []) V (fun _ => V) (fun z0 y hz => (CloH.fn (Fn.toH (Z5W (Option.some.inj hz)) _))) q1) .nil nofun V fun σ H => (.kF V (.nil ?_)); obtain rfl := sj h; exact ⟨EI V, H.wk (by omega)⟩
 refine .aV V (.nila H fun H => (.ret ?_)); obtain rfl := sj h; exact (EndsH.H (xs := [(vb y1)]) (.inr V) H (.tmp (v := (vb y1)) V .nil) (.one (.c (.v _))) 0 V)
theorem Z31 {d : (List (List Bound))} {r : Bool} (h : Z0r d = some r) : Fn CX 38 [(vl (cL Bound.cs) d)] (vb r) := by
 refine Fn.go Try.func38 V fun σ H => ?_; unfold Z0r at h; refine .tR 1 V H fun b1 σ H => (.aV V (.nila H fun H => (.tR 4 V H fun b2 σ H => (.mV V (.nV V (.Z2U (cs := [(vi 0)]) H (by omega) (by omega) V V fun σ H => (.sV [(vi (d.length : Int))] H 0 V fun σ H => (.nila H fun H => ?_)))))))); refine .tR 2 V H fun b3 σ H => (.Z2U (cs := [(.v .nilf)]) H (by omega) (by omega) V V fun σ H => (.sV [(.v (.fn 64))] H 0 V fun σ H => (.nila H fun H => (.tR 9 V H fun b4 σ H => (.lV H 1 V (.iV V (.mV V ?_))))))); obtain ⟨y1, hj1, h⟩ := bs h; refine .md H 5 [(14, (vb y1))] [] V ?_ fun e σ H => ?_
 ·refine .sp hj1 V ?_ ?_ <;> intro h
  ·refine .mV V (.wt V V (.makeClo (fs := []) (cs := [(.ptr (b2 + 2) 1 0), (.ptr (b3 + 0) 1 0)]) V V V V (.wt V V ?_))); obtain ⟨x1, q1, h⟩ := bs h; refine .callH (ys := [(vl (cL Bound.cs) d), (.clo 67 [] [(.ptr (b2 + 2) 1 0), (.ptr (b3 + 0) 1 0)])]) (r := (vb x1)) H V (Z0s (C := [.blk (b2 + 2) 3 [(vi (d.length : Int))], .blk (b3 + 0) 36 [(.v (.fn 64))]]) V (fun h => by simp [PV.pure] at h) (fun z0 y hz => (CloH.clo (Z63 hz))) q1) (.cons 1 V (.cons 0 V .nil)) nofun V fun σ H => (.tV V (.kT V (.nil ?_))); obtain rfl := sj h; exact ⟨EI V, ((H.erase 1).erase 0).wk (by omega)⟩
  refine .ps 4 V (.kF V (.nil ?_)); obtain rfl := sj h; exact ⟨EI V, ((H.erase 1).erase 0).wk (by omega)⟩
 refine .aV V (.nila H fun H => (.ret ?_)); obtain rfl := sj h; exact Ends.eR V
theorem Z1h {s : (List (List Bound))} {r : (List (List Bound))} (h : Z0A s = some r) : FnO CX 78 [(vl (cL Bound.cs) s)] (fun q A => ∃ (w2 : PV), w2 = q ∧ A = [.sl w2 43 1 (r.map (cL Bound.cs)) true]) := by
 refine FnO.of Try.func78 V V V V V V ?_; intro σ T H; unfold Z0A at h; refine .tR 1 V H fun b1 σ H => (.a1 .nils V V (.nila H fun H => (.then (.tR 2 V H fun b2 σ H => (.mV V ?_))))); obtain ⟨u1, q1, h⟩ := bs h; refine .isNilV (c := (cL Bound.cs)) q1 V V V V (.nila H fun H => (.no V (.skip (.tR 4 V H fun b3 σ H => (.Z2t (sz := 1) ([].map (cL Bound.cs)) H (by omega) (by omega) V V V V V V V V V fun σ H => (.mV V ?_)))))); obtain ⟨x1, q2, h⟩ := bs h; refine .appendBt (c := (cL Bound.cs)) (w := (vl (cL Bound.cs) s)) (xs := []) (ys := s) H (by omega) (by omega) 0 V V V (.m (fun _ => V)) q2 V V V V V nofun V fun σ H => (.aB V (.nila H fun H => (.ret ?_))); obtain rfl := sj h; exact ⟨.inr V, _, Z1N H (.tmp (v := (.buf (b3 + 0) x1.length 1)) V .nil), _, ⟨(.buf (b3 + 0) x1.length 1), V, V⟩, H⟩
theorem Z1t {s : (List Bound)} {r : (List Bound)} (h : Z0M s = some r) : FnO CX 79 [(vl Bound.cs s)] (fun q A => ∃ (w2 : PV), w2 = q ∧ A = [.sl w2 32 2 (r.map Bound.cs) true]) := by
 refine FnO.of Try.func79 V V V V V V ?_; intro σ T H; unfold Z0M at h; refine .tR 1 V H fun b1 σ H => (.a1 .nils V V (.nila H fun H => (.then (.tR 2 V H fun b2 σ H => (.mV V ?_))))); obtain ⟨u1, q1, h⟩ := bs h; refine .isNilV (c := Bound.cs) q1 V V V V (.nila H fun H => (.no V (.skip (.tR 4 V H fun b3 σ H => (.Z2t (sz := 2) ([].map Bound.cs) H (by omega) (by omega) V V V V V V V V V fun σ H => (.mV V ?_)))))); obtain ⟨x1, q2, h⟩ := bs h; refine .appendBt (c := Bound.cs) (w := (vl Bound.cs s)) (xs := []) (ys := s) H (by omega) (by omega) 0 V V V (.m (fun _ => V)) q2 V V V V V nofun V fun σ H => (.aB V (.nila H fun H => (.ret ?_))); obtain rfl := sj h; exact ⟨.inr V, _, Z1N H (.tmp (v := (.buf (b3 + 0) x1.length 2)) V .nil), _, ⟨(.buf (b3 + 0) x1.length 2), V, V⟩, H⟩
theorem ownOK {d r : (List (List Bound))} (h : Z1w d = some r) : (∃ u, some? d = some u) ∧ d.length * 24 ≤ room ∧ (∀ q ∈ d, (∃ u, some? q = some u) ∧ q.length * 16 ≤ room) ∧ r = d := by
 unfold Z1w at h; have ne : ∀ {α : Type} {l : List α}, l.isEmpty = false → ∃ u, some? l = some u := fun {α l} h => match l, h with | _ :: _, _ => ⟨(), rfl⟩; cases hc : (!d.isEmpty && decide (d.length * 24 ≤ room) && d.all fun q => !q.isEmpty && decide (q.length * 16 ≤ room)) with
 | false => rw [hc] at h; cases h
 | true =>
  rw [hc] at h; cases h; simp only [Y8, YV, decide_eq_true_eq, YF] at hc; exact ⟨ne hc.1.1, hc.1.2, fun q hq => ⟨ne (hc.2 q hq).1, (hc.2 q hq).2⟩, V⟩
theorem Z5k {d : (List (List Bound))} {r : (List (List Bound))} (h : Z1w d = some r) : FnO CX 69 [(vl (cL Bound.cs) d)] (fun q A => ∃ (id : Nat) (ids : List PV), ids.length = r.length ∧ ids.length = d.length ∧ q = (.buf id d.length 1) ∧ A = (.blk id 43 ids :: famL 32 2 Bound.cs ids r)) := by
 obtain ⟨⟨u, hu⟩, hroom, hrows, rfl⟩ := ownOK h; refine FnO.of Try.func69 V V V V V V ?_; intro σ T H; refine .tR 1 V H fun b1 σ H => (.a1 .nils V V (.nila H fun H => (.tR 3 V H fun b2 σ H => (.mV V ?_)))); refine .callFO (ys := [(vl (cL Bound.cs) r)]) H rfl (Z1h (r := r) (by unfold Z0A app?; rw [hu, Y1, if_pos (by simpa using hroom)]; rfl)) nofun rfl ?_; rintro _ _ σ ⟨w1, rfl, rfl⟩ H; obtain ⟨id, hw, H2⟩ := H.toMat hu; subst hw; replace H := H2; clear H2; refine .aB V (.nila H fun H => (.then (.tR 3 V H fun b3 σ H => (.mB V (.lenM H 0 V (YI _) V V nofun V (.mV V (.nila H fun H => (.inBlock ?_)))))))); refine .mono (Runs.loop (Q := fun x e σ => x = .exit 0 ∧ ∃ ids : List PV, ids.length = r.length ∧ ZL e [(3, .buf id r.length 1)] ∧ Hs σ (.blk id 43 ids :: (famL 32 2 Bound.cs ids r ++ T))) (fun m e σ => ∃ (k : Nat) (ids : List PV), k + m = r.length ∧ ids.length = k ∧ ZL e [(3, .buf id r.length 1), (8, .v (.int .i64 r.length)), (9, .v (.int .i64 (k : Int)))] ∧ Hs σ (.blk id 43 (ids ++ (r.drop k).map fun q => PV.v (.sl (q.map Bound.cs))) :: (famL 32 2 Bound.cs ids (r.take k) ++ T))) (m := r.length) ⟨0, [], by omega, V, EI V, H⟩ ?_) ?_
 ·rintro m e σ ⟨k, ids, hkm, hk, he, H⟩; obtain ⟨e, rfl⟩ := he.ex; refine .tR 1 V H fun b4 σ H => (.iV V (.nila H fun H => (.then ?_))); refine .whether (v := (decide ((k : Int) < (r.length : Int)))) V ?_ ?_ <;> intro hc1
  ·have hlt : k < r.length := by simpa using hc1
   refine .skip (.then (.inBlock (.tR 2 V H fun b5 σ H => (.mV V (.aV V (.nila H fun H => (.Zn 9 V H fun b6 σ H => ?_))))))); have hcl : (ids ++ (r.drop k).map fun q => PV.v (.sl (q.map Bound.cs))).length = r.length := by simp; omega
   refine .mB V (.mV V (.mB V (.mV V (.Z1e H 0 V hcl V V (by omega) (by omega) V V nofun V ?_)))); have hcell : (ids ++ (r.drop k).map fun q => PV.v (.sl (q.map Bound.cs)))[((k : Int)).toNat]? = some (vl Bound.cs r[k]) := by
    rw [YP, YL (by omega), hk, Nat.sub_self, YH, YY, Y0Q, Y6 hlt]; rfl
   refine .ld (.v (.sl (r[k].map Bound.cs))) H 0 V hcl V V hcell nofun V ?_; obtain ⟨⟨u2, hu2⟩, hr2⟩ := hrows r[k] (Y0A hlt); refine .callFO (ys := [(vl Bound.cs r[k])]) H rfl (Z1t (r := r[k]) (by unfold Z0M app?; rw [hu2, Y1, if_pos (by simpa using hr2)]; rfl)) nofun rfl ?_; rintro _ _ σ ⟨w2, rfl, rfl⟩ H; refine .Z1e H 1 V hcl V V (by omega) (by omega) V V nofun V ?_; have hb : ((k : Int)).toNat + 1 ≤ (ids ++ (r.drop k).map fun q => PV.v (.sl (q.map Bound.cs))).length := by rw [hcl, YP]; omega
   refine .storeH (m := 1) (off := ((k : Int)).toNat) (v := w2) (ys := [w2]) (cells' := (ids ++ (r.drop k).map fun q => PV.v (.sl (q.map Bound.cs))).set ((k : Int)).toNat w2) H 1 V hcl V V (H.slCells (k := 0) V) V V (Nat.ble_eq_true_of_le hb) (Z62 (Nat.lt_of_succ_le hb)) nofun fun σ H => ?_; replace H := H.ownRow hk hlt; refine .nila H fun H => (.Zn 2 V H fun b7 σ H => (.iV V (.mV V (.nila H fun H => ?_)))); refine ⟨m - 1, by omega, k + 1, ids ++ [w2], by omega, by simp [hk], ⟨V, V, ?_, U⟩, H⟩
   show PV.v (.int .i64 (w64 ((k : Int) + 1))) = _
   have : w64 ((k : Int) + 1) = ((k + 1 : Nat) : Int) := by
    have h64 : r.length * 24 ≤ 140737488355328 := hroom
    show IntKind.i64.wrap _ = _
    rw [wrap_small (by omega) (by omega)]; push_cast; rfl
   rw [this]
  ·have hnl : ¬ (k : Int) < (r.length : Int) := by simpa using hc1
   have hge : k = r.length := by omega
   refine .exit ?_; subst hge; rw [List.take_length, List.drop_length, List.map_nil, YD] at H; exact ⟨V, ids, hk, EI V, H⟩
 ·rintro x e σ ⟨rfl, ids, hids, he, H⟩; obtain ⟨e, rfl⟩ := he.ex; refine .tR 2 V H fun b9 σ H => (.mB V (.aB V (.nila H fun H => (.ret ?_)))); exact ⟨.inr V, _, Z1N H (.tmp (v := (.buf id r.length 1)) V .nil), _, ⟨id, ids, hids, hids, V, V⟩, H⟩
theorem Z22 {a : Bound} {b : Bound} {r : Bool} (h : Z03 a b = r) : Fn CX 33 [(.agg (vs (Bound.cs a))), (.agg (vs (Bound.cs b)))] (vb r) := by
 refine Fn.go Try.func33 V fun σ H => ?_; unfold Z03 at h; refine .tR 3 V H fun b1 σ H => (.boxH (cs := [(.v (.int .i8 a.Inf)), (vi a.N)]) H (by omega) (by omega) V V V fun σ H => (.boxH (cs := [(.v (.int .i8 b.Inf)), (vi b.N)]) H (by omega) (by omega) V V V fun σ H => (.aV V (.nila H fun H => (.then (.inBlock (.tR 9 V H fun b2 σ H => (.LV [(.v (.int .i8 a.Inf)), (vi a.N)] H 1 V ?_)))))))); refine .cV (Z10 (V : ZQ a = _)) V (.tV V (.mV V ?_)); refine .md H 4 [(13, (vb ((!(ZQ a)) || (!(ZQ b))))), (2, (.ptr (b1 + 0) 2 0)), (3, (.ptr (b1 + 1) 2 0))] [.blk (b1 + 1) 32 [(.v (.int .i8 b.Inf)), (vi b.N)], .blk (b1 + 0) 32 [(.v (.int .i8 a.Inf)), (vi a.N)]] rfl ?_ fun e σ H => ?_
 ·refine .split V V ?_ ?_ <;> intro hc1
  ·refine .ps 3 V (.kT V (.nil ?_)); exact ⟨⟨or_T hc1, V, V, U⟩, H.wk (by omega)⟩
  ·refine .LV [(.v (.int .i8 b.Inf)), (vi b.N)] H 0 V (.cV (Z10 (V : ZQ b = _)) V (.tV V (.kF V (.nil ?_)))); exact ⟨⟨or_F hc1, V, V, U⟩, H.wk (by omega)⟩
 refine .aV V (.nila H fun H => ?_); refine .wh h V ?_ ?_ <;> intro h
 ·refine .tR 1 V H fun b3 σ H => (.aV V (.nila H fun H => (.ret ?_))); subst h; exact Ends.eR V
 refine .tR 6 V H fun b4 σ H => (.fV H 1 V (.lV H 1 V (.fV H 0 V (.lV H 0 V (.iV V (.aV V (.nila H fun H => ?_))))))); refine .wh h V ?_ ?_ <;> intro h
 ·refine .tR 6 V H fun b5 σ H => (.fV H 1 V (.lV H 1 V (.fV H 0 V (.lV H 0 V (.iV V (.aV V (.nila H fun H => (.ret ?_)))))))); subst h; exact Ends.eR V
 refine .skip (.tR 6 V H fun b6 σ H => (.fV H 1 V (.lV H 1 V (.fV H 0 V (.lV H 0 V (.iV V (.aV V (.nila H fun H => ?_)))))))); refine .ret ?_; subst h; exact Ends.eR V
theorem Z61 {d : (List (List Bound))} {i : Int} {j : Int} {most : Bound} {r : (List (List Bound)) × Int} (h : Z1z d i j most = some r) : Fn CX 41 [(vl (cL Bound.cs) d), (vi i), (vi j), (.agg (vs (Bound.cs most)))] (.tup [(vl (cL Bound.cs) r.1), (vi r.2)]) := by
 refine Fn.go Try.func41 V fun σ H => ?_; unfold Z1z at h; refine .tR 3 V H fun b1 σ H => (.boxH (cs := [(.v (.int .i8 most.Inf)), (vi most.N)]) H (by omega) (by omega) V V V fun σ H => (.a1 .nils V V (.aV V (.nila H fun H => (.then (.tR 28 V H fun b2 σ H => (.mV V ?_))))))); obtain ⟨x1, q1, h⟩ := bs h; refine .cV (Z31 q1) V (.tV V (.mV V ?_)); refine .md H 3 [(17, (vb ((!x1) || (decide (i < 0))))), (0, (vl (cL Bound.cs) d)), (1, (vi i)), (2, (vi j)), (7, (.ptr (b1 + 0) 2 0))] [.blk (b1 + 0) 32 [(.v (.int .i8 most.Inf)), (vi most.N)]] rfl ?_ fun e σ H => ?_
 ·refine .split V V ?_ ?_ <;> intro hc1
  ·refine .ps 2 V (.kT V (.nil ?_)); exact ⟨⟨or_T hc1, V, V, V, V, U⟩, H.wk (by omega)⟩
  ·refine .mV V (.iV V (.kF V (.nil ?_))); exact ⟨⟨or_F hc1, V, V, V, V, U⟩, H.wk (by omega)⟩
 refine .mV V ?_; refine .md H 3 [(21, (vb (((!x1) || (decide (i < 0))) || (decide (j < 0))))), (0, (vl (cL Bound.cs) d)), (1, (vi i)), (2, (vi j)), (7, (.ptr (b1 + 0) 2 0))] [.blk (b1 + 0) 32 [(.v (.int .i8 most.Inf)), (vi most.N)]] rfl ?_ fun e σ H => ?_
 ·refine .split V V ?_ ?_ <;> intro hc2
  ·refine .ps 2 V (.kT V (.nil ?_)); exact ⟨⟨or_T hc2, V, V, V, V, U⟩, H.wk (by omega)⟩
  ·refine .mV V (.iV V (.kF V (.nil ?_))); exact ⟨⟨or_F hc2, V, V, V, V, U⟩, H.wk (by omega)⟩
 refine .mV V ?_; refine .md H 5 [(27, (vb ((((!x1) || (decide (i < 0))) || (decide (j < 0))) || (decide (i ≥ (d.length : Int)))))), (0, (vl (cL Bound.cs) d)), (1, (vi i)), (2, (vi j)), (7, (.ptr (b1 + 0) 2 0))] [.blk (b1 + 0) 32 [(.v (.int .i8 most.Inf)), (vi most.N)]] rfl ?_ fun e σ H => ?_
 ·refine .split V V ?_ ?_ <;> intro hc3
  ·refine .ps 4 V (.kT V (.nil ?_)); exact ⟨⟨or_T hc3, V, V, V, V, U⟩, H.wk (by omega)⟩
  ·refine .mV V (.mV V (.nV V (.iV V (.kF V (.nil ?_))))); exact ⟨⟨or_F hc3, V, V, V, V, U⟩, H.wk (by omega)⟩
 refine .mV V ?_; refine .md H 5 [(33, (vb (((((!x1) || (decide (i < 0))) || (decide (j < 0))) || (decide (i ≥ (d.length : Int)))) || (decide (j ≥ (d.length : Int)))))), (0, (vl (cL Bound.cs) d)), (1, (vi i)), (2, (vi j)), (7, (.ptr (b1 + 0) 2 0))] [.blk (b1 + 0) 32 [(.v (.int .i8 most.Inf)), (vi most.N)]] rfl ?_ fun e σ H => ?_
 ·refine .split V V ?_ ?_ <;> intro hc4
  ·refine .ps 4 V (.kT V (.nil ?_)); exact ⟨⟨or_T hc4, V, V, V, V, U⟩, H.wk (by omega)⟩
  ·refine .mV V (.mV V (.nV V (.iV V (.kF V (.nil ?_))))); exact ⟨⟨or_F hc4, V, V, V, V, U⟩, H.wk (by omega)⟩
 refine .mV V ?_; refine .md H 4 [(38, (vb ((((((!x1) || (decide (i < 0))) || (decide (j < 0))) || (decide (i ≥ (d.length : Int)))) || (decide (j ≥ (d.length : Int)))) || (!(Z1l most))))), (0, (vl (cL Bound.cs) d)), (1, (vi i)), (2, (vi j)), (7, (.ptr (b1 + 0) 2 0))] [.blk (b1 + 0) 32 [(.v (.int .i8 most.Inf)), (vi most.N)]] rfl ?_ fun e σ H => ?_
 ·refine .split V V ?_ ?_ <;> intro hc5
  ·refine .ps 3 V (.kT V (.nil ?_)); exact ⟨⟨or_T hc5, V, V, V, V, U⟩, H.wk (by omega)⟩
  ·refine .LV [(.v (.int .i8 most.Inf)), (vi most.N)] H 0 V (.cV (Z5p (V : Z1l most = _)) V (.tV V (.kF V (.nil ?_)))); exact ⟨⟨or_F hc5, V, V, V, V, U⟩, H.wk (by omega)⟩
 refine .nila H fun H => ?_; refine .wh h V ?_ ?_ <;> intro h
 ·refine .tR 2 V H fun b3 σ H => (.a1 .nils V V (.aV V (.nila H fun H => (.ret ?_)))); obtain rfl := sj h; exact (Ends.H (xs := [.nils, (vi 2)]) (.inr V) H (.tmp (v := .nils) V (.tmp (v := (vi 2)) V .nil)) (.two (.cons (.c .n) (.cons (.c (.v _)) .nil))))
 refine .skip (.tR 3 V H fun b4 σ H => (.mV V ?_)); obtain ⟨x2, q2, h⟩ := bs h; refine .callFO (ys := [(vl (cL Bound.cs) d)]) H rfl (Z5k q2) nofun rfl ?_; rintro _ _ σ ⟨id1, ids1, hMids1, hNids1, rfl, rfl⟩ H; replace H : Has σ _ _ (.blk (b1 + 0) 32 [(.v (.int .i8 most.Inf)), (vi most.N)] :: .blk id1 43 ids1 :: (famL 32 2 Bound.cs ids1 x2 ++ [])) := Has.matLast (M := .blk id1 43 ids1 :: famL 32 2 Bound.cs ids1 x2) [.blk (b1 + 0) 32 [(.v (.int .i8 most.Inf)), (vi most.N)]] H; refine .aB V (.nila H fun H => (.then ?_)); obtain ⟨y1, hj1, h⟩ := bs h; refine .mono (Q := fun x e σ => ∃ (ids2 : List PV), ids2.length = y1.length ∧ ids2.length = d.length ∧ x = .normal ∧ ZL e [(10, (.buf id1 d.length 1))] ∧ Hs σ (.blk id1 43 ids2 :: (famL 32 2 Bound.cs ids2 y1 ++ []))) ?_ ?_
 ·replace h := hj1; refine .then (.Z1W 9 V (by kernel_rfl) H fun b5 σ H B5 => (.loadHA (cs := [(.v (.int .i8 most.Inf)), (vi most.N)]) H 0 V V V V V V V (fun _ => .inl ⟨B5 0 _ V _ V, nofun, (fun _ => by kernel_rfl)⟩) V (.mB V (.mV V ?_)))); obtain ⟨x3, q3, h⟩ := bs h; obtain ⟨v1, hv1, hr1⟩ := Z2D (rt := 32) (sz := 2) (c := Bound.cs) hMids1 q3; refine .Z1e H 1 V hNids1 V V (at?_nn q3) (hNids1 ▸ Z1A hv1) V V (fun _ => .inl ⟨B5 1 _ V _ V, nofun, (fun _ => by kernel_rfl)⟩) V ?_; refine .ld v1 H 1 V hNids1 V V hv1 (fun _ => .inl ⟨B5 1 _ V _ V, nofun, (fun _ => by kernel_rfl)⟩) V (.mV V ?_); obtain ⟨x4, q4, h⟩ := bs h; refine .Z2X H (2 + (i).toNat) (Z0C 2 V hr1) V V (at?_map q4) V V (fun _ id ho => .inl ⟨B5 (2 + (i).toNat) _ (Z0C 2 V hr1) id ho, nofun, (fun _ => by kernel_rfl)⟩) V ?_; intro id2 hv2; refine .Z55 (id := id2) H (2 + (i).toNat) (Z0C 2 V hr1) hv2 (by simp) (at?_map q4) V V V V (fun _ => .inl ⟨B5 (2 + (i).toNat) _ (Z0C 2 V hr1) _ (by rw [(hv2 : (v1 : PV) = _)]; rfl), nofun, (fun _ => by kernel_rfl)⟩) V ?_; refine .cV (Z22 (V : Z03 most x4 = _)) V (.nila H fun H => ?_); refine .wh h V ?_ ?_ <;> intro h
  ·refine .Z1W 8 V (by kernel_rfl) H fun b6 σ H B6 => (.mB V (.mV V ?_)); obtain ⟨x5, q5, h⟩ := bs h; obtain ⟨v2, hv3, hr2⟩ := Z2D (rt := 32) (sz := 2) (c := Bound.cs) hMids1 q5; refine .Z1e H 1 V hNids1 V V (at?_nn q5) (hNids1 ▸ Z1A hv3) V V (fun _ => .inl ⟨B6 1 _ V _ V, nofun, (fun _ => by kernel_rfl)⟩) V ?_; refine .ld v2 H 1 V hNids1 V V hv3 (fun _ => .inl ⟨B6 1 _ V _ V, nofun, (fun _ => by kernel_rfl)⟩) V (.mV V (.loadHA (cs := [(.v (.int .i8 most.Inf)), (vi most.N)]) H 0 V V V V V V V (fun _ => .inl ⟨B6 0 _ V _ V, nofun, (fun _ => by kernel_rfl)⟩) V ?_)); obtain ⟨x6, q6, h⟩ := bs h; refine .Z2X H (2 + (i).toNat) (Z0C 2 V hr2) V V (at?_map q6) V V (fun _ id ho => .inl ⟨B6 (2 + (i).toNat) _ (Z0C 2 V hr2) id ho, nofun, (fun _ => by kernel_rfl)⟩) V ?_; intro id3 hv4; refine .storeSt (id := id3) (j := 0) (zs := [(.int .i8 most.Inf), (.int .i64 most.N)]) (u := x6) (u' := most) H (2 + (i).toNat) (Z0C 2 V hr2) hv4 (by simp) q6 V (by simp) V V V V V V (fun _ => .inl ⟨B6 (2 + (i).toNat) _ (Z0C 2 V hr2) _ (by rw [(hv4 : (v2 : PV) = _)]; rfl), (fun _ => by kernel_rfl), nofun⟩) fun σ H => ?_; have hMs1 : ids1.length = (x2.set (i).toNat (x5.set (j).toNat most)).length := hMids1.trans (Yd ..).symm; replace H : Has σ _ _ (.blk (b1 + 0) 32 [(.v (.int .i8 most.Inf)), (vi most.N)] :: .blk id1 43 ids1 :: (famL 32 2 Bound.cs ids1 (x2.set (i).toNat (x5.set (j).toNat most)) ++ [])) := H.famSet (k := 2) rfl hMids1 hv3; refine .nila H fun H => ?_; obtain rfl := sj h
   exact ⟨ids1, hMs1, hNids1, V, EI V, (H.erase 0)⟩
  refine .skip ?_; obtain rfl := sj h; exact ⟨ids1, hMids1, hNids1, V, EI V, (H.erase 0)⟩
 ·rintro x e σ ⟨ids3, hMids3, hNids3, rfl, he, H⟩; obtain ⟨e, rfl⟩ := he.ex; refine .tR 3 V H fun b7 σ H => (.mB V (.aB V (.aV V (.nila H fun H => (.ret ?_))))); obtain rfl := sj h; exact (Ends.M (c := Bound.cs) (T := []) (.inr V) H 0 V V hMids3 hNids3 (Z1N H (.tmp (v := (.buf id1 d.length 1)) V (.tmp (v := (vi 0)) V .nil))) V V)
theorem Z0X {n : Int} {l : (List epactlaw24_Set)} {r : (List (List Bound)) × Bool} (h : ZH n l = some r) : Fn CX 61 [(vi n), (vl epactlaw24_Set.cs l)] (.tup [(vl (cL Bound.cs) r.1), (vb r.2)]) := by
 refine Fn.go Try.func61 V fun σ H => ?_; unfold ZH at h; refine .tR 2 V H fun b1 σ H => (.a1 .nils V V (.aV V (.nila H fun H => (.tR 7 V H fun b2 σ H => (.mV V ?_))))); obtain ⟨x1, q1, h⟩ := bs h; refine .cV (Z5u q1) V (.m1 (.tup [(vl (cL Bound.cs) x1.1), (vi x1.2)]) V V (.xV V (.xV V (.aV V (.aV V (.nila H fun H => (.then (.tR 3 V H fun b3 σ H => ?_)))))))); refine .mV V (.nV V (.mV V (.nila H fun H => (.inBlock ?_)))); refine .lp h (fun s1 => [(6, (vl (cL Bound.cs) s1.1)), (7, (vi s1.2.1)), (15, (vl epactlaw24_Set.cs l)), (16, (vi (l.length : Int))), (17, (vi s1.2.2))]) (fun s1 => []) (.exit 0) (fun y1 => [(6, (vl (cL Bound.cs) y1.1)), (7, (vi y1.2))]) (fun y1 => []) (EI V) H (fun s1 e σ H z h => ?_) fun y1 e σ H h => ?_
 ·unfold ZH.s0 at h; refine .tR 1 V H fun b4 σ H => (.iV V (.nila H fun H => (.then ?_))); refine .wh h V ?_ ?_ <;> intro h
  ·refine .skip (.then ?_); refine .jn h .normal (fun y2 => [(6, (vl (cL Bound.cs) y2.1)), (7, (vi y2.2)), (15, (vl epactlaw24_Set.cs l)), (16, (vi (l.length : Int))), (17, (vi s1.2.2))]) (fun y2 => []) (fun y2 h => ?_) fun y2 e σ H h => ?_
   ·refine .inBlock ?_; refine .jn h .normal (fun y3 => [(6, (vl (cL Bound.cs) y3.1)), (7, (vi y3.2)), (15, (vl epactlaw24_Set.cs l)), (16, (vi (l.length : Int))), (17, (vi s1.2.2))]) (fun y3 => []) (fun y3 h => ?_) fun y3 e σ H h => ?_
    ·refine .tR 4 V H fun b5 σ H => ?_; obtain ⟨x2, q2, h⟩ := bs h; refine .jV q2 V (.qV [(.int .i64 x2.I), (.int .i64 x2.J), (.int .i8 x2.Most.Inf), (.int .i64 x2.Most.N)] V (.Z2U (cs := [(vi 0), (vi 0), (.v (.int .i8 0)), (vi 0)]) H (by omega) (by omega) V V fun σ H => (.sV [(vi x2.I), (vi x2.J), (.v (.int .i8 x2.Most.Inf)), (vi x2.Most.N)] H 0 V fun σ H => (.nila H fun H => (.tR 2 V H fun b6 σ H => (.mV V (.iV V (.nila H fun H => ?_)))))))); refine .wh h V ?_ ?_ <;> intro h
     ·refine .Zn 13 V H fun b7 σ H => (.mV V (.fV H 0 V (.lV H 0 V (.fV H 0 V (.lV H 0 V (.fV H 0 V (.LV [(.v (.int .i8 x2.Most.Inf)), (vi x2.Most.N)] H 0 V ?_))))))); obtain ⟨x3, q3, h⟩ := bs h; refine .cV (Z61 q3) V (.m1 (.tup [(vl (cL Bound.cs) x3.1), (vi x3.2)]) V V (.xV V (.xV V (.aV V (.aV V (.nila H fun H => ?_)))))); obtain rfl := sj h; exact ⟨V, EI V, (H.erase 0)⟩
     refine .skip ?_; obtain rfl := sj h; exact ⟨V, EI V, (H.erase 0)⟩
    obtain rfl := sj h; exact ⟨V, EI V, H⟩
   refine .Zn 2 V H fun b8 σ H => (.iV V (.mV V (.nila H fun H => ?_))); obtain rfl := sj h; exact ⟨V, EI V, H⟩
  refine .exit ?_; obtain rfl := sj h; exact ⟨nofun, ⟨V, EI V, H⟩⟩
 refine .tR 5 V H fun b9 σ H => (.mV V (.mV V (.iV V (.aV V (.aV V (.nila H fun H => (.ret ?_))))))); obtain rfl := sj h; exact Ends.eR V
theorem Z3f {n : Int} {l : (List epactlaw24_Set)} {r : (List (List Bound))} (h : ZT n l = some r) : Fn CX 47 [(.v (.int .u8 n)), (vl epactlaw24_Set.cs l)] (vl (cL Bound.cs) r) := by
 refine Fn.go Try.func47 V fun σ H => ?_; unfold ZT at h; refine .tR 1 V H fun b1 σ H => (.a1 .nils V V (.nila H fun H => (.tR 5 V H fun b2 σ H => (.mV V (.rem (m := n) (m' := 24) V V (by decide) V (.conv (m := (n.tmod 24)) V V V V (.iV V (.aV V ?_)))))))); refine .nila H fun H => (.tR 1 V H fun b3 σ H => (.a1 .nils V V (.nila H fun H => (.then (.tR 7 V H fun b4 σ H => (.mV V (.mV V (.nV V ?_)))))))); refine .min2 V V V ?_; obtain ⟨x1, q1, h⟩ := bs h; refine .sliceP01 (c := epactlaw24_Set.cs) q1 V V V V (fun _ => V) V (.nV V (.mV V (.nila H fun H => (.inBlock ?_)))); replace H := H.pushNil 42 4 true; obtain ⟨y1, hj1, h⟩ := bs h; obtain ⟨n1, hj1⟩ := Zc.1 hj1; refine .mono (Runs.loopO hj1 (fun s2 e σ => ∃ (w3 : PV), ZL e [(5, (vi s2.1)), (6, w3), (20, (vl epactlaw24_Set.cs x1)), (21, (vi (x1.length : Int))), (22, (vi s2.2.1))] ∧ Hs σ [.sl w3 42 4 (s2.2.2.map epactlaw24_Set.cs) true]) (fun y1 x e σ => ∃ (w4 : PV), x = .exit 0 ∧ ZL e [(5, (vi y1.1)), (6, w4)] ∧ Hs σ [.sl w4 42 4 (y1.2.map epactlaw24_Set.cs) true]) ⟨.nils, EI V, H⟩ ?_) ?_
 ·intro s2 e σ hI z h; obtain ⟨w3, he, H⟩ := hI; obtain ⟨e, rfl⟩ := he.ex; unfold ZT.s0 at h; refine .tR 1 V H fun b5 σ H => (.iV V (.nila H fun H => (.then ?_))); refine .wh h V ?_ ?_ <;> intro h
  ·refine .skip (.then ?_); obtain ⟨y2, hj2, h⟩ := bs h; refine .mono (Q := fun x e σ => ∃ (w5 : PV), x = .normal ∧ ZL e [(5, (vi s2.1)), (6, w5), (20, (vl epactlaw24_Set.cs x1)), (21, (vi (x1.length : Int))), (22, (vi s2.2.1))] ∧ Hs σ [.sl w5 42 4 (y2.map epactlaw24_Set.cs) true]) ?_ ?_
   ·replace h := hj2; refine .inBlock ?_; obtain ⟨y3, hj3, h⟩ := bs h; refine .mono (Q := fun x e σ => ∃ (w6 : PV), x = .normal ∧ ZL e [(5, (vi s2.1)), (6, w6), (20, (vl epactlaw24_Set.cs x1)), (21, (vi (x1.length : Int))), (22, (vi s2.2.1))] ∧ Hs σ [.sl w6 42 4 (y3.map epactlaw24_Set.cs) true]) ?_ ?_
    ·replace h := hj3; refine .tR 4 V H fun b6 σ H => ?_; obtain ⟨x2, q2, h⟩ := bs h; refine .jV q2 V (.qV [(.int .i64 x2.I), (.int .i64 x2.J), (.int .i8 x2.Most.Inf), (.int .i64 x2.Most.N)] V (.Z2U (cs := [(vi 0), (vi 0), (.v (.int .i8 0)), (vi 0)]) H (by omega) (by omega) V V fun σ H => (.sV [(vi x2.I), (vi x2.J), (.v (.int .i8 x2.Most.Inf)), (vi x2.Most.N)] H 0 V fun σ H => (.nila H fun H => (.then (.Z1W 14 V (by kernel_rfl) H fun b7 σ H B7 => (.Z2J H 0 V V V V V (fun _ => .inl ⟨B7 0 _ V _ V, nofun, (fun _ => by kernel_rfl)⟩) V (.ld (vi x2.I) H 0 V V V V V (fun _ => .inl ⟨B7 0 _ V _ V, nofun, (fun _ => by kernel_rfl)⟩) V ?_)))))))); refine .iV V (.mV V ?_); obtain ⟨u1, q3, h⟩ := bs h; refine .rem (m := (iAnd .i64 x2.I 255)) (m' := s2.1) V V (nz_ne q3) V (.Z2J H 0 V V V V V (fun _ => .inl ⟨B7 0 _ V _ V, nofun, (fun _ => by kernel_rfl)⟩) V (.ld (vi x2.J) H 0 V V V V V (fun _ => .inl ⟨B7 0 _ V _ V, nofun, (fun _ => by kernel_rfl)⟩) V (.iV V (.mV V ?_)))); obtain ⟨u2, q4, h⟩ := bs h; refine .rem (m := (iAnd .i64 x2.J 255)) (m' := s2.1) V V (nz_ne q4) V (.bV [(.v (.int .i8 1)), (vi 0)] V (.bV [(vi ((iAnd .i64 x2.I 255).tmod s2.1)), (vi ((iAnd .i64 x2.J 255).tmod s2.1)), (.v (.int .i8 1)), (vi 0)] V (.Z2U (cs := [(vi 0), (vi 0), (.v (.int .i8 0)), (vi 0)]) H (by omega) (by omega) V V fun σ H => (.storeH (cells' := [(vi ((iAnd .i64 x2.I 255).tmod s2.1)), (vi ((iAnd .i64 x2.J 255).tmod s2.1)), (.v (.int .i8 1)), (vi 0)]) H 0 V V V V V V V V V (fun _ => .inr ⟨12, V, by kernel_rfl, by decide⟩) fun σ H => (.nila H fun H => (.then ?_))))))
     refine .jn h .normal (fun y4 => [(5, (vi s2.1)), (6, w3), (9, (.ptr (b7 + 12) 4 0)), (20, (vl epactlaw24_Set.cs x1)), (21, (vi (x1.length : Int))), (22, (vi s2.2.1))]) (fun y4 => [.blk (b7 + 12) 42 [(vi ((iAnd .i64 x2.I 255).tmod s2.1)), (vi ((iAnd .i64 x2.J 255).tmod s2.1)), (.v (.int .i8 y4.1)), (vi y4.2)], .sl w3 42 4 (s2.2.2.map epactlaw24_Set.cs) true]) (fun y4 h => ?_) fun y4 e σ H h => ?_
     ·refine .tR 4 V H fun b8 σ H => (.fV H 1 V (.fV H 1 V (.lV H 1 V (.iV V (.nila H fun H => ?_))))); refine .wh h V ?_ ?_ <;> intro h
      ·refine .Zn 7 V H fun b9 σ H => (.fV H 1 V (.fV H 1 V (.lV H 1 V (.rem (m := x2.Most.N) (m' := 1001) V V (by decide) V (.bV [(.v (.int .i8 0)), (vi (x2.Most.N.tmod 1001))] V (.fV H 0 V (.sV [(vi ((iAnd .i64 x2.I 255).tmod s2.1)), (vi ((iAnd .i64 x2.J 255).tmod s2.1)), (.v (.int .i8 0)), (vi (x2.Most.N.tmod 1001))] H 0 V fun σ H => (.nila H fun H => ?_)))))))); obtain rfl := sj h; exact ⟨V, EI V, (H.erase 1)⟩
      refine .skip ?_; obtain rfl := sj h; exact ⟨V, EI V, (H.erase 1)⟩
     refine .tR 5 V H fun b10 σ H => (.fV H 0 V (.lV H 0 V (.fV H 0 V (.lV H 0 V (.iV V (.nila H fun H => ?_)))))); refine .wh h V ?_ ?_ <;> intro h
     ·refine .Zn 5 V H fun b11 σ H => (.m1 w3 V V (.LV [(vi ((iAnd .i64 x2.I 255).tmod s2.1)), (vi ((iAnd .i64 x2.J 255).tmod s2.1)), (.v (.int .i8 y4.1)), (vi y4.2)] H 0 V (.Z2t (sz := 4) ([(epactlaw24_Set.mk ((iAnd .i64 x2.I 255).tmod s2.1) ((iAnd .i64 x2.J 255).tmod s2.1) (Bound.mk y4.1 y4.2))].map epactlaw24_Set.cs) H (by omega) (by omega) V V V V V V V V V fun σ H => ?_))); obtain ⟨x3, q5, h⟩ := bs h; refine .appendSt (c := epactlaw24_Set.cs) (v := w3) (w := (.buf (b11 + 2) 1 4)) (xs := s2.2.2) (ys := [(epactlaw24_Set.mk ((iAnd .i64 x2.I 255).tmod s2.1) ((iAnd .i64 x2.J 255).tmod s2.1) (Bound.mk y4.1 y4.2))]) H (by omega) (by omega) 2 V V V (.s 0 V) q5 V V V V V nofun V fun w7 σ H => (.a1 w7 V V (.nila H fun H => ?_)); obtain rfl := sj h; exact ⟨w7, V, EI V, ((H.erase 1).erase 0)⟩
     refine .skip ?_; obtain rfl := sj h; exact ⟨w3, V, EI V, (H.erase 0)⟩
    ·rintro x e σ ⟨w8, rfl, he, H⟩; obtain ⟨e, rfl⟩ := he.ex; obtain rfl := sj h; exact ⟨w8, V, EI V, H⟩
   ·rintro x e σ ⟨w9, rfl, he, H⟩; obtain ⟨e, rfl⟩ := he.ex; refine .Zn 2 V H fun b12 σ H => (.iV V (.mV V (.nila H fun H => ?_))); obtain rfl := sj h; exact ⟨V, w9, EI V, H⟩
  refine .exit ?_; obtain rfl := sj h; exact ⟨nofun, ⟨w3, V, EI V, H⟩⟩
 ·rintro x e σ ⟨w10, rfl, he, H⟩; obtain ⟨e, rfl⟩ := he.ex; refine .tR 8 V H fun b13 σ H => (.mV V (.m1 w10 V V ?_)); obtain ⟨x4, q6, h⟩ := bs h; refine .callX (xs := [(vi y1.1), w10]) (ys := [(vi y1.1), (vl epactlaw24_Set.cs y1.2)]) H V (.cons (.c (.v _)) (.cons (.c (.s 0 V)) .nil)) (Z0X q6) V V nofun V fun σ H => (.m1 (.tup [(vl (cL Bound.cs) x4.1), (vb x4.2)]) V V (.xV V (.xV V (.aV V (.aV V (.nila H fun H => (.tR 2 V H fun b14 σ H => (.mV V ?_)))))))); refine .aV V (.nila H fun H => (.ret ?_)); obtain rfl := sj h; exact Ends.eR V
theorem safe_Add_fn {a : Int} {b : Int} {r : Int × Int} (h : Z0D a b = r) : Fn CX 17 [(vi a), (vi b)] (.tup [(vi r.1), (vi r.2)]) := by
 refine Fn.go Try.func17 V fun σ H => ?_; unfold Z0D at h; refine .tR 2 V H fun b1 σ H => (.aV V (.aV V (.nila H fun H => (.tR 4 V H fun b2 σ H => (.mV V (.mV V (.iV V (.aV V ?_)))))))); refine .nila H fun H => (.then (.tR 10 V H fun b3 σ H => (.mV V (.mV V (.iV V (.mV V (.iV V (.neB (b := (decide ((w64 (a + b)) > a))) (b' := (decide (b > 0))) V V V V ?_)))))))); refine .mV V ?_; refine .md H 3 [(19, (vb (((decide ((w64 (a + b)) > a)) != (decide (b > 0))) && (b != 0)))), (6, (vi (w64 (a + b))))] [] V ?_ fun e σ H => ?_
 ·refine .split V V ?_ ?_ <;> intro hc1
  ·refine .mV V (.iV V (.kT V (.nil ?_))); exact ⟨⟨Z2h hc1, V, U⟩, H.wk (by omega)⟩
  ·refine .ps 2 V (.kF V (.nil ?_)); exact ⟨⟨Z2n hc1, V, U⟩, H.wk (by omega)⟩
 refine .nila H fun H => ?_; refine .wh h V ?_ ?_ <;> intro h
 ·refine .tR 2 V H fun b4 σ H => (.aV V (.aV V (.nila H fun H => (.ret ?_)))); subst h; exact Ends.eR V
 refine .skip (.tR 3 V H fun b5 σ H => (.mV V (.aV V (.aV V (.nila H fun H => (.ret ?_)))))); subst h; exact Ends.eR V
theorem safe_Sum_fn {a : Bound} {b : Bound} {r : Bound × Int} (h : ZY a b = r) : Fn CX 27 [(.agg (vs (Bound.cs a))), (.agg (vs (Bound.cs b)))] (.tup [(.agg (vs (Bound.cs r.1))), (vi r.2)]) := by
 refine Fn.go Try.func27 V fun σ H => ?_; unfold ZY at h; refine .tR 4 V H fun b1 σ H => (.boxH (cs := [(.v (.int .i8 a.Inf)), (vi a.N)]) H (by omega) (by omega) V V V fun σ H => (.boxH (cs := [(.v (.int .i8 b.Inf)), (vi b.N)]) H (by omega) (by omega) V V V fun σ H => (.Z2U (cs := [(.v (.int .i8 0)), (vi 0)]) H (by omega) (by omega) V V fun σ H => (.aV V (.nila H fun H => (.then (.inBlock (.tR 9 V H fun b2 σ H => ?_)))))))); refine .LV [(.v (.int .i8 a.Inf)), (vi a.N)] H 2 V (.cV (Z10 (V : ZQ a = _)) V (.tV V (.mV V ?_))); refine .md H 4 [(16, (vb ((!(ZQ a)) || (!(ZQ b))))), (2, (.ptr (b1 + 0) 2 0)), (3, (.ptr (b1 + 1) 2 0)), (4, (.ptr (b1 + 2) 2 0))] [.blk (b1 + 2) 32 [(.v (.int .i8 0)), (vi 0)], .blk (b1 + 1) 32 [(.v (.int .i8 b.Inf)), (vi b.N)], .blk (b1 + 0) 32 [(.v (.int .i8 a.Inf)), (vi a.N)]] rfl ?_ fun e σ H => ?_
 ·refine .split V V ?_ ?_ <;> intro hc1
  ·refine .ps 3 V (.kT V (.nil ?_)); exact ⟨⟨or_T hc1, V, V, V, U⟩, H.wk (by omega)⟩
  ·refine .LV [(.v (.int .i8 b.Inf)), (vi b.N)] H 1 V (.cV (Z10 (V : ZQ b = _)) V (.tV V (.kF V (.nil ?_)))); exact ⟨⟨or_F hc1, V, V, V, U⟩, H.wk (by omega)⟩
 refine .aV V (.nila H fun H => ?_); refine .wh h V ?_ ?_ <;> intro h
 ·refine .tR 3 V H fun b3 σ H => (.bV [(.v (.int .i8 0)), (vi 0)] V (.sV [(.v (.int .i8 0)), (vi 0)] H 0 V fun σ H => (.aV V (.nila H fun H => (.ret ?_))))); subst h; exact (Ends.H (xs := [(.agg [(.v (.int .i8 0)), (vi 0)]), (vi 2)]) (.inr V) H (.agg (cs := [(.v (.int .i8 0)), (vi 0)]) 0 V V V V V V V (.tmp (v := (vi 2)) V .nil)) (.two (.cons (.p V) (.cons (.c (.v _)) .nil))))
 refine .tR 16 V H fun b4 σ H => (.fV H 2 V (.lV H 2 V (.iV V (.mV V ?_)))); refine .md H 4 [(26, (vb ((a.Inf != 0) && (b.Inf != 0)))), (2, (.ptr (b1 + 0) 2 0)), (3, (.ptr (b1 + 1) 2 0)), (4, (.ptr (b1 + 2) 2 0))] [.blk (b1 + 2) 32 [(.v (.int .i8 0)), (vi 0)], .blk (b1 + 1) 32 [(.v (.int .i8 b.Inf)), (vi b.N)], .blk (b1 + 0) 32 [(.v (.int .i8 a.Inf)), (vi a.N)]] V ?_ fun e σ H => ?_
 ·refine .split V V ?_ ?_ <;> intro hc3
  ·refine .fV H 1 V (.lV H 1 V (.iV V (.kT V (.nil ?_)))); exact ⟨⟨Z2h hc3, V, V, V, U⟩, H.wk (by omega)⟩
  ·refine .ps 3 V (.kF V (.nil ?_)); exact ⟨⟨Z2n hc3, V, V, V, U⟩, H.wk (by omega)⟩
 refine .mV V ?_; refine .md H 6 [(33, (vb (((a.Inf != 0) && (b.Inf != 0)) && (a.Inf != b.Inf)))), (2, (.ptr (b1 + 0) 2 0)), (3, (.ptr (b1 + 1) 2 0)), (4, (.ptr (b1 + 2) 2 0))] [.blk (b1 + 2) 32 [(.v (.int .i8 0)), (vi 0)], .blk (b1 + 1) 32 [(.v (.int .i8 b.Inf)), (vi b.N)], .blk (b1 + 0) 32 [(.v (.int .i8 a.Inf)), (vi a.N)]] V ?_ fun e σ H => ?_
 ·refine .split V V ?_ ?_ <;> intro hc4
  ·refine .fV H 2 V (.lV H 2 V (.fV H 1 V (.lV H 1 V (.iV V (.kT V (.nil ?_)))))); exact ⟨⟨Z2h hc4, V, V, V, U⟩, H.wk (by omega)⟩
  ·refine .ps 5 V (.kF V (.nil ?_)); exact ⟨⟨Z2n hc4, V, V, V, U⟩, H.wk (by omega)⟩
 refine .aV V (.nila H fun H => ?_); refine .wh h V ?_ ?_ <;> intro h
 ·refine .tR 3 V H fun b5 σ H => (.bV [(.v (.int .i8 0)), (vi 0)] V (.sV [(.v (.int .i8 0)), (vi 0)] H 0 V fun σ H => (.aV V (.nila H fun H => (.ret ?_))))); subst h; exact (Ends.H (xs := [(.agg [(.v (.int .i8 0)), (vi 0)]), (vi 10)]) (.inr V) H (.agg (cs := [(.v (.int .i8 0)), (vi 0)]) 0 V V V V V V V (.tmp (v := (vi 10)) V .nil)) (.two (.cons (.p V) (.cons (.c (.v _)) .nil))))
 refine .tR 4 V H fun b6 σ H => (.fV H 2 V (.lV H 2 V (.iV V (.aV V (.nila H fun H => ?_))))); refine .wh h V ?_ ?_ <;> intro h
 ·refine .tR 3 V H fun b7 σ H => (.LV [(.v (.int .i8 a.Inf)), (vi a.N)] H 2 V (.sV [(.v (.int .i8 a.Inf)), (vi a.N)] H 0 V fun σ H => (.aV V (.nila H fun H => (.ret ?_))))); subst h; exact (Ends.H (xs := [(.agg [(.v (.int .i8 a.Inf)), (vi a.N)]), (vi 0)]) (.inr V) H (.agg (cs := [(.v (.int .i8 a.Inf)), (vi a.N)]) 0 V V V V V V V (.tmp (v := (vi 0)) V .nil)) (.two (.cons (.p V) (.cons (.c (.v _)) .nil))))
 refine .tR 4 V H fun b8 σ H => (.fV H 1 V (.lV H 1 V (.iV V (.aV V (.nila H fun H => ?_))))); refine .wh h V ?_ ?_ <;> intro h
 ·refine .tR 3 V H fun b9 σ H => (.LV [(.v (.int .i8 b.Inf)), (vi b.N)] H 1 V (.sV [(.v (.int .i8 b.Inf)), (vi b.N)] H 0 V fun σ H => (.aV V (.nila H fun H => (.ret ?_))))); subst h; exact (Ends.H (xs := [(.agg [(.v (.int .i8 b.Inf)), (vi b.N)]), (vi 0)]) (.inr V) H (.agg (cs := [(.v (.int .i8 b.Inf)), (vi b.N)]) 0 V V V V V V V (.tmp (v := (vi 0)) V .nil)) (.two (.cons (.p V) (.cons (.c (.v _)) .nil))))
 refine .skip (.tR 10 V H fun b10 σ H => (.fV H 2 V (.lV H 2 V (.fV H 1 V (.lV H 1 V (.cV (safe_Add_fn V) V (.m1 (.tup [(vi (Z0D a.N b.N).1), (vi (Z0D a.N b.N).2)]) V V (.xV V ?_)))))))); refine .xV V (.aV V (.aV V (.nila H fun H => (.tR 5 V H fun b11 σ H => (.mV V (.bV [(.v (.int .i8 0)), (vi (Z0D a.N b.N).1)] V (.mV V (.sV [(.v (.int .i8 0)), (vi (Z0D a.N b.N).1)] H 0 V fun σ H => ?_)))))))); refine .aV V (.nila H fun H => (.ret ?_)); subst h; exact (Ends.H (xs := [(.agg [(.v (.int .i8 0)), (vi (Z0D a.N b.N).1)]), (vi (Z0D a.N b.N).2)]) (.inr V) H (.agg (cs := [(.v (.int .i8 0)), (vi (Z0D a.N b.N).1)]) 0 V V V V V V V (.tmp (v := (vi (Z0D a.N b.N).2)) V .nil)) (.two (.cons (.p V) (.cons (.c (.v _)) .nil))))
end Go.Dn
