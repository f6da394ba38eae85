/- What lies in the heap, as a list of things: rules to walk through code that boxes, loads, stores, appends. -/
import Derived.Test.YtefaoeaohhdhkaaD18
set_option linter.unusedVariables false
set_option linter.unusedSimpArgs false
namespace Go.Dn
open Go

inductive Res where
  | blk (id : Nat) (t : TypeId) (cells : List PV)
  | sl (v : PV) (e : TypeId) (sz : Nat) (xs : List (List FV)) (live : Bool)
  | floor (m : Nat)
  | loop (id : Nat) (fn : FuncId) (e : Env) (n : Nat) (ps : List Nat) (as_ bo : Code) (st : LoopState) (pd : Option Code)

def PV.owner : PV → Option Nat
  | .buf id _ _ => some id
  | _ => none
def Res.owner : Res → Option Nat
  | .blk id _ _ => some id
  | .sl v _ _ _ _ => v.owner
  | .floor _ => none
  | .loop id _ _ _ _ _ _ _ _ => some id
def Res.holds (σ : Heap) : Res → Prop
  | .blk id t cells => σ.ent id = .blk t cells true
  | .sl v e sz xs live => (∀ y ∈ xs, y.length = sz) ∧ ((v = .nils ∧ xs = []) ∨ ∃ id, v = .buf id xs.length sz ∧ σ.ent id = .blk e (vs xs.flatten) live)
  | .floor m => m ≤ σ.nx
  | .loop id fn e n ps as_ bo st pd => σ.ent id = .loop fn e n ps as_ bo st pd

structure Has (σ : Heap) (lo hi : Nat) (L : List Res) : Prop where
  holds : ∀ (k : Nat) (r : Res), L[k]? = some r → r.holds σ
  lt : ∀ (k : Nat) (r : Res), L[k]? = some r → ∀ id, r.owner = some id → (id < lo ∨ hi ≤ id) ∧ id < σ.nx
  sep : ∀ (j k : Nat) (r s : Res), j ≠ k → L[j]? = some r → L[k]? = some s → ∀ id, r.owner = some id → s.owner ≠ some id
  le : hi ≤ σ.nx

section
variable {σ : Heap} {lo hi : Nat} {L : List Res} {k : Nat} {r : Res}

theorem Has.nil (h : hi ≤ σ.nx) : Has σ lo hi [] := ⟨by simp, by simp, by simp, h⟩

theorem Has.weak (H : Has σ lo hi L) {lo' hi' : Nat} (h1 : lo ≤ lo') (h2 : hi' ≤ hi) : Has σ lo' hi' L :=
  ⟨H.holds, fun k r hk id ho => ⟨(H.lt k r hk id ho).1.imp (fun h => by omega) (fun h => by omega), (H.lt k r hk id ho).2⟩, H.sep, by have := H.le; omega⟩

/-- Between regions. -/
theorem Has.all (H : Has σ lo hi L) : Has σ σ.nx σ.nx L :=
  ⟨H.holds, fun k r hk id ho => ⟨.inl (H.lt k r hk id ho).2, (H.lt k r hk id ho).2⟩, H.sep, Nat.le_refl _⟩

theorem Has.erase (H : Has σ lo hi L) (k : Nat) : Has σ lo hi (L.eraseIdx k) := by
  have key : ∀ (j : Nat) (r : Res), (L.eraseIdx k)[j]? = some r → L[if j < k then j else j + 1]? = some r := by
    intro j r h
    rw [List.getElem?_eraseIdx] at h
    by_cases hj : j < k
    · rw [if_pos hj] at h ⊢; exact h
    · rw [if_neg hj] at h ⊢; exact h
  refine ⟨fun j r h => H.holds _ r (key j r h), fun j r h => H.lt _ r (key j r h), fun i j r s hij h1 h2 => H.sep _ _ r s ?_ (key i r h1) (key j s h2), H.le⟩
  split <;> split <;> omega

theorem holds_put_ne {id : Nat} {en : Ent} (h : r.holds σ) (ho : r.owner ≠ some id) : r.holds (σ.put id en) := by
  cases r with
  | blk id' t cells =>
    have : id' ≠ id := fun e => ho (by rw [e]; rfl)
    show upd σ.ent id en id' = _
    rw [upd_ne _ _ this]; exact h
  | sl v e sz xs live =>
    refine ⟨h.1, h.2.imp (fun h => h) fun ⟨id', hv, hb⟩ => ⟨id', hv, ?_⟩⟩
    have : id' ≠ id := fun e => ho (by rw [hv, e]; rfl)
    show upd σ.ent id en id' = _
    rw [upd_ne _ _ this]; exact hb
  | floor m => exact h
  | loop id' fn e n ps as_ bo st pd =>
    have : id' ≠ id := fun e => ho (by rw [e]; rfl)
    show upd σ.ent id en id' = _
    rw [upd_ne _ _ this]; exact h

theorem put_ent {id : Nat} {en : Ent} : (σ.put id en).ent id = en := upd_same _ _ _

/-- One of the things is changed where it lies. -/
theorem Has.put (H : Has σ lo hi L) {id : Nat} {en : Ent} {r' : Res} (hk : L[k]? = some r) (ho : r.owner = some id) (hr : r'.holds (σ.put id en)) (ho' : r'.owner = some id) : Has (σ.put id en) lo hi (L.set k r') := by
  have key : ∀ (j : Nat) (s : Res), (L.set k r')[j]? = some s → (j = k ∧ s = r') ∨ (j ≠ k ∧ L[j]? = some s) := by
    intro j s h
    rw [List.getElem?_set] at h
    by_cases hj : k = j
    · subst hj
      rw [if_pos rfl] at h
      split at h
      · cases h; exact .inl ⟨rfl, rfl⟩
      · cases h
    · rw [if_neg hj] at h
      exact .inr ⟨fun e => hj e.symm, h⟩
  refine ⟨fun j s h => ?_, fun j s h id' ho2 => ?_, fun i j s t hij h1 h2 id' hs => ?_, H.le⟩
  · rcases key j s h with ⟨_, rfl⟩ | ⟨hj, h⟩
    · exact hr
    · exact holds_put_ne (H.holds j s h) (H.sep k j r s (fun e => hj e.symm) hk h id ho)
  · rcases key j s h with ⟨_, rfl⟩ | ⟨hj, h⟩
    · rw [ho'] at ho2; cases ho2; exact H.lt k r hk id ho
    · exact H.lt j s h id' ho2
  · rcases key i s h1 with ⟨hi', rfl⟩ | ⟨hi', h1'⟩
    · rw [ho'] at hs; cases hs
      rcases key j t h2 with ⟨hj, rfl⟩ | ⟨hj, h2'⟩
      · omega
      · exact H.sep k j r t (fun e => hj e.symm) hk h2' id ho
    · rcases key j t h2 with ⟨hj, rfl⟩ | ⟨hj, h2'⟩
      · intro e
        rw [ho'] at e; cases e
        exact H.sep i k s r hi' h1' hk id hs ho
      · exact H.sep i j s t hij h1' h2' id' hs

/-- A thing more, whose place is new (or that has none). -/
theorem Has.push (H : Has σ lo hi L) {b : Nat} {en : Ent} {r' : Res} (hlo : lo ≤ b) (hhi : b < hi) (hr : r'.holds (σ.put b en)) (ho : r'.owner = some b) : Has (σ.put b en) (b + 1) hi (r' :: L) := by
  have hle := H.le
  have hne : ∀ (j : Nat) (s : Res), L[j]? = some s → s.owner ≠ some b := fun j s h e => by
    have := (H.lt j s h b e).1; omega
  refine ⟨fun j s h => ?_, fun j s h id' ho2 => ?_, fun i j s t hij h1 h2 id' hs => ?_, hle⟩
  · cases j with
    | zero => cases h; exact hr
    | succ j => exact holds_put_ne (H.holds j s h) (hne j s h)
  · cases j with
    | zero => cases h; rw [ho] at ho2; cases ho2; exact ⟨.inl (by omega), show _ < σ.nx by omega⟩
    | succ j =>
      have := H.lt j s h id' ho2
      exact ⟨by omega, this.2⟩
  · cases i with
    | zero =>
      cases h1
      rw [ho] at hs; cases hs
      cases j with
      | zero => exact absurd rfl hij
      | succ j => exact hne j t h2
    | succ i =>
      cases j with
      | zero =>
        cases h2
        intro e
        rw [ho] at e; cases e
        exact hne i s h1 hs
      | succ j => exact H.sep i j s t (fun e => hij (by rw [e])) h1 h2 id' hs

/-- A slice variable that is nil. -/
theorem Has.pushNil (H : Has σ lo hi L) (e : TypeId) (sz : Nat) (live : Bool) : Has σ lo hi (.sl .nils e sz [] live :: L) := by
  refine ⟨fun j s h => ?_, fun j s h id' ho2 => ?_, fun i j s t hij h1 h2 id' hs => ?_, H.le⟩
  · cases j with
    | zero => cases h; exact ⟨by simp, .inl ⟨rfl, rfl⟩⟩
    | succ j => exact H.holds j s h
  · cases j with
    | zero => cases h; cases ho2
    | succ j => exact H.lt j s h id' ho2
  · cases i with
    | zero => cases h1; cases hs
    | succ i =>
      cases j with
      | zero => cases h2; intro e; cases e
      | succ j => exact H.sep i j s t (fun e => hij (by rw [e])) h1 h2 id' hs

theorem Has.blk (H : Has σ lo hi L) {id : Nat} {t : TypeId} {cells : List PV} (hk : L[k]? = some (.blk id t cells)) : σ.ent id = .blk t cells true := H.holds k _ hk
theorem Has.cur (H : Has σ lo hi L) {id : Nat} {t : TypeId} {cells : List PV} {ver : Nat} (hk : L[k]? = some (.blk id t cells)) (hv : cells.length = ver) : σ.cur id ver = true := by
  simp only [Heap.cur, H.blk hk, hv, beq_self_eq_true]
end

/-- In memory that was there ahead of the region, or in what the region itself made, in an order that is sure. -/
def Seen (ops : Array Oper) (base i id : Nat) (w : Bool) : Prop :=
  (id < base ∧ (w = true → freshOnly (Region.before ops) ops i = false)) ∨ ∃ j, id = base + j ∧ (w = false → oldOnly (Region.before ops) ops i = false) ∧ ((Region.before ops).getD i 0).testBit j = true ∧ j < ops.size

section
variable {X : Ctx} {n : Nat} {dr : Bool} {fn : FuncId} {ops : Array Oper} {base i : Nat} {l : List Oper} {e : Env} {σ : Heap} {K : Env → Heap → Prop} {Q : Ex → Env → Heap → Prop} {c a b : Code}
variable {d : Nat} {t t1 t2 : TypeId} {p : String} {af : Array Edge} {x y : Operand} {v : PV} {lo hi : Nat} {L : List Res}

theorem ask_seen_r {o : Oper} {ids : List Nat} (h : opKind o.op = .read) (ht : touched X e o.op = ids) (hs : ∀ id ∈ ids, Seen ops base i id false) : drawAsk X ops base i o e = true := by
  simp only [drawAsk, h, ht, List.all_eq_true]
  intro id hid
  rcases hs id hid with ⟨h1, _⟩ | ⟨j, rfl, h1, h2, h3⟩
  · simp [h1]
  · simp only [Nat.add_sub_cancel_left, h1 rfl, h2, Bool.not_false, Bool.and_self, Bool.true_and, Bool.or_eq_true, decide_eq_true_eq]
    exact .inr (by omega)

theorem ask_seen_w {o : Oper} {ids : List Nat} (h : opKind o.op = .write) (ht : touched X e o.op = ids) (hs : ∀ id ∈ ids, Seen ops base i id true) : drawAsk X ops base i o e = true := by
  simp only [drawAsk, h, ht, List.all_eq_true]
  intro id hid
  rcases hs id hid with ⟨h1, h0⟩ | ⟨j, rfl, h1, h2, h3⟩
  · simp [h1, h0 rfl]
  · simp only [Nat.add_sub_cancel_left, h2, Bool.or_eq_true, Bool.and_eq_true, decide_eq_true_eq]
    exact .inr ⟨⟨by omega, trivial⟩, by omega⟩

/-! ### Blocks -/
theorem Ops.boxH {cs : List PV} (H : Has σ lo hi L) (hlo : lo ≤ base + i) (hhi : base + i < hi) (hx : operandD X e x = some v) (hc : v.cells = some cs) (hd : Nat.blt d n = true)
    (hk : ∀ σ', Has σ' (base + i + 1) hi (.blk (base + i) t1 cs :: L) → Ops X n dr ops base (i + 1) l (set e d (.ptr (base + i) cs.length 0)) σ' K) :
    Ops X n dr ops base i (⟨some d, .box t1 x, t, p, af, none⟩ :: l) e σ K :=
  .plain (x := .ptr (base + i) cs.length 0) (σ1 := σ.put (base + i) (.blk t1 cs true)) (by simp only [stepOp, hx, Option.bind_some, hc, Option.map_some, newD]) (fun _ => ask_inert rfl) hd
    (hk _ (H.push hlo hhi (r' := .blk (base + i) t1 cs) put_ent rfl))

theorem Ops.allocH {cs : List PV} (H : Has σ lo hi L) (hlo : lo ≤ base + i) (hhi : base + i < hi) (hz : tzero X.P t1 = some cs) (hd : Nat.blt d n = true)
    (hk : ∀ σ', Has σ' (base + i + 1) hi (.blk (base + i) t1 cs :: L) → Ops X n dr ops base (i + 1) l (set e d (.ptr (base + i) cs.length 0)) σ' K) :
    Ops X n dr ops base i (⟨some d, .alloc t1, t, p, af, none⟩ :: l) e σ K :=
  .plain (x := .ptr (base + i) cs.length 0) (σ1 := σ.put (base + i) (.blk t1 cs true)) (by simp only [stepOp, hz, Option.map_some, newD]) (fun _ => ask_inert rfl) hd
    (hk _ (H.push hlo hhi (r' := .blk (base + i) t1 cs) put_ent rfl))

theorem Ops.fieldAddrH {id ver off f fo : Nat} {ft : TypeId} {m : Nat} {te : TypeId} {cells : List PV} (H : Has σ lo hi L) (k : Nat) (hk : L[k]? = some (.blk id te cells)) (hv : cells.length = ver) (hx : operandD X e x = some (.ptr id ver off))
    (hf : tfield X.P t1 f = some (fo, ft)) (hs : tsize X.P ft = some (m + 1)) (ha : dr = true → Seen ops base i id false) (hd : Nat.blt d n = true)
    (hk' : Ops X n dr ops base (i + 1) l (set e d (.ptr id ver (off + fo))) σ K) : Ops X n dr ops base i (⟨some d, .fieldAddr t1 x f, t, p, af, none⟩ :: l) e σ K := by
  refine .plain (x := .ptr id ver (off + fo)) (σ1 := σ) ?_ (fun h => ask_seen_r (ids := [id]) rfl ?_ (fun j hj => by simp at hj; subst hj; exact ha h)) hd hk'
  · simp only [stepOp, hx, Option.bind_some, fieldAddrD, hf, hs, H.cur hk hv, if_true, Option.map_some]
  · simp only [touched, opLooks, List.flatMap_cons, List.flatMap_nil, hx, vids, List.append_nil]

theorem Ops.loadH {id ver off : Nat} {te : TypeId} {cells : List PV} (H : Has σ lo hi L) (k : Nat) (hk : L[k]? = some (.blk id te cells)) (hv : cells.length = ver) (hx : operandD X e x = some (.ptr id ver off))
    (hg : tagg X.P t1 = some false) (hc : cells[off]? = some v) (ha : dr = true → Seen ops base i id false) (hd : Nat.blt d n = true)
    (hk' : Ops X n dr ops base (i + 1) l (set e d v) σ K) : Ops X n dr ops base i (⟨some d, .load t1 x, t, p, af, none⟩ :: l) e σ K := by
  refine .plain (x := v) (σ1 := σ) ?_ (fun h => ask_seen_r (ids := [id]) rfl ?_ (fun j hj => by simp at hj; subst hj; exact ha h)) hd hk'
  · simp only [stepOp, hx, Option.bind_some, loadD, H.blk hk, hv, if_true, hg, hc, Option.map_some]
  · simp only [touched, opLooks, List.flatMap_cons, List.flatMap_nil, hx, vids, List.append_nil]

theorem Ops.loadHA {id ver off m : Nat} {te : TypeId} {cells cs : List PV} (H : Has σ lo hi L) (k : Nat) (hk : L[k]? = some (.blk id te cells)) (hv : cells.length = ver) (hx : operandD X e x = some (.ptr id ver off))
    (hg : tagg X.P t1 = some true) (hm : tsize X.P t1 = some m) (hl : Nat.ble (off + m) cells.length = true) (hc : (cells.drop off).take m = cs) (ha : dr = true → Seen ops base i id false) (hd : Nat.blt d n = true)
    (hk' : Ops X n dr ops base (i + 1) l (set e d (.agg cs)) σ K) : Ops X n dr ops base i (⟨some d, .load t1 x, t, p, af, none⟩ :: l) e σ K := by
  refine .plain (x := .agg cs) (σ1 := σ) ?_ (fun h => ask_seen_r (ids := [id]) rfl ?_ (fun j hj => by simp at hj; subst hj; exact ha h)) hd hk'
  · have hl : off + m ≤ cells.length := Nat.le_of_ble_eq_true hl
    have h2 : off + m ≤ ver := hv ▸ hl
    simp only [stepOp, hx, Option.bind_some, loadD, H.blk hk, hv, if_true, hg, hm, h2, hc, Option.map_some]
  · simp only [touched, opLooks, List.flatMap_cons, List.flatMap_nil, hx, vids, List.append_nil]

theorem Ops.storeH {id ver off m : Nat} {te : TypeId} {cells ys cells' : List PV} (H : Has σ lo hi L) (k : Nat) (hk : L[k]? = some (.blk id te cells)) (hv : cells.length = ver) (hx : operandD X e x = some (.ptr id ver off))
    (hy : operandD X e y = some v) (hc : v.cells = some ys) (hm : tsize X.P t1 = some m) (hl : ys.length = m) (hle : Nat.ble (off + m) cells.length = true) (hc' : splice cells off ys = cells')
    (ha : dr = true → Seen ops base i id true)
    (hk' : ∀ σ', Has σ' lo hi (L.set k (.blk id te cells')) → Ops X n dr ops base (i + 1) l e σ' K) : Ops X n dr ops base i (⟨none, .store t1 x y, t, p, af, none⟩ :: l) e σ K := by
  refine .plain0 (x := .undef) (σ1 := σ.put id (.blk te cells' true)) ?_ (fun h => ask_seen_w (ids := [id]) rfl ?_ (fun j hj => by simp at hj; subst hj; exact ha h)) (hk' _ (H.put hk rfl (r' := .blk id te cells') put_ent rfl))
  · have hle : off + m ≤ cells.length := Nat.le_of_ble_eq_true hle
    simp only [stepOp, hx, hy, storeD, H.blk hk, hv, if_true, hm, hc, hl, hc']
    rw [if_pos ⟨trivial, hv ▸ hle⟩]
    rfl
  · simp only [touched, opLooks, List.flatMap_cons, List.flatMap_nil, hx, vids, List.append_nil]

theorem Ops.arrAddrH {id ver off j m s : Nat} {el te : TypeId} {cells : List PV} {ik : IntKind} {iv : Int} (H : Has σ lo hi L) (k : Nat) (hk : L[k]? = some (.blk id te cells)) (hv : cells.length = ver) (hx : operandD X e x = some (.ptr id ver off))
    (hi' : operandD X e y = some (.v (.int ik iv))) (h0 : 0 ≤ iv) (hlt : iv.toNat < m) (ht : tarray X.P t1 = some (m, el)) (hs : tsize X.P el = some s) (ha : dr = true → Seen ops base i id false) (hd : Nat.blt d n = true)
    (hk' : Ops X n dr ops base (i + 1) l (set e d (.ptr id ver (off + iv.toNat * s))) σ K) : Ops X n dr ops base i (⟨some d, .indexAddr t1 x y, t, p, af, none⟩ :: l) e σ K := by
  refine .plain (x := .ptr id ver (off + iv.toNat * s)) (σ1 := σ) ?_ (fun h => ask_seen_r (ids := [id]) rfl ?_ (fun j hj => by simp at hj; subst hj; exact ha h)) hd hk'
  · simp only [stepOp, hx, hi', indexAddrD, asNat, if_pos h0, ht, H.cur hk hv, hs, Bool.true_and, decide_eq_true_eq, if_pos hlt, Option.map_some]
  · simp only [touched, opLooks, List.flatMap_cons, List.flatMap_nil, hx, vids, List.append_nil]

/-! ### Immutable cells -/
theorem Ops.fieldAddrP {f fo : Nat} {ft : TypeId} {m : Nat} {cells : List FV} (hx : operandD X e x = some (.fptr cells)) (hf : tfield X.P t1 f = some (fo, ft)) (hs : tsize X.P ft = some (m + 1)) (hd : Nat.blt d n = true)
    (hk' : Ops X n dr ops base (i + 1) l (set e d (.fptr (cells.drop fo))) σ K) : Ops X n dr ops base i (⟨some d, .fieldAddr t1 x f, t, p, af, none⟩ :: l) e σ K := by
  refine .plain (x := .fptr (cells.drop fo)) (σ1 := σ) ?_ (fun h => ask_read0 rfl ?_) hd hk'
  · simp only [stepOp, hx, Option.bind_some, fieldAddrD, hf, hs, Option.map_some]
  · simp only [touched, opLooks, List.flatMap_cons, List.flatMap_nil, hx, vids, List.append_nil]

theorem Ops.loadP {u : FV} {cells : List FV} (hx : operandD X e x = some (.fptr cells)) (hg : tagg X.P t1 = some false) (hc : cells[0]? = some u) (hd : Nat.blt d n = true)
    (hk' : Ops X n dr ops base (i + 1) l (set e d (.v u)) σ K) : Ops X n dr ops base i (⟨some d, .load t1 x, t, p, af, none⟩ :: l) e σ K := by
  refine .plain (x := .v u) (σ1 := σ) ?_ (fun h => ask_read0 rfl ?_) hd hk'
  · simp only [stepOp, hx, Option.bind_some, loadD, hg, hc, Option.map_some]
  · simp only [touched, opLooks, List.flatMap_cons, List.flatMap_nil, hx, vids, List.append_nil]

theorem Ops.loadPA {m : Nat} {cells cs : List FV} (hx : operandD X e x = some (.fptr cells)) (hg : tagg X.P t1 = some true) (hm : tsize X.P t1 = some m) (hl : Nat.ble m cells.length = true) (hc : cells.take m = cs) (hd : Nat.blt d n = true)
    (hk' : Ops X n dr ops base (i + 1) l (set e d (.agg (vs cs))) σ K) : Ops X n dr ops base i (⟨some d, .load t1 x, t, p, af, none⟩ :: l) e σ K := by
  refine .plain (x := .agg (vs cs)) (σ1 := σ) ?_ (fun h => ask_read0 rfl ?_) hd hk'
  · have hl : m ≤ cells.length := Nat.le_of_ble_eq_true hl
    simp only [stepOp, hx, Option.bind_some, loadD, hg, hm, hl, if_true, hc, Option.map_some]
  · simp only [touched, opLooks, List.flatMap_cons, List.flatMap_nil, hx, vids, List.append_nil]

/-- An element that is there. -/
def at? {α : Type} (l : List α) (i : Int) : Option α := if 0 ≤ i then l[i.toNat]? else none

theorem at?_some {α : Type} {l : List α} {i : Int} {a : α} (h : at? l i = some a) : 0 ≤ i ∧ l[i.toNat]? = some a := by
  unfold at? at h
  split at h
  · exact ⟨by assumption, h⟩
  · cases h

theorem Ops.indexP {α : Type} {c : α → List FV} {xs : List α} {iv : Int} {ik : IntKind} {u : α} {el : TypeId} {m : Nat} (hx : operandD X e x = some (.v (.sl (xs.map c)))) (hy : operandD X e y = some (.v (.int ik iv))) (hu : at? xs iv = some u)
    (ht : tslice X.P t1 = some el) (hs : tsize X.P el = some m) (hm : (c u).length = m) (hd : Nat.blt d n = true)
    (hk' : Ops X n dr ops base (i + 1) l (set e d (.fptr (c u))) σ K) : Ops X n dr ops base i (⟨some d, .indexAddr t1 x y, t, p, af, none⟩ :: l) e σ K := by
  obtain ⟨h0, hu⟩ := at?_some hu
  have hu' : (xs.map c)[iv.toNat]? = some (c u) := by rw [List.getElem?_map, hu]; rfl
  refine .plain (x := .fptr (c u)) (σ1 := σ) ?_ (fun h => ask_read0 rfl ?_) hd hk'
  · simp only [stepOp, hx, hy, indexAddrD, asNat, if_pos h0, ht, Option.bind_some, hs, hu', hm, if_true, Option.map_some]
  · simp only [touched, opLooks, List.flatMap_cons, List.flatMap_nil, hx, vids, List.append_nil]

theorem Ops.lenP {xs : List (List FV)} {af2 : Array TypeId} {el : TypeId} (hx : operandD X e x = some (.v (.sl xs))) (ht : tslice X.P t1 = some el) (hd : Nat.blt d n = true)
    (hk' : Ops X n dr ops base (i + 1) l (set e d (.v (.int .i64 xs.length))) σ K) : Ops X n dr ops base i (⟨some d, .call { callee := .builtin .len, args := #[x], argTypes := #[t1] }, t, p, af, none⟩ :: l) e σ K := by
  refine .plain (x := .v (.int .i64 xs.length)) (σ1 := σ) ?_ (fun h => ask_read0 rfl ?_) hd hk'
  · simp only [stepOp, callOpD, operandsD, hx, Option.bind_some, builtinD, lenD, ht, Option.map_some]
  · simp only [touched, opLooks, List.flatMap_cons, List.flatMap_nil, hx, vids, List.append_nil]
end

end Go.Dn
