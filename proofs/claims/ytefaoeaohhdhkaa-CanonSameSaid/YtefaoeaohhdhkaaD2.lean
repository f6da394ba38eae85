/- The relation between the interpreter's values and heap and the model's; how it goes on as the world goes on. -/
import Derived.Test.YtefaoeaohhdhkaaD1
set_option linter.unusedVariables false
set_option linter.unusedSimpArgs false
namespace Go.Dn
open Go

inductive FVR (w : World) (Imm : Nat → Prop) : FV → Value → Prop
  | bool (b : Bool) : FVR w Imm (.bool b) (.bool b)
  | int (k : IntKind) (n : Int) : FVR w Imm (.int k n) (.int k n)
  | str (s : ByteArray) : FVR w Imm (.str s) (.string s)
  | nilp : FVR w Imm .nilp (.pointer none)
  | nilf : FVR w Imm .nilf .nilFunc
  | fn (f : FuncId) : FVR w Imm (.fn f) (.func (.func f) #[] #[])
  | nil : FVR w Imm (.sl []) (.slice none 0 0)
  | empty (a : Addr) (cap : Nat) : FVR w Imm (.sl []) (.slice (some a) 0 cap)
  | sl (xs : List (List FV)) (b off cap sz : Nat) (vals : Nat → Nat → Value) (himm : Imm b) (hcap : xs.length ≤ cap)
      (hsz : ∀ e ∈ xs, e.length = sz)
      (hcell : ∀ i j, i < xs.length → j < sz → w.cell? ⟨b, off + i * sz + j, none⟩ = some (vals i j))
      (hval : ∀ (i j : Nat) (e : List FV) (x : FV), xs[i]? = some e → e[j]? = some x → FVR w Imm x (vals i j)) :
      FVR w Imm (.sl xs) (.slice (some ⟨b, off, none⟩) xs.length cap)

theorem FVR.mono {w w' : World} {Imm Imm' : Nat → Prop} {x : FV} {v : Value} (h : FVR w Imm x v)
    (hm : ∀ b, Imm b → Imm' b ∧ w'.heap[b]? = w.heap[b]?) : FVR w' Imm' x v := by
  induction h with
  | bool b => exact .bool b
  | int k n => exact .int k n
  | str s => exact .str s
  | nilp => exact .nilp
  | nilf => exact .nilf
  | fn f => exact .fn f
  | nil => exact .nil
  | empty a cap => exact .empty a cap
  | sl xs b off cap sz vals himm hcap hsz hcell hval ih =>
    refine .sl xs b off cap sz vals (hm b himm).1 hcap hsz (fun i j hi hj => ?_) ih
    rw [← hcell i j hi hj]
    simp only [World.cell?, (hm b himm).2]

theorem FVR.oneCell {w : World} {Imm : Nat → Prop} {x : FV} {v : Value} (h : FVR w Imm x v) : v.oneCell' = true := by
  cases h <;> rfl

def Heap.isBlk (σ : Heap) (id : Nat) : Prop := ∃ el cells lv, σ.ent id = .blk el cells lv
def Heap.ver (σ : Heap) (id : Nat) : Nat := match σ.ent id with | .blk _ cells _ => cells.length | _ => 0
def Heap.isLoop (σ : Heap) (id : Nat) : Prop := ∃ fn e n ps as_ bo st pend, σ.ent id = .loop fn e n ps as_ bo st pend
def Live (σ : Heap) (id : Nat) : Prop := (∃ el cells, σ.ent id = .blk el cells true) ∨ σ.isLoop id

/-- The blocks that nothing changes while the activation runs. -/
def Imm (w : World) (Y : Nat → Prop) (σ : Heap) (ι : Nat → Nat) (b : Nat) : Prop :=
  b < w.heap.size ∧ ¬ Y b ∧ ∀ id, Live σ id → ι id ≠ b

/-- A state: the world, what is foreign, the interpreter's heap, where its entries lie. -/
structure St where
  w : World
  Y : Nat → Prop
  σ : Heap
  ι : Nat → Nat

def St.imm (s : St) : Nat → Prop := Imm s.w s.Y s.σ s.ι

inductive PVR (s : St) : PV → Value → Prop
  | undef : PVR s .undef Go.undef
  | v {x : FV} {v : Value} (h : FVR s.w s.imm x v) : PVR s (.v x) v
  | nils : PVR s .nils (.slice none 0 0)
  | full {xs : List (List FV)} {b off : Nat} (h : FVR s.w s.imm (.sl xs) (.slice (some ⟨b, off, none⟩) xs.length xs.length)) :
      PVR s (.full xs) (.slice (some ⟨b, off, none⟩) xs.length xs.length)
  | buf {id len sz : Nat} {v : Value} (hb : s.σ.isBlk id) (hv : len * sz ≤ s.σ.ver id) (ho : v.oneCell' = true)
      (h : s.σ.ver id = len * sz → ∃ cap cs el fr, v = .slice (some ⟨s.ι id, 0, none⟩) len cap ∧ len ≤ cap ∧ s.w.heap[s.ι id]? = some (.cells cs el fr) ∧ cs.size = cap * sz ∧ cap ≤ maxLen) :
      PVR s (.buf id len sz) v
  | ptr {id ver off : Nat} {v : Value} (hb : s.σ.isBlk id) (hv : ver ≤ s.σ.ver id) (ho : v.oneCell' = true)
      (h : s.σ.ver id = ver → v = .pointer (some ⟨s.ι id, off, none⟩)) : PVR s (.ptr id ver off) v
  | fptr {cells : List FV} {b off : Nat} (himm : s.imm b)
      (hcell : ∀ (j : Nat) (x : FV), cells[j]? = some x → ∃ u, s.w.cell? ⟨b, off + j, none⟩ = some u ∧ FVR s.w s.imm x u) : PVR s (.fptr cells) (.pointer (some ⟨b, off, none⟩))
  | clo {f : FuncId} {first caps : List PV} {fv cv : Array Value} (hf : first.length = fv.size) (hc : caps.length = cv.size)
      (h1 : ∀ (i : Nat) (x : PV), first[i]? = some x → PVR s x (fv.getD i Go.undef))
      (h2 : ∀ (i : Nat) (x : PV), caps[i]? = some x → PVR s x (cv.getD i Go.undef)) : PVR s (.clo f first caps) (.func (.func f) fv cv)
  | yld {id : Nat} (h : s.σ.isLoop id) : PVR s (.yld id) (.func (.yield (s.ι id)) #[] #[])
  | agg {cells : List PV} {cs : Array Value} (hs : cells.length = cs.size)
      (h : ∀ (i : Nat) (x : PV), cells[i]? = some x → PVR s x (cs.getD i Go.undef)) (ho : ∀ (i : Nat) (u : Value), cs[i]? = some u → u.oneCell' = true) : PVR s (.agg cells) (.agg cs)
  | tup {xs : List PV} {vs : Array Value} (hs : xs.length = vs.size)
      (h : ∀ (i : Nat) (x : PV), xs[i]? = some x → PVR s x (vs.getD i Go.undef)) : PVR s (.tup xs) (.tuple vs)

/-- From one state to a later one. -/
structure Ev (s s' : St) : Prop where
  Y : s'.Y = s.Y
  size : s.w.heap.size ≤ s'.w.heap.size
  keep : ∀ b, b < s.w.heap.size → (∀ id, Live s.σ id → s.ι id ≠ b) → s'.w.heap[b]? = s.w.heap[b]?
  live : ∀ id, Live s'.σ id → s'.ι id < s.w.heap.size → ∃ id0, Live s.σ id0 ∧ s.ι id0 = s'.ι id
  blk : ∀ id el cells lv, s.σ.ent id = .blk el cells lv → ∃ cells' lv', s'.σ.ent id = .blk el cells' lv' ∧ cells.length ≤ cells'.length ∧
    (cells'.length = cells.length → s'.ι id = s.ι id ∧ ∀ cs e fr, s.w.heap[s.ι id]? = some (.cells cs e fr) → ∃ cs' fr', s'.w.heap[s.ι id]? = some (.cells cs' e fr') ∧ cs'.size = cs.size)
  loop : ∀ id fn e n ps as_ bo st pend, s.σ.ent id = .loop fn e n ps as_ bo st pend → (∃ st' pend', s'.σ.ent id = .loop fn e n ps as_ bo st' pend') ∧ s'.ι id = s.ι id
  os : s'.w.os = s.w.os
  tape : s'.w.tape = s.w.tape
  output : s'.w.output = s.w.output

theorem Ev.refl (s : St) : Ev s s where
  Y := rfl
  size := Nat.le_refl _
  keep := fun _ _ _ => rfl
  live := fun id h _ => ⟨id, h, rfl⟩
  blk := fun id el cells lv h => ⟨cells, lv, h, Nat.le_refl _, fun _ => ⟨rfl, fun cs e fr h => ⟨cs, fr, h, rfl⟩⟩⟩
  loop := fun id fn e n ps as_ bo st pend h => ⟨⟨st, pend, h⟩, rfl⟩
  os := rfl
  tape := rfl
  output := rfl

theorem Ev.trans {s s' s'' : St} (h : Ev s s') (h' : Ev s' s'') : Ev s s'' where
  Y := h'.Y.trans h.Y
  size := Nat.le_trans h.size h'.size
  keep := fun b hb hl => by
    rw [h'.keep b (Nat.lt_of_lt_of_le hb h.size), h.keep b hb hl]
    intro id hid heq
    obtain ⟨id0, h0, h1⟩ := h.live id hid (heq ▸ hb)
    exact hl id0 h0 (h1.trans heq)
  live := fun id hid hlt => by
    obtain ⟨id1, h1, e1⟩ := h'.live id hid (Nat.lt_of_lt_of_le hlt h.size)
    obtain ⟨id0, h0, e0⟩ := h.live id1 h1 (by rw [e1]; exact hlt)
    exact ⟨id0, h0, e0.trans e1⟩
  blk := fun id el cells lv hb => by
    obtain ⟨c1, l1, e1, le1, k1⟩ := h.blk id el cells lv hb
    obtain ⟨c2, l2, e2, le2, k2⟩ := h'.blk id el c1 l1 e1
    refine ⟨c2, l2, e2, Nat.le_trans le1 le2, fun heq => ?_⟩
    have q1 : c1.length = cells.length := by omega
    have q2 : c2.length = c1.length := by omega
    obtain ⟨a1, b1⟩ := k1 q1
    obtain ⟨a2, b2⟩ := k2 q2
    refine ⟨a2.trans a1, fun cs e fr hc => ?_⟩
    obtain ⟨cs1, fr1, hc1, hs1⟩ := b1 cs e fr hc
    obtain ⟨cs2, fr2, hc2, hs2⟩ := b2 cs1 e fr1 (by rw [a1]; exact hc1)
    exact ⟨cs2, fr2, by rw [a1] at hc2; exact hc2, hs2.trans hs1⟩
  loop := fun id fn e n ps as_ bo st pend hl => by
    obtain ⟨⟨s1, p1, e1⟩, i1⟩ := h.loop id fn e n ps as_ bo st pend hl
    obtain ⟨h2, i2⟩ := h'.loop id fn e n ps as_ bo s1 p1 e1
    exact ⟨h2, i2.trans i1⟩
  os := h'.os.trans h.os
  tape := h'.tape.trans h.tape
  output := h'.output.trans h.output

theorem Ev.imm {s s' : St} (h : Ev s s') (b : Nat) (hb : s.imm b) : s'.imm b ∧ s'.w.heap[b]? = s.w.heap[b]? := by
  obtain ⟨h1, h2, h3⟩ := hb
  refine ⟨⟨Nat.lt_of_lt_of_le h1 h.size, by rw [h.Y]; exact h2, fun id hid heq => ?_⟩, h.keep b h1 h3⟩
  obtain ⟨id0, h0, e0⟩ := h.live id hid (heq ▸ h1)
  exact h3 id0 h0 (e0.trans heq)

theorem Ev.fvr {s s' : St} (h : Ev s s') {x : FV} {v : Value} (hx : FVR s.w s.imm x v) : FVR s'.w s'.imm x v := hx.mono h.imm

theorem Ev.isBlk {s s' : St} (h : Ev s s') {id : Nat} (hb : s.σ.isBlk id) : s'.σ.isBlk id := by
  obtain ⟨el, cells, lv, e⟩ := hb
  obtain ⟨c', l', e', _⟩ := h.blk id el cells lv e
  exact ⟨el, c', l', e'⟩

theorem Ev.ver {s s' : St} (h : Ev s s') {id : Nat} (hb : s.σ.isBlk id) : s.σ.ver id ≤ s'.σ.ver id ∧
    (s'.σ.ver id = s.σ.ver id → s'.ι id = s.ι id ∧ ∀ cs e fr, s.w.heap[s.ι id]? = some (.cells cs e fr) → ∃ cs' fr', s'.w.heap[s.ι id]? = some (.cells cs' e fr') ∧ cs'.size = cs.size) := by
  obtain ⟨el, cells, lv, e⟩ := hb
  obtain ⟨c', l', e', hle, hk⟩ := h.blk id el cells lv e
  simp only [Heap.ver, e, e']
  exact ⟨hle, hk⟩

theorem Ev.pvr {s s' : St} (h : Ev s s') {x : PV} {v : Value} (hx : PVR s x v) : PVR s' x v := by
  induction hx with
  | undef => exact .undef
  | v hx => exact .v (h.fvr hx)
  | nils => exact .nils
  | full hx => exact .full (h.fvr hx)
  | buf hb hv ho hk =>
    obtain ⟨hle, heq⟩ := h.ver hb
    refine .buf (h.isBlk hb) (Nat.le_trans hv hle) ho fun e => ?_
    have e1 : s'.σ.ver _ = s.σ.ver _ := Nat.le_antisymm (by omega) hle
    obtain ⟨hi, hs⟩ := heq e1
    obtain ⟨cap, cs, el, fr, q1, q2, q3, q4, q5⟩ := hk (by omega)
    obtain ⟨cs', fr', r1, r2⟩ := hs cs el fr q3
    exact ⟨cap, cs', el, fr', by rw [hi]; exact q1, q2, by rw [hi]; exact r1, r2.trans q4, q5⟩
  | ptr hb hv ho hk =>
    obtain ⟨hle, heq⟩ := h.ver hb
    refine .ptr (h.isBlk hb) (Nat.le_trans hv hle) ho fun e => ?_
    have e1 : s'.σ.ver _ = s.σ.ver _ := Nat.le_antisymm (by omega) hle
    rw [(heq e1).1]
    exact hk (by omega)
  | @fptr cells b off himm hcell =>
    refine .fptr (h.imm _ himm).1 (fun j x hj => ?_)
    obtain ⟨u, h1, h2⟩ := hcell j x hj
    refine ⟨u, ?_, h.fvr h2⟩
    rw [← h1]
    simp only [World.cell?, (h.imm _ himm).2]
  | clo hf hc _ _ ih1 ih2 => exact .clo hf hc ih1 ih2
  | yld hl =>
    obtain ⟨fn, e, n, ps, as_, bo, st, pend, hl⟩ := hl
    obtain ⟨⟨st', pend', h1⟩, h2⟩ := h.loop _ _ _ _ _ _ _ _ _ hl
    rw [← h2]
    exact .yld ⟨_, _, _, _, _, _, _, _, h1⟩
  | agg hs _ ho ih => exact .agg hs ih ho
  | tup hs _ ih => exact .tup hs ih

/-- What stands in an entry. -/
def EntOK (s : St) (id : Nat) : Ent → Prop
  | .none => True
  | .blk el cells lv => ∃ cs fr, s.w.heap[s.ι id]? = some (.cells cs el fr) ∧ cells.length ≤ cs.size ∧ (lv = true → fr = (0, 0)) ∧
      ∀ (j : Nat) (x : PV), cells[j]? = some x → ∃ u, cs[j]? = some u ∧ PVR s x u ∧ u.oneCell' = true
  | .loop _ e n ps as_ bo st pend => ∃ fn tmps defers, s.w.heap[s.ι id]? = some (.loop { state := st, pending := pend, fn := fn, tmps := tmps, params := ps.toArray, assign := as_, body := bo, defers := defers }) ∧
      tmps.size = n ∧ ∀ t, PVR s (e t) (tmps.getD t Go.undef)

structure Inv (s : St) : Prop where
  ent : ∀ id, EntOK s id (s.σ.ent id)
  inj : ∀ id id', Live s.σ id → Live s.σ id' → s.ι id = s.ι id' → id = id'
  notY : ∀ id, Live s.σ id → ¬ s.Y (s.ι id)
  fz : ∀ id el cells, s.σ.ent id = .blk el cells false → s.imm (s.ι id)
  nx : ∀ id, s.σ.nx ≤ id → s.σ.ent id = .none
  Ylt : ∀ b, s.Y b → b < s.w.heap.size

/-- The slots. -/
def EnvR (s : St) (n : Nat) (e : Env) (a : Act) : Prop := a.tmps.size = n ∧ ∀ t, PVR s (e t) (a.tmps.getD t Go.undef)

theorem EnvR.mono {s s' : St} {n : Nat} {e : Env} {a : Act} (h : EnvR s n e a) (hev : Ev s s') : EnvR s' n e a :=
  ⟨h.1, fun t => hev.pvr (h.2 t)⟩

theorem Live.lt {s : St} (hi : Inv s) {id : Nat} (h : Live s.σ id) : s.ι id < s.w.heap.size := by
  have he := hi.ent id
  rcases h with ⟨el, cells, e⟩ | ⟨fn, e', n, ps, as_, bo, st, pend, e⟩
  · rw [e] at he
    obtain ⟨cs, fr, h1, _⟩ := he
    exact (Array.getElem?_eq_some_iff.1 h1).1
  · rw [e] at he
    obtain ⟨fn2, tmps, defers, h1, _⟩ := he
    exact (Array.getElem?_eq_some_iff.1 h1).1

end Go.Dn
