/- Blocks laid and written: the state goes on. -/
import Derived.Test.YtefaoeaohhdhkaaD3
set_option linter.unusedVariables false
set_option linter.unusedSimpArgs false
namespace Go.Dn
open Go

theorem upd_same {α : Type} (f : Nat → α) (i : Nat) (x : α) : upd f i x i = x := by simp [upd]
theorem upd_ne {α : Type} (f : Nat → α) {i j : Nat} (x : α) (h : j ≠ i) : upd f i x j = f j := by simp [upd, h]

theorem live_put {σ : Heap} {id : Nat} {en : Ent} {id' : Nat} (h : id' ≠ id) : Live (σ.put id en) id' ↔ Live σ id' := by
  simp [Live, Heap.isLoop, Heap.put, upd, h]

/-- A block of the interpreter's own, laid or written. -/
structure Put (s : St) (id : Nat) (el : TypeId) (cells' : List PV) (g : Nat) (w' : World) (cs' : Array Value) : Prop where
  old : s.σ.ent id = .none ∨ ∃ cells, s.σ.ent id = .blk el cells true ∧ cells.length ≤ cells'.length ∧ (cells'.length = cells.length → g = s.ι id)
  place : s.w.heap.size ≤ g ∨ (g = s.ι id ∧ (∃ cells, s.σ.ent id = .blk el cells true) ∧ ∀ cs e fr, s.w.heap[g]? = some (.cells cs e fr) → cs'.size = cs.size)
  size : s.w.heap.size ≤ w'.heap.size
  others : ∀ b, b < s.w.heap.size → b ≠ g → w'.heap[b]? = s.w.heap[b]?
  here : w'.heap[g]? = some (.cells cs' el (0, 0))
  len : cells'.length ≤ cs'.size
  cells : ∀ (j : Nat) (x : PV), cells'[j]? = some x → ∃ u, cs'[j]? = some u ∧ PVR s x u ∧ u.oneCell' = true
  nx : id < s.σ.nx
  os : w'.os = s.w.os
  tape : w'.tape = s.w.tape
  output : w'.output = s.w.output

def St.put (s : St) (id : Nat) (el : TypeId) (cells' : List PV) (g : Nat) (w' : World) : St := ⟨w', s.Y, s.σ.put id (.blk el cells' true), upd s.ι id g⟩

theorem Put.old_elem {s : St} (hi : Inv s) {id : Nat} {el : TypeId} {cells : List PV} {lv : Bool} (h : s.σ.ent id = .blk el cells lv) : ∃ cs fr, s.w.heap[s.ι id]? = some (.cells cs el fr) := by
  have := hi.ent id
  rw [h] at this
  obtain ⟨cs, fr, h1, _⟩ := this
  exact ⟨cs, fr, h1⟩

theorem Put.ev {s : St} {id : Nat} {el : TypeId} {cells' : List PV} {g : Nat} {w' : World} {cs' : Array Value} (hi : Inv s) (h : Put s id el cells' g w' cs') :
    Ev s (s.put id el cells' g w') where
  Y := rfl
  size := h.size
  keep := fun b hb hl => by
    refine h.others b hb fun e => ?_
    rcases h.place with hp | ⟨hp, ⟨cells, hc⟩, _⟩
    · omega
    · exact hl id (.inl ⟨el, cells, hc⟩) (by rw [e, hp])
  live := fun id' hid hlt => by
    by_cases e : id' = id
    · subst e
      simp only [St.put, upd_same] at hlt ⊢
      rcases h.place with hp | ⟨hp, ⟨cells, hc⟩, _⟩
      · omega
      · exact ⟨id', .inl ⟨el, cells, hc⟩, hp.symm⟩
    · simp only [St.put, upd_ne _ _ e] at hlt ⊢
      exact ⟨id', (live_put e).1 hid, rfl⟩
  blk := fun id' el' cells lv hb => by
    by_cases e : id' = id
    · subst e
      rcases h.old with ho | ⟨c0, ho, hle, hg⟩
      · rw [ho] at hb; cases hb
      · rw [ho] at hb; cases hb
        refine ⟨cells', true, by simp [St.put, Heap.put, upd_same], hle, fun heq => ?_⟩
        have hg' := hg heq
        subst hg'
        refine ⟨by simp [St.put, upd_same], fun cs e fr hcs => ?_⟩
        obtain ⟨cs0, fr0, h0⟩ := Put.old_elem hi ho
        rw [h0] at hcs; cases hcs
        refine ⟨cs', (0, 0), by rw [← h.here]; rfl, ?_⟩
        rcases h.place with hp | ⟨_, _, hsz⟩
        · have := (Array.getElem?_eq_some_iff.1 h0).1; omega
        · exact hsz _ _ _ h0
    · refine ⟨cells, lv, by simp [St.put, Heap.put, upd_ne _ _ e, hb], Nat.le_refl _, fun _ => ⟨by simp [St.put, upd_ne _ _ e], fun cs e' fr hcs => ?_⟩⟩
      refine ⟨cs, fr, ?_, rfl⟩
      rw [← hcs]
      refine h.others _ (Array.getElem?_eq_some_iff.1 hcs).1 fun hg => ?_
      rcases h.place with hp | ⟨hp, ⟨c, hc⟩, _⟩
      · have := (Array.getElem?_eq_some_iff.1 hcs).1; omega
      · cases lv with
        | true => exact e (hi.inj id' id (.inl ⟨el', cells, hb⟩) (.inl ⟨el, c, hc⟩) (hg.trans hp))
        | false => exact (hi.fz id' el' cells hb).2.2 id (.inl ⟨el, c, hc⟩) (hp ▸ hg.symm)
  loop := fun id' fn e n ps as_ bo st pend hl => by
    by_cases e' : id' = id
    · subst e'
      rcases h.old with ho | ⟨c0, ho, _⟩ <;> rw [ho] at hl <;> cases hl
    · exact ⟨⟨st, pend, by simp [St.put, Heap.put, upd_ne _ _ e', hl]⟩, by simp [St.put, upd_ne _ _ e']⟩
  os := h.os
  tape := h.tape
  output := h.output

theorem Put.ne {s : St} {id : Nat} {el : TypeId} {cells' : List PV} {g : Nat} {w' : World} {cs' : Array Value} (hi : Inv s) (h : Put s id el cells' g w' cs')
    {id' : Nat} (hne : id' ≠ id) (hl : Live s.σ id') : s.ι id' ≠ g := by
  intro e
  rcases h.place with hp | ⟨hp, ⟨c, hc⟩, _⟩
  · have := hl.lt hi; omega
  · exact hne (hi.inj id' id hl (.inl ⟨el, c, hc⟩) (e.trans hp))

theorem Put.inv {s : St} {id : Nat} {el : TypeId} {cells' : List PV} {g : Nat} {w' : World} {cs' : Array Value} (hi : Inv s) (h : Put s id el cells' g w' cs') :
    Inv (s.put id el cells' g w') := by
  have hev := h.ev hi
  refine ⟨fun id' => ?_, fun id1 id2 h1 h2 he => ?_, fun id' hl => ?_, fun id' el' c hb => ?_, fun id' hn => ?_, fun b hb => Nat.lt_of_lt_of_le (hi.Ylt b hb) h.size⟩
  · by_cases e : id' = id
    · subst e
      have : (s.put id' el cells' g w').σ.ent id' = .blk el cells' true := by simp [St.put, Heap.put, upd_same]
      rw [this]
      refine ⟨cs', (0, 0), by simp only [St.put, upd_same]; exact h.here, h.len, fun _ => rfl, fun j x hj => ?_⟩
      obtain ⟨u, hu, hp, ho⟩ := h.cells j x hj
      exact ⟨u, hu, hev.pvr hp, ho⟩
    · have h1 : (s.put id el cells' g w').σ.ent id' = s.σ.ent id' := by simp [St.put, Heap.put, upd_ne _ _ e]
      have h2 : (s.put id el cells' g w').ι id' = s.ι id' := by simp [St.put, upd_ne _ _ e]
      rw [h1]
      have he := hi.ent id'
      cases hent : s.σ.ent id' with
      | none => trivial
      | blk el' c lv =>
        rw [hent] at he
        obtain ⟨cs, fr, q1, q2, q3, q4⟩ := he
        refine ⟨cs, fr, ?_, q2, q3, fun j x hj => ?_⟩
        · rw [h2, ← q1]
          refine h.others _ (Array.getElem?_eq_some_iff.1 q1).1 fun hg => ?_
          cases lv with
          | true => exact h.ne hi e (.inl ⟨el', c, hent⟩) hg
          | false =>
            rcases h.place with hp | ⟨hp, ⟨c', hc⟩, _⟩
            · have := (Array.getElem?_eq_some_iff.1 q1).1; omega
            · exact (hi.fz id' el' c hent).2.2 id (.inl ⟨el, c', hc⟩) (hp ▸ hg.symm)
        · obtain ⟨u, hu, hp, ho⟩ := q4 j x hj
          exact ⟨u, hu, hev.pvr hp, ho⟩
      | loop fn e' n ps as_ bo st pend =>
        rw [hent] at he
        obtain ⟨fn2, tmps, defers, q1, q2, q3⟩ := he
        refine ⟨fn2, tmps, defers, ?_, q2, fun t => hev.pvr (q3 t)⟩
        rw [h2, ← q1]
        exact h.others _ (Array.getElem?_eq_some_iff.1 q1).1 (h.ne hi e (.inr ⟨_, _, _, _, _, _, _, _, hent⟩))
  · by_cases e1 : id1 = id <;> by_cases e2 : id2 = id
    · rw [e1, e2]
    · subst e1
      simp only [St.put, upd_same, upd_ne _ _ e2] at he
      exact absurd he.symm (h.ne hi e2 ((live_put e2).1 h2))
    · subst e2
      simp only [St.put, upd_same, upd_ne _ _ e1] at he
      exact absurd he (h.ne hi e1 ((live_put e1).1 h1))
    · simp only [St.put, upd_ne _ _ e1, upd_ne _ _ e2] at he
      exact hi.inj id1 id2 ((live_put e1).1 h1) ((live_put e2).1 h2) he
  · by_cases e : id' = id
    · subst e
      simp only [St.put, upd_same]
      intro hy
      rcases h.place with hp | ⟨hp, ⟨c, hc⟩, _⟩
      · have := hi.Ylt _ hy; omega
      · rw [hp] at hy; exact hi.notY id' (.inl ⟨el, c, hc⟩) hy
    · simp only [St.put, upd_ne _ _ e]
      exact hi.notY id' ((live_put e).1 hl)
  · by_cases e : id' = id
    · subst e
      simp [St.put, Heap.put, upd_same] at hb
    · have hb' : s.σ.ent id' = .blk el' c false := by simpa [St.put, Heap.put, upd_ne _ _ e] using hb
      have : (s.put id el cells' g w').ι id' = s.ι id' := by simp [St.put, upd_ne _ _ e]
      rw [this]
      exact (hev.imm _ (hi.fz id' el' c hb')).1
  · have hne : id' ≠ id := by
      intro e; subst e
      have := h.nx
      simp only [St.put, Heap.put] at hn
      omega
    simp only [St.put, Heap.put, upd_ne _ _ hne]
    exact hi.nx id' hn

/-- A block laid. -/
theorem put_new {s : St} (hi : Inv s) {id : Nat} (hid : s.σ.ent id = .none) (hnx : id < s.σ.nx) (el : TypeId) (cells : List PV) (cs : Array Value) (w' : World)
    (hw : w'.heap = s.w.heap.push (.cells cs el (0, 0))) (hos : w'.os = s.w.os) (ht : w'.tape = s.w.tape) (ho : w'.output = s.w.output)
    (hl : cells.length ≤ cs.size) (hc : ∀ (j : Nat) (x : PV), cells[j]? = some x → ∃ u, cs[j]? = some u ∧ PVR s x u ∧ u.oneCell' = true) :
    Put s id el cells s.w.heap.size w' cs where
  old := .inl hid
  place := .inl (Nat.le_refl _)
  size := by rw [hw]; simp
  others := fun b hb _ => by rw [hw, Array.getElem?_push]; simp; omega
  here := by rw [hw]; simp
  len := hl
  cells := hc
  nx := hnx
  os := hos
  tape := ht
  output := ho

theorem St.put_eta {s : St} {id : Nat} {el : TypeId} {cells : List PV} {g : Nat} {w' : World} :
    (⟨w', s.Y, s.σ.put id (.blk el cells true), upd s.ι id g⟩ : St) = s.put id el cells g w' := rfl

end Go.Dn
