/- The code of an activation. -/
import Derived.Test.YtefaoeaohhdhkaaD14b
import Derived.RangeFuncRecord
import Derived.LoopNIn
set_option linter.unusedVariables false
set_option linter.unusedSimpArgs false
namespace Go.Dn
open Go

/-! ### A loop's record, laid or turned -/
structure LPut (s : St) (id : Nat) (fn : FuncId) (e : Env) (n : Nat) (ps : List Nat) (as_ bo : Code) (st : LoopState) (pend : Option Code) (g : Nat) (w' : World) : Prop where
  old : (s.σ.ent id = .none ∧ s.w.heap.size ≤ g) ∨ ((∃ st0 pend0, s.σ.ent id = .loop fn e n ps as_ bo st0 pend0) ∧ g = s.ι id)
  size : s.w.heap.size ≤ w'.heap.size
  others : ∀ b, b < s.w.heap.size → b ≠ g → w'.heap[b]? = s.w.heap[b]?
  here : ∃ fn' tmps defers, w'.heap[g]? = some (.loop { state := st, pending := pend, fn := fn', tmps := tmps, params := ps.toArray, assign := as_, body := bo, defers := defers }) ∧
    tmps.size = n ∧ ∀ t, PVR s (e t) (tmps.getD t Go.undef)
  nx : id < s.σ.nx
  os : w'.os = s.w.os
  tape : w'.tape = s.w.tape
  output : w'.output = s.w.output

def St.lput (s : St) (id : Nat) (en : Ent) (g : Nat) (w' : World) : St := ⟨w', s.Y, s.σ.put id en, upd s.ι id g⟩

section
variable {s : St} {id : Nat} {fn : FuncId} {e : Env} {n : Nat} {ps : List Nat} {as_ bo : Code} {st : LoopState} {pend : Option Code} {g : Nat} {w' : World}

theorem LPut.old_rec (hi : Inv s) {st0 : LoopState} {pend0 : Option Code} (h : s.σ.ent id = .loop fn e n ps as_ bo st0 pend0) : ∃ fn' tmps defers, s.w.heap[s.ι id]? = some (.loop { state := st0, pending := pend0, fn := fn', tmps := tmps, params := ps.toArray, assign := as_, body := bo, defers := defers }) ∧
    tmps.size = n ∧ ∀ t, PVR s (e t) (tmps.getD t Go.undef) := by
  have := hi.ent id
  rw [h] at this
  exact this

theorem LPut.ne (hi : Inv s) (h : LPut s id fn e n ps as_ bo st pend g w') {id' : Nat} (hne : id' ≠ id) (hl : Live s.σ id') : s.ι id' ≠ g := by
  intro e
  rcases h.old with ⟨_, hp⟩ | ⟨⟨s0, p0, ho⟩, hp⟩
  · have := hl.lt hi; omega
  · exact hne (hi.inj id' id hl (.inr ⟨_, _, _, _, _, _, _, _, ho⟩) (e.trans hp))

theorem LPut.blk_ne (hi : Inv s) (h : LPut s id fn e n ps as_ bo st pend g w') {b : Nat} {cs : Array Value} {el : TypeId} {fr : Nat × Nat} (hb : s.w.heap[b]? = some (.cells cs el fr)) : b ≠ g := by
  intro hg
  subst hg
  rcases h.old with ⟨_, hp⟩ | ⟨⟨s0, p0, ho⟩, hp⟩
  · have := (Array.getElem?_eq_some_iff.1 hb).1; omega
  · obtain ⟨f, t, d, q, _⟩ := LPut.old_rec hi ho
    rw [← hp, hb] at q
    cases q

theorem LPut.ev (hi : Inv s) (h : LPut s id fn e n ps as_ bo st pend g w') : Ev s (s.lput id (.loop fn e n ps as_ bo st pend) g w') where
  Y := rfl
  size := h.size
  keep := fun b hb hl => by
    refine h.others b hb fun e => ?_
    rcases h.old with ⟨_, hp⟩ | ⟨⟨s0, p0, ho⟩, hp⟩
    · omega
    · exact hl id (.inr ⟨_, _, _, _, _, _, _, _, ho⟩) (by rw [e, hp])
  live := fun id' hid hlt => by
    by_cases e : id' = id
    · subst e
      simp only [St.lput, upd_same] at hlt ⊢
      rcases h.old with ⟨_, hp⟩ | ⟨⟨s0, p0, ho⟩, hp⟩
      · omega
      · exact ⟨id', .inr ⟨_, _, _, _, _, _, _, _, ho⟩, hp.symm⟩
    · simp only [St.lput, upd_ne _ _ e] at hlt ⊢
      exact ⟨id', (live_put e).1 hid, rfl⟩
  blk := fun id' el' cells lv hb => by
    have e : id' ≠ id := by
      rintro rfl
      rcases h.old with ⟨ho, _⟩ | ⟨⟨s0, p0, ho⟩, _⟩ <;> rw [ho] at hb <;> cases hb
    refine ⟨cells, lv, by simp [St.lput, Heap.put, upd_ne _ _ e, hb], Nat.le_refl _, fun _ => ⟨by simp [St.lput, upd_ne _ _ e], fun cs e' fr hcs => ?_⟩⟩
    refine ⟨cs, fr, ?_, rfl⟩
    rw [← hcs]
    exact h.others _ (Array.getElem?_eq_some_iff.1 hcs).1 (h.blk_ne hi hcs)
  loop := fun id' fn' e1 n' ps' as' bo' st' pend' hl => by
    by_cases e' : id' = id
    · subst e'
      rcases h.old with ⟨ho, _⟩ | ⟨⟨s0, p0, ho⟩, hp⟩
      · rw [ho] at hl; cases hl
      · rw [ho] at hl; cases hl
        exact ⟨⟨st, pend, by simp [St.lput, Heap.put, upd_same]⟩, by simp [St.lput, upd_same, hp]⟩
    · exact ⟨⟨st', pend', by simp [St.lput, Heap.put, upd_ne _ _ e', hl]⟩, by simp [St.lput, upd_ne _ _ e']⟩
  os := h.os
  tape := h.tape
  output := h.output

theorem LPut.inv (hi : Inv s) (h : LPut s id fn e n ps as_ bo st pend g w') : Inv (s.lput id (.loop fn e n ps as_ bo st pend) g w') := by
  have hev := h.ev hi
  have hsame : (s.lput id (.loop fn e n ps as_ bo st pend) g w').σ.ent id = .loop fn e n ps as_ bo st pend := by simp [St.lput, Heap.put, upd_same]
  refine ⟨fun id' => ?_, fun id1 id2 h1 h2 he => ?_, fun id' hl => ?_, fun id' el' c hb => ?_, fun id' hn => ?_, fun b hb => Nat.lt_of_lt_of_le (hi.Ylt b hb) h.size⟩
  · by_cases e1 : id' = id
    · subst e1
      rw [hsame]
      obtain ⟨f, t, d, q1, q2, q3⟩ := h.here
      exact ⟨f, t, d, by simp only [St.lput, upd_same]; exact q1, q2, fun k => hev.pvr (q3 k)⟩
    · have h1 : (s.lput id (.loop fn e n ps as_ bo st pend) g w').σ.ent id' = s.σ.ent id' := by simp [St.lput, Heap.put, upd_ne _ _ e1]
      have h2 : (s.lput id (.loop fn e n ps as_ bo st pend) g w').ι id' = s.ι id' := by simp [St.lput, upd_ne _ _ e1]
      rw [h1]
      have he := hi.ent id'
      cases hent : s.σ.ent id' with
      | none => trivial
      | blk el' c lv =>
        rw [hent] at he
        obtain ⟨cs, fr, q1, q2, q3, q4⟩ := he
        refine ⟨cs, fr, ?_, q2, q3, fun j x hj => ?_⟩
        · rw [h2, ← q1]
          exact h.others _ (Array.getElem?_eq_some_iff.1 q1).1 (h.blk_ne hi q1)
        · obtain ⟨u, hu, hp, ho⟩ := q4 j x hj
          exact ⟨u, hu, hev.pvr hp, ho⟩
      | loop fn' e' n' ps' as' bo' st' pend' =>
        rw [hent] at he
        obtain ⟨fn2, tmps, defers, q1, q2, q3⟩ := he
        refine ⟨fn2, tmps, defers, ?_, q2, fun t => hev.pvr (q3 t)⟩
        rw [h2, ← q1]
        exact h.others _ (Array.getElem?_eq_some_iff.1 q1).1 (h.ne hi e1 (.inr ⟨_, _, _, _, _, _, _, _, hent⟩))
  · by_cases e1 : id1 = id <;> by_cases e2 : id2 = id
    · rw [e1, e2]
    · subst e1
      simp only [St.lput, upd_same, upd_ne _ _ e2] at he
      exact absurd he.symm (h.ne hi e2 ((live_put e2).1 h2))
    · subst e2
      simp only [St.lput, upd_same, upd_ne _ _ e1] at he
      exact absurd he (h.ne hi e1 ((live_put e1).1 h1))
    · simp only [St.lput, upd_ne _ _ e1, upd_ne _ _ e2] at he
      exact hi.inj id1 id2 ((live_put e1).1 h1) ((live_put e2).1 h2) he
  · by_cases e1 : id' = id
    · subst e1
      simp only [St.lput, upd_same]
      intro hy
      rcases h.old with ⟨_, hp⟩ | ⟨⟨s0, p0, ho⟩, hp⟩
      · have := hi.Ylt _ hy; omega
      · rw [hp] at hy; exact hi.notY id' (.inr ⟨_, _, _, _, _, _, _, _, ho⟩) hy
    · simp only [St.lput, upd_ne _ _ e1]
      exact hi.notY id' ((live_put e1).1 hl)
  · by_cases e1 : id' = id
    · subst e1
      rw [hsame] at hb; cases hb
    · have hb' : s.σ.ent id' = .blk el' c false := by simpa [St.lput, Heap.put, upd_ne _ _ e1] using hb
      have : (s.lput id (.loop fn e n ps as_ bo st pend) g w').ι id' = s.ι id' := by simp [St.lput, upd_ne _ _ e1]
      rw [this]
      exact (hev.imm _ (hi.fz id' el' c hb')).1
  · have hne : id' ≠ id := by
      intro e; subst e
      have := h.nx
      simp only [St.lput, Heap.put] at hn
      omega
    simp only [St.lput, Heap.put, upd_ne _ _ hne]
    exact hi.nx id' hn
end

/-! ### A block behind the heap -/
def St.push (s : St) (o : Obj) : St := ⟨s.w.alloc o, s.Y, s.σ, s.ι⟩

theorem alloc_old {w : World} {o : Obj} {b : Nat} (h : b < w.heap.size) : (w.alloc o).heap[b]? = w.heap[b]? := by
  show (w.heap.push o)[b]? = _
  rw [Array.getElem?_push]
  rw [if_neg (by omega)]

theorem alloc_sz (w : World) (o : Obj) : (w.alloc o).heap.size = w.heap.size + 1 := by
  show (w.heap.push o).size = _
  simp

theorem push_ev (s : St) (o : Obj) : Ev s (s.push o) where
  Y := rfl
  size := by rw [St.push, alloc_sz]; exact Nat.le_succ _
  keep := fun b hb _ => alloc_old hb
  live := fun id h _ => ⟨id, h, rfl⟩
  blk := fun id el cells lv h => ⟨cells, lv, h, Nat.le_refl _, fun _ => ⟨rfl, fun cs e fr h => ⟨cs, fr, by rw [← h]; exact alloc_old (Array.getElem?_eq_some_iff.1 h).1, rfl⟩⟩⟩
  loop := fun id fn e n ps as_ bo st pend h => ⟨⟨st, pend, h⟩, rfl⟩
  os := rfl
  tape := rfl
  output := rfl

theorem push_inv {s : St} (hi : Inv s) (o : Obj) : Inv (s.push o) := by
  have hev := push_ev s o
  refine ⟨fun id => ?_, hi.inj, hi.notY, fun id el c h => (hev.imm _ (hi.fz id el c h)).1, hi.nx, fun b hb => Nat.lt_of_lt_of_le (hi.Ylt b hb) hev.size⟩
  have he := hi.ent id
  change EntOK _ id (s.σ.ent id)
  cases hent : s.σ.ent id with
  | none => trivial
  | blk el' c lv =>
    rw [hent] at he
    obtain ⟨cs, fr, q1, q2, q3, q4⟩ := he
    exact ⟨cs, fr, (alloc_old (Array.getElem?_eq_some_iff.1 q1).1).trans q1, q2, q3, fun j x hj => by
      obtain ⟨u, hu, hp, ho⟩ := q4 j x hj
      exact ⟨u, hu, hev.pvr hp, ho⟩⟩
  | loop fn' e' n' ps' as' bo' st' pend' =>
    rw [hent] at he
    obtain ⟨fn2, tmps, defers, q1, q2, q3⟩ := he
    exact ⟨fn2, tmps, defers, (alloc_old (Array.getElem?_eq_some_iff.1 q1).1).trans q1, q2, fun t => hev.pvr (q3 t)⟩

/-! ### The marks of loops over functions -/
def mark (r : Nat) : Deferred := { target := .collected r, args := #[] }

def Marks (s : St) (n0 : Nat) (ms : List Nat) : Prop := ms.Nodup ∧ ∀ r ∈ ms, n0 ≤ r ∧ s.imm r ∧ s.w.heap[r]? = some (.deferred (some []))

theorem Marks.nil (s : St) (n0 : Nat) : Marks s n0 [] := ⟨List.nodup_nil, fun r h => by cases h⟩

theorem Marks.mono {s s' : St} {n0 : Nat} {ms : List Nat} (h : Marks s n0 ms) (hev : Ev s s') : Marks s' n0 ms :=
  ⟨h.1, fun r hr => by
    obtain ⟨h1, h2, h3⟩ := h.2 r hr
    obtain ⟨h4, h5⟩ := hev.imm r h2
    exact ⟨h1, h4, h5.trans h3⟩⟩

theorem Marks.append {s s' : St} {n0 : Nat} {ms ms' : List Nat} (h : Marks s n0 ms) (hev : Ev s s') (h' : Marks s' s.w.heap.size ms') (hle : n0 ≤ s.w.heap.size) : Marks s' n0 (ms' ++ ms) := by
  have h1 := h.mono hev
  refine ⟨List.nodup_append.2 ⟨h'.1, h.1, fun r hr r' hr' e => ?_⟩, fun r hr => ?_⟩
  · subst e
    have := (h'.2 r hr).1
    have := (h.2 r hr').2.1.1
    omega
  · rcases List.mem_append.1 hr with hr | hr
    · obtain ⟨q1, q2⟩ := h'.2 r hr
      exact ⟨Nat.le_trans hle q1, q2⟩
    · exact h1.2 r hr

structure Aft (s : St) (n : Nat) (a : Act) (e' : Env) (σ' : Heap) (a' : Act) (w' : World) (ι' : Nat → Nat) : Prop where
  inv : Inv ⟨w', s.Y, σ', ι'⟩
  ev : Ev s ⟨w', s.Y, σ', ι'⟩
  env : EnvR ⟨w', s.Y, σ', ι'⟩ n e' a'
  marks : ∃ ms, a'.defers = ms.map mark ++ a.defers ∧ Marks ⟨w', s.Y, σ', ι'⟩ s.w.heap.size ms

theorem Then.aft {s : St} {n : Nat} {a : Act} {e' : Env} {σ' : Heap} {a' : Act} {w' : World} {ι' : Nat → Nat} (h : Then s n a e' σ' a' w' ι') : Aft s n a e' σ' a' w' ι' :=
  ⟨h.inv, h.ev, h.env, [], by simp [h.defers], Marks.nil _ _⟩

theorem Aft.refl {s : St} {n : Nat} {e : Env} {a : Act} (hi : Inv s) (he : EnvR s n e a) : Aft s n a e s.σ a s.w s.ι :=
  ⟨hi, Ev.refl s, he, [], rfl, Marks.nil _ _⟩

theorem Aft.trans {s : St} {n : Nat} {a : Act} {e1 e2 : Env} {σ1 σ2 : Heap} {a1 a2 : Act} {w1 w2 : World} {ι1 ι2 : Nat → Nat}
    (h : Aft s n a e1 σ1 a1 w1 ι1) (h' : Aft ⟨w1, s.Y, σ1, ι1⟩ n a1 e2 σ2 a2 w2 ι2) : Aft s n a e2 σ2 a2 w2 ι2 := by
  obtain ⟨ms, q1, q2⟩ := h.marks
  obtain ⟨ms', q1', q2'⟩ := h'.marks
  exact ⟨h'.inv, h.ev.trans h'.ev, h'.env, ms' ++ ms, by rw [q1', q1, List.map_append, List.append_assoc], q2.append h'.ev q2' h.ev.size⟩

def Ex.out : Ex → Exit
  | .normal => .normal
  | .exit id => .exit id
  | .ret => .ret

def RdOK (rd : Option Nat) (s : St) : Prop := ∀ l, rd = some l → ∃ id, s.σ.isLoop id ∧ s.ι id = l

theorem RdOK.mono {rd : Option Nat} {s s' : St} (h : RdOK rd s) (hev : Ev s s') : RdOK rd s' := fun l hl => by
  obtain ⟨id, ⟨fn, e, n, ps, as_, bo, st, pend, h1⟩, h2⟩ := h l hl
  obtain ⟨⟨st', pend', h3⟩, h4⟩ := hev.loop _ _ _ _ _ _ _ _ _ h1
  exact ⟨id, ⟨_, _, _, _, _, _, _, _, h3⟩, h4.trans h2⟩

variable {X : Ctx} {n : Nat}

theorem enter_ok {s : St} {e : Env} {a : Act} {rd : Option Nat} (hi : Inv s) (he : EnvR s n e a) (hrd : RdOK rd s) (fn fn0 : FuncId) (ps : Array Nat) (as_ bo : Code) :
    ∃ l ms w1 ι1, (Instr.enterLoop fn0 a.tmps ps as_ bo rd).run X.P s.w = .ok (l, ms.map mark) w1 ∧
      Inv ⟨w1, s.Y, ⟨s.σ.nx + 1, upd s.σ.ent s.σ.nx (.loop fn e n ps.toList as_ bo .ready none)⟩, ι1⟩ ∧
      Ev s ⟨w1, s.Y, ⟨s.σ.nx + 1, upd s.σ.ent s.σ.nx (.loop fn e n ps.toList as_ bo .ready none)⟩, ι1⟩ ∧ ι1 s.σ.nx = l ∧
      Marks ⟨w1, s.Y, ⟨s.σ.nx + 1, upd s.σ.ent s.σ.nx (.loop fn e n ps.toList as_ bo .ready none)⟩, ι1⟩ s.w.heap.size ms := by
  cases rd with
  | none =>
    have ev0 : Ev s ((s.push (.deferred (some []))).more 1) := (push_ev _ _).trans (more_ev _)
    have i0 := more_inv (push_inv hi (.deferred (some []))) 1
    have hp : LPut ((s.push (.deferred (some []))).more 1) s.σ.nx fn e n ps.toList as_ bo .ready none (s.w.heap.size + 1)
        ((s.w.alloc (.deferred (some []))).alloc (.loop { state := .ready, pending := none, fn := fn0, tmps := a.tmps, params := ps, assign := as_, body := bo, defers := s.w.heap.size })) := by
      refine ⟨.inl ⟨hi.nx _ (Nat.le_refl _), by simp only [St.push, St.more, alloc_sz]; exact Nat.le_refl _⟩, by simp only [St.push, St.more, alloc_sz]; omega, fun b hb _ => alloc_old hb, ⟨fn0, a.tmps, s.w.heap.size, ?_, he.1, fun t => ev0.pvr (he.2 t)⟩, Nat.lt_succ_self _, rfl, rfl, rfl⟩
      have := World.alloc_heap_new (s.w.alloc (.deferred (some []))) (.loop { state := .ready, pending := none, fn := fn0, tmps := a.tmps, params := ps, assign := as_, body := bo, defers := s.w.heap.size })
      rw [alloc_sz] at this
      exact this
    have hev := hp.ev i0
    refine ⟨s.w.heap.size + 1, [s.w.heap.size], _, _, run_enterLoop_outer _ _ _ _ _, hp.inv i0, ev0.trans hev, upd_same _ _ _, ?_⟩
    have m0 : Marks ((s.push (.deferred (some []))).more 1) s.w.heap.size [s.w.heap.size] := by
      refine ⟨by simp, fun r hr => ?_⟩
      simp only [List.mem_singleton] at hr
      subst hr
      refine ⟨Nat.le_refl _, ⟨by simp only [St.push, St.more, alloc_sz]; omega, fun hy => ?_, fun id hl hh => ?_⟩, World.alloc_heap_new _ _⟩
      · exact Nat.lt_irrefl _ (hi.Ylt _ hy)
      · have := hl.lt hi
        simp only [St.more, St.push] at hh
        omega
    exact m0.mono hev
  | some l0 =>
    obtain ⟨id0, ⟨f1, e1, n1, ps1, as1, bo1, st1, pend1, h1⟩, h2⟩ := hrd l0 rfl
    have h3 := hi.ent id0
    rw [h1] at h3
    obtain ⟨f2, tm, df, h4, _⟩ := h3
    rw [h2] at h4
    have i0 := more_inv hi 1
    have hp : LPut (s.more 1) s.σ.nx fn e n ps.toList as_ bo .ready none s.w.heap.size
        (s.w.alloc (.loop { state := .ready, pending := none, fn := fn0, tmps := a.tmps, params := ps, assign := as_, body := bo, defers := df })) := by
      refine ⟨.inl ⟨hi.nx _ (Nat.le_refl _), Nat.le_refl _⟩, by simp only [St.more, alloc_sz]; omega, fun b hb _ => alloc_old hb, ⟨fn0, a.tmps, df, World.alloc_heap_new _ _, he.1, fun t => (more_ev 1).pvr (he.2 t)⟩, Nat.lt_succ_self _, rfl, rfl, rfl⟩
    have hev := hp.ev i0
    refine ⟨s.w.heap.size, [], _, _, ?_, hp.inv i0, (more_ev 1).trans hev, upd_same _ _ _, Marks.nil _ _⟩
    unfold Instr.enterLoop
    simp only [Sem.run_bind, run_getLoop h4, run_newObj_alloc, Result.andThen, Sem.run_pure, List.map_nil]

theorem range_resolve {a : Act} {g : Operand} {l : Nat} {f : FuncId} {fv cv : Array Value} (h : a.eval g = .func (.func f) fv cv) :
    resolve a.eval (rangeCall g l) 0 = pure { target := .fn (.func f) cv, args := fv ++ #[.func (.yield l) #[] #[]] } := by
  simp only [resolve, rangeCall, h, Deferred.ofValue]
  simp [Act.eval]

variable {Q : Exit → Act → World → Prop} {m : Nat}

/-- **A loop over a function.** -/
theorem range_ok {call : Call0} (hcall : CallOK X call) {s : St} {e : Env} {a : Act} {rd : Option Nat} {fn : FuncId} {lf : Nat} {g : Operand} {ps : Array Nat} {as_ bo : Code} {x : Ex} {e' : Env} {σ' : Heap}
    (hG : GlobOK X s) (hi : Inv s) (he : EnvR s n e a) (hrd : RdOK rd s) (h : runCode X call lf n fn (.rangeFunc g ps as_ bo) e s.σ = some (x, e', σ'))
    (hQ : ∀ a' w' ι', Aft s n a e' σ' a' w' ι' → Q x.out a' w') : (Code.rangeFunc g ps as_ bo).wpIn (Fw rd) m X.P Q a s.w := by
  refine wpIn_rangeFunc fun fn0 _ => ?_
  obtain ⟨l, ms, w1, ι1, hent, i1, ev1, hl, hms⟩ := enter_ok (X := X) hi he hrd fn fn0 ps as_ bo
  simp only [runCode] at h
  split at h
  · rename_i gv hg
    have hgv := operand_pvr hG he hg
    have key : ∀ f (first caps : List PV) fv cv, a.eval g = .func (.func f) fv cv → PVRs s first fv → PVRs s caps cv →
        (∃ r σ2, call (.fn f) (first ++ [PV.yld s.σ.nx] ++ caps) ⟨s.σ.nx + 1, upd s.σ.ent s.σ.nx (.loop fn e n ps.toList as_ bo .ready none)⟩ = some (r, σ2) ∧
          ∃ fn' e2 n' ps' as' bo' st pend, σ2.ent s.σ.nx = .loop fn' e2 n' ps' as' bo' st pend ∧ st ≠ .busy ∧ jumpD pend = some x ∧ e' = e ∧ σ' = σ2.put s.σ.nx (.loop fn' e2 n' ps' as' bo' .exhausted pend)) →
        ∃ (l : Nat) (mark : List Deferred) (w₁ : World) (d : Deferred) (w₁' : World) (f : FuncId) (args : Array Value) (w₂ : World),
          (Instr.enterLoop fn0 a.tmps ps as_ bo (Fw rd).round).run X.P s.w = .ok (l, mark) w₁ ∧
          (resolve a.eval (rangeCall g l) 0).run X.P w₁ = .ok d w₁' ∧
          (∀ f', Target.leads X.P w₁' d.target d.args = some f' → (Fw rd).fn f') ∧
          (invoke d.target d.args).run X.P w₁' = .ok (.enter f args) w₂ ∧
          ((Fw rd).depth.isSome = true → 1 ≤ m) ∧
          CallsIn (Fw rd) (m - 1) X.P f args w₂ (rangePost (Fw rd) m X.P l Q { a with defers := mark ++ a.defers }) := by
      rintro f first caps fv cv hev hf hc ⟨r, σ2, hr, fn', e2, n', ps', as', bo', st, pend, hen, hst, hj, rfl, rfl⟩
      have hy : PVR ⟨w1, s.Y, ⟨s.σ.nx + 1, upd s.σ.ent s.σ.nx (.loop fn e' n ps.toList as_ bo .ready none)⟩, ι1⟩ (.yld s.σ.nx) (.func (.yield l) #[] #[]) := by
        rw [← hl]
        exact .yld (s := ⟨w1, s.Y, ⟨s.σ.nx + 1, upd s.σ.ent s.σ.nx (.loop fn e' n ps.toList as_ bo .ready none)⟩, ι1⟩) ⟨_, _, _, _, _, _, _, _, upd_same _ _ _⟩
      have hys : PVRs ⟨w1, s.Y, ⟨s.σ.nx + 1, upd s.σ.ent s.σ.nx (.loop fn e' n ps.toList as_ bo .ready none)⟩, ι1⟩ [.yld s.σ.nx] #[.func (.yield l) #[] #[]] :=
        ⟨rfl, fun i y hi => by
          cases i with
          | zero => simp at hi; subst hi; exact hy
          | succ i => simp at hi⟩
      obtain ⟨h1, h2⟩ := hcall (.fn f) _ r σ2 ⟨w1, s.Y, _, ι1⟩ hr i1 (hG.mono ev1) (fv ++ #[.func (.yield l) #[] #[]] ++ cv) (pvrs_append (pvrs_append (hf.mono ev1) hys) (hc.mono ev1))
      refine ⟨l, ms.map mark, w1, _, w1, f, fv ++ #[.func (.yield l) #[] #[]] ++ cv, w1, hent, by rw [range_resolve hev, Sem.run_pure], fun _ _ => trivial, ?_, wide_room rd m, ?_⟩
      · simp only [invoke]
        exact h1
      · refine (Calls.wide rd h2 (m - 1)).mono fun en w3 hh => ?_
        obtain ⟨v, rfl, ι2, i3, ev3, _⟩ := hh
        have e3 := i3.ent s.σ.nx
        rw [hen] at e3
        obtain ⟨fn2, tm, df, q1, q2, q3⟩ := e3
        obtain ⟨⟨_, _, hlo⟩, hι⟩ := ev3.loop s.σ.nx _ _ _ _ _ _ _ _ (upd_same _ _ _)
        simp only at hlo hι
        rw [hen] at hlo
        injection hlo with a1 a2 a3 a4 a5 a6 a7 a8
        have hl2 : ι2 s.σ.nx = l := hι.trans hl
        simp only [hl2] at q1
        have hp : LPut ⟨w3, s.Y, σ2, ι2⟩ s.σ.nx fn' e2 n' ps' as' bo' .exhausted pend l (w3.putObj l (.loop { state := .exhausted, pending := pend, fn := fn2, tmps := tm, params := ps'.toArray, assign := as', body := bo', defers := df })) := by
          refine ⟨.inr ⟨⟨st, pend, hen⟩, hl2.symm⟩, by simp, fun b _ hb => World.putObj_heap_other hb, ⟨fn2, tm, df, World.putObj_heap_same (Array.getElem?_eq_some_iff.1 q1).1, q2, q3⟩, ?_, rfl, rfl, rfl⟩
          rcases Nat.lt_or_ge s.σ.nx σ2.nx with h | h
          · exact h
          · have := i3.nx _ h
            simp only at this
            rw [hen] at this
            cases this
        have i4 := hp.inv i3
        have ev4 := (ev1.trans ev3).trans (hp.ev i3)
        have hQ' := hQ { a with defers := ms.map mark ++ a.defers } _ _ ⟨i4, ev4, (he.mono ev4), ms, rfl, (hms.mono ev3).mono (hp.ev i3)⟩
        refine ⟨pend, _, run_endLoop q1 hst, ?_⟩
        cases pend with
        | none =>
          simp only [jumpD, Option.some.injEq] at hj
          subst hj
          exact hQ'
        | some c =>
          cases c <;> simp only [jumpD, Option.some.injEq] at hj <;> (try (cases hj; done))
          · subst hj
            exact wpIn_exit hQ'
          · subst hj
            exact wpIn_ret hQ'
    have fin : ∀ (r : Option (PV × Heap)), (match r with
        | some (_, σ2) =>
          match σ2.ent s.σ.nx with
          | .loop fn' e' n' ps' as' bo' st pend =>
            if st = LoopState.busy then none else
            match jumpD pend with
            | some x => some (x, e, σ2.put s.σ.nx (.loop fn' e' n' ps' as' bo' .exhausted pend))
            | none => none
          | _ => none
        | none => none) = some (x, e', σ') → ∃ q σ2, r = some (q, σ2) ∧ ∃ fn' e2 n' ps' as' bo' st pend, σ2.ent s.σ.nx = .loop fn' e2 n' ps' as' bo' st pend ∧ st ≠ .busy ∧ jumpD pend = some x ∧ e' = e ∧ σ' = σ2.put s.σ.nx (.loop fn' e2 n' ps' as' bo' .exhausted pend) := by
      intro r hr
      split at hr
      · rename_i q σ2
        split at hr
        · rename_i fn' e2 n' ps' as' bo' st pend hen
          split at hr
          · cases hr
          · rename_i hst
            split at hr
            · rename_i x' hj
              simp only [Option.some.injEq, Prod.mk.injEq] at hr
              obtain ⟨rfl, rfl, rfl⟩ := hr
              exact ⟨q, σ2, rfl, fn', e2, n', ps', as', bo', st, pend, hen, hst, hj, rfl, rfl⟩
            · cases hr
        · cases hr
      · cases hr
    cases gv with
    | v y =>
      cases y with
      | fn f =>
        have hfv := fn_inv hgv
        obtain ⟨q, σ2, h1, h2⟩ := fin _ h
        exact key f [] [] #[] #[] hfv ⟨rfl, fun i y hi => by simp at hi⟩ ⟨rfl, fun i y hi => by simp at hi⟩ ⟨q, σ2, h1, h2⟩
      | _ => simp at h
    | clo f first caps =>
      obtain ⟨fv, cv, hfv, hf1, hf2⟩ := clo_inv hgv
      obtain ⟨q, σ2, h1, h2⟩ := fin _ h
      exact key f first caps fv cv hfv hf1 hf2 ⟨q, σ2, h1, h2⟩
    | _ => simp at h
  · cases h

/-- **The code of an activation does as the interpreter does.** -/
theorem stepR_scope {P : Program} {b : Frame} {a : Act} {k : List Item} {cs : List Frame} {w : World} {c : Code} : step P (lone (b.atR a (.code (.scope c) :: k)) cs w) = .next (lone (b.atR a (.code c :: .inScope c :: k)) cs w) :=
  step_lone_go (by simp [stepG, stepG.exec, Frame.atR])
theorem stepR_inScope {P : Program} {b : Frame} {a : Act} {k : List Item} {cs : List Frame} {w : World} {c : Code} : step P (lone (b.atR a (.inScope c :: k)) cs w) = .next (lone (b.atR a k) cs w) :=
  step_lone_go (by simp [stepG, stepG.exec, Frame.atR])

theorem wpIn_scope {F : Fence} {n : Nat} {P : Program} {Q : Exit → Act → World → Prop} {a : Act} {w : World} {c : Code} (h : c.wpIn F n P (fun e a w => (∀ l, e ≠ .goto l) ∧ Q e a w) a w) : (Code.scope c).wpIn F n P Q a w := by
  intro b k cs hro hb hr
  have h0 : (lone (b.atR a (.code (.scope c) :: k)) cs w).fenced P F := fenced_calm hb hr rfl
  obtain ⟨e, a₁, w₁, hq, harr⟩ := h b (.inScope c :: k) cs hro hb hr
  cases e with
  | normal => exact ⟨.normal, a₁, w₁, hq.2, .head h0 stepR_scope (StepsIn.trans harr (.one (fenced_calm hb hr rfl) stepR_inScope))⟩
  | exit id =>
    have hx : exitTo id (.inScope c :: k) = exitTo id k := by simp [exitTo]
    exact ⟨.exit id, a₁, w₁, hq.2, fun k' hk => .head h0 stepR_scope (harr.1 k' (by rw [hx]; exact hk)),
      fun hr' hk => let ⟨k₁, h1, h2⟩ := harr.2 hr' (by rw [hx]; exact hk); ⟨k₁, h1, .head h0 stepR_scope h2⟩⟩
  | goto l => exact absurd rfl (hq.1 l)
  | ret => exact ⟨_, a₁, w₁, hq.2, .of_steps (.one h0 stepR_scope) harr⟩
  | panic ch => exact ⟨_, a₁, w₁, hq.2, .of_steps (.one h0 stepR_scope) harr⟩
  | outgrown => exact ⟨_, a₁, w₁, hq.2, .of_steps (.one h0 stepR_scope) harr⟩

theorem code_ok {call : Call0} (hm : X.P.follows .mixedOrders = true) (hcall : CallOK X call) (htame : CallTame call) (hcp : CallPure X call) {lf : Nat} {fn : FuncId} {rd : Option Nat} : ∀ (c : Code) {Q : Exit → Act → World → Prop} {s : St} {e : Env} {a : Act} {x : Ex} {e' : Env} {σ' : Heap},
    GlobOK X s → Inv s → EnvR s n e a → RdOK rd s → runCode X call lf n fn c e s.σ = some (x, e', σ') → (∀ a' w' ι', Aft s n a e' σ' a' w' ι' → Q x.out a' w') → c.wpIn (Fw rd) m X.P Q a s.w := by
  intro c
  induction c with
  | label l =>
    intro Q s e a x e' σ' hG hi he hrd h hQ
    simp only [runCode, Option.some.injEq, Prod.mk.injEq] at h
    obtain ⟨rfl, rfl, rfl⟩ := h
    exact wpIn_label (hQ a s.w s.ι (Aft.refl hi he))
  | scope c ih =>
    intro Q s e a x e' σ' hG hi he hrd h hQ
    simp only [runCode] at h
    refine wpIn_scope ?_
    exact ih hG hi he hrd h fun a' w' ι' ht => ⟨fun l => by cases x <;> simp [Ex.out], hQ a' w' ι' ht⟩
  | skip =>
    intro Q s e a x e' σ' hG hi he hrd h hQ
    simp only [runCode, Option.some.injEq, Prod.mk.injEq] at h
    obtain ⟨rfl, rfl, rfl⟩ := h
    exact wpIn_skip (hQ a s.w s.ι (Aft.refl hi he))
  | region id ops draw =>
    intro Q s e a x e' σ' hG hi he hrd h hQ
    simp only [runCode] at h
    split at h
    · rename_i hd
      subst hd
      split at h
      · rename_i hok
        simp only [Option.map_eq_some_iff, Prod.mk.injEq] at h
        obtain ⟨⟨e1, σ1⟩, h1, rfl, rfl, rfl⟩ := h
        exact draw_ok hm hcall htame hcp hok hG hi he h1 fun a' w' ι' ht => hQ a' w' ι' ht.aft
      · cases h
    · rename_i hd
      simp only [Bool.not_eq_true] at hd
      subst hd
      simp only [Option.map_eq_some_iff, Prod.mk.injEq] at h
      obtain ⟨⟨e1, σ1⟩, h1, rfl, rfl, rfl⟩ := h
      exact region_ok hcall htame hG hi he h1 fun a' w' ι' ht => hQ a' w' ι' ht.aft
  | seq c1 c2 ih1 ih2 =>
    intro Q s e a x e' σ' hG hi he hrd h hQ
    simp only [runCode] at h
    refine wpIn_seq ?_
    split at h
    · rename_i e1 σ1 h1
      refine ih1 hG hi he hrd h1 fun a1 w1 ι1 ht => ?_
      exact ih2 (s := ⟨w1, s.Y, σ1, ι1⟩) (hG.mono ht.ev) ht.inv ht.env (hrd.mono ht.ev) h fun a' w' ι' ht' => hQ a' w' ι' (ht.trans ht')
    · rename_i hn
      refine ih1 hG hi he hrd h fun a1 w1 ι1 ht => ?_
      cases x with
      | normal => exact absurd h (hn _ _)
      | exit id => exact hQ _ _ _ ht
      | ret => exact hQ _ _ _ ht
  | cond c c1 c2 ih1 ih2 =>
    intro Q s e a x e' σ' hG hi he hrd h hQ
    simp only [runCode] at h
    split at h
    · rename_i hc
      exact wpIn_cond_true (bool_inv (operand_pvr hG he hc)) (ih1 hG hi he hrd h hQ)
    · rename_i hc
      exact wpIn_cond_false (bool_inv (operand_pvr hG he hc)) (ih2 hG hi he hrd h hQ)
    · cases h
  | block id c ih =>
    intro Q s e a x e' σ' hG hi he hrd h hQ
    simp only [runCode] at h
    refine wpIn_block ?_
    split at h
    · rename_i id' e1 σ1 h1
      refine ih hG hi he hrd h1 fun a1 w1 ι1 ht => ?_
      simp only [Ex.out, Exit.inBlock]
      split at h
      · rename_i hid
        rw [if_pos hid]
        simp only [Option.some.injEq, Prod.mk.injEq] at h
        obtain ⟨rfl, rfl, rfl⟩ := h
        exact hQ _ _ _ ht
      · rename_i hid
        rw [if_neg hid]
        simp only [Option.some.injEq, Prod.mk.injEq] at h
        obtain ⟨rfl, rfl, rfl⟩ := h
        exact hQ _ _ _ ht
    · rename_i hn
      refine ih hG hi he hrd h fun a1 w1 ι1 ht => ?_
      cases x with
      | normal => exact hQ _ _ _ ht
      | exit id => exact absurd h (hn _ _ _)
      | ret => exact hQ _ _ _ ht
  | loop c ih =>
    intro Q s e a x e' σ' hG hi he hrd h hQ
    simp only [runCode] at h
    refine wpIn_loop_rounds lf ?_
    have key : ∀ (k : Nat) {s : St} {e : Env} {a : Act}, GlobOK X s → Inv s → EnvR s n e a → RdOK rd s → loopD (runCode X call lf n fn c) k e s.σ = some (x, e', σ') →
        (∀ a' w' ι', Aft s n a e' σ' a' w' ι' → Q x.out a' w') → Code.roundsIn (Fw rd) m X.P c Q k a s.w := by
      intro k
      induction k with
      | zero => intro s e a _ _ _ _ h; simp [loopD] at h
      | succ k ihk =>
        intro s e a hG hi he hrd h hQ
        simp only [loopD] at h
        rw [roundsIn_succ]
        split at h
        · rename_i e1 σ1 h1
          refine ih hG hi he hrd h1 fun a1 w1 ι1 ht => ?_
          exact ihk (s := ⟨w1, s.Y, σ1, ι1⟩) (hG.mono ht.ev) ht.inv ht.env (hrd.mono ht.ev) h fun a' w' ι' ht' => hQ a' w' ι' (ht.trans ht')
        · rename_i hn
          refine ih hG hi he hrd h fun a1 w1 ι1 ht => ?_
          cases x with
          | normal => exact absurd h (hn _ _)
          | exit id => exact hQ _ _ _ ht
          | ret => exact hQ _ _ _ ht
    exact key lf hG hi he hrd h hQ
  | exit id =>
    intro Q s e a x e' σ' hG hi he hrd h hQ
    simp only [runCode, Option.some.injEq, Prod.mk.injEq] at h
    obtain ⟨rfl, rfl, rfl⟩ := h
    exact wpIn_exit (hQ a s.w s.ι (Aft.refl hi he))
  | ret =>
    intro Q s e a x e' σ' hG hi he hrd h hQ
    simp only [runCode, Option.some.injEq, Prod.mk.injEq] at h
    obtain ⟨rfl, rfl, rfl⟩ := h
    exact wpIn_ret (hQ a s.w s.ι (Aft.refl hi he))
  | rangeFunc g ps as_ bo _ _ =>
    intro Q s e a x e' σ' hG hi he hrd h hQ
    exact range_ok hcall hG hi he hrd h hQ
  | _ =>
    intro Q s e a x e' σ' hG hi he hrd h hQ
    simp [runCode] at h

end Go.Dn
