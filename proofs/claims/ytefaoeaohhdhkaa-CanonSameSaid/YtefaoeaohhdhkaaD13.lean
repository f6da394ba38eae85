/- Regions in the text's order. -/
import Derived.Test.YtefaoeaohhdhkaaD12
set_option linter.unusedVariables false
set_option linter.unusedSimpArgs false
namespace Go.Dn
open Go

variable {X : Ctx} {s : St} {n : Nat} {e : Env} {a : Act} {Q : Exit → Act → World → Prop} {m : Nat}

/-- What is not there stays not there, but for one number, and for numbers beyond. -/
def Tame (σ : Heap) (id0 : Option Nat) (σ' : Heap) : Prop := σ.nx ≤ σ'.nx ∧ ∀ k, k < σ.nx → some k ≠ id0 → σ.ent k = .none → σ'.ent k = .none

theorem Tame.refl (σ : Heap) (id0 : Option Nat) : Tame σ id0 σ := ⟨Nat.le_refl _, fun _ _ _ h => h⟩
theorem Tame.trans {σ σ1 σ2 : Heap} {id0 : Option Nat} (h1 : Tame σ id0 σ1) (h2 : Tame σ1 id0 σ2) : Tame σ id0 σ2 :=
  ⟨Nat.le_trans h1.1 h2.1, fun k hk hne h => h2.2 k (Nat.lt_of_lt_of_le hk h1.1) hne (h1.2 k hk hne h)⟩
theorem Tame.put_new (σ : Heap) (id : Nat) (en : Ent) : Tame σ (some id) (σ.put id en) :=
  ⟨Nat.le_refl _, fun k _ hne h => by
    have : k ≠ id := fun e => hne (by rw [e])
    simp [Heap.put, upd_ne _ _ this, h]⟩
theorem Tame.put_old {σ : Heap} {id : Nat} {en : Ent} (id0 : Option Nat) (h0 : σ.ent id ≠ .none) : Tame σ id0 (σ.put id en) :=
  ⟨Nat.le_refl _, fun k _ _ h => by
    have : k ≠ id := fun e => h0 (e ▸ h)
    simp [Heap.put, upd_ne _ _ this, h]⟩

def CallTame (call : Call0) : Prop := ∀ c args σ r σ', call c args σ = some (r, σ') → Tame σ none σ'

theorem Tame.weak {σ σ' : Heap} {id0 : Option Nat} (h : Tame σ none σ') : Tame σ id0 σ' := ⟨h.1, fun k hk _ hn => h.2 k hk (by simp) hn⟩

theorem expCells_tame {f : Heap → PV → Option (FV × Heap)} (hf : ∀ σ x y σ', f σ x = some (y, σ') → Tame σ none σ') : ∀ (xs : List PV) (σ : Heap) (ys : List FV) (σ' : Heap), expCellsW f σ xs = some (ys, σ') → Tame σ none σ'
  | [], σ, ys, σ', h => by simp [expCellsW] at h; rw [← h.2]; exact Tame.refl _ _
  | x :: xs, σ, ys, σ', h => by
    simp only [expCellsW, Option.bind_eq_some_iff, Option.some.injEq, Prod.mk.injEq] at h
    obtain ⟨⟨y, σ1⟩, h1, ⟨zs, σ2⟩, h2, _, rfl⟩ := h
    exact (hf _ _ _ _ h1).trans (expCells_tame hf xs _ _ _ h2)

theorem expCell_tame : ∀ (d : Nat) (σ : Heap) (x : PV) (y : FV) (σ' : Heap), expCell d σ x = some (y, σ') → Tame σ none σ'
  | 0, _, _, _, _, h => by simp [expCell] at h
  | d + 1, σ, x, y, σ', h => by
    unfold expCell at h
    split at h
    · cases h; exact Tame.refl _ _
    · cases h; exact Tame.refl _ _
    · cases h; exact Tame.refl _ _
    · rename_i id len sz
      split at h
      · rename_i el cells lv hb
        by_cases hc : cells.length = len * sz
        · rw [if_pos hc] at h
          simp only [Option.bind_eq_some_iff, Option.some.injEq, Prod.mk.injEq] at h
          obtain ⟨⟨ys, σ2⟩, h1, _, rfl⟩ := h
          exact (Tame.put_old none (by rw [hb]; simp)).trans (expCells_tame (expCell_tame d) _ _ _ _ h1)
        · rw [if_neg hc] at h; cases h
      · cases h
    · cases h

theorem expVal_tame {σ : Heap} {x y : PV} {σ' : Heap} (h : expVal σ x = some (y, σ')) : Tame σ none σ' := by
  unfold expVal at h
  split at h
  · simp only [Option.bind_eq_some_iff, Option.some.injEq, Prod.mk.injEq] at h
    obtain ⟨⟨ys, σ1⟩, h1, _, rfl⟩ := h
    exact expCells_tame (expCell_tame 6) _ _ _ _ h1
  · cases h; exact Tame.refl _ _
  · cases h; exact Tame.refl _ _
  · cases h
  · simp only [Option.bind_eq_some_iff, Option.some.injEq, Prod.mk.injEq] at h
    obtain ⟨⟨ys, σ1⟩, h1, _, rfl⟩ := h
    exact expCell_tame 6 _ _ _ _ h1

theorem expVals_tame : ∀ {xs ys : List PV} {σ σ' : Heap}, expVals σ xs = some (ys, σ') → Tame σ none σ'
  | [], ys, σ, σ', h => by simp [expVals] at h; rw [← h.2]; exact Tame.refl _ _
  | x :: xs, ys, σ, σ', h => by
    simp only [expVals, Option.bind_eq_some_iff, Option.some.injEq, Prod.mk.injEq] at h
    obtain ⟨⟨y, σ1⟩, h1, ⟨zs, σ2⟩, h2, _, rfl⟩ := h
    exact (expVal_tame h1).trans (expVals_tame h2)

theorem expRes_tame {σ : Heap} {x y : PV} {σ' : Heap} (h : expRes σ x = some (y, σ')) : Tame σ none σ' := by
  unfold expRes at h
  split at h
  · simp only [Option.bind_eq_some_iff, Option.some.injEq, Prod.mk.injEq] at h
    obtain ⟨⟨ys, σ1⟩, h1, _, rfl⟩ := h
    exact expVals_tame h1
  · exact expVal_tame h

theorem expArg_tame {σ : Heap} {x y : PV} {σ' : Heap} (h : expArg σ x = some (y, σ')) : Tame σ none σ' := by
  unfold expArg at h
  split at h
  · cases h; exact Tame.refl _ _
  · cases h; exact Tame.refl _ _
  · cases h; exact Tame.refl _ _
  · exact expVal_tame h

theorem expArgs_tame : ∀ {xs ys : List PV} {σ σ' : Heap}, expArgs σ xs = some (ys, σ') → Tame σ none σ'
  | [], ys, σ, σ', h => by simp [expArgs] at h; rw [← h.2]; exact Tame.refl _ _
  | x :: xs, ys, σ, σ', h => by
    simp only [expArgs, Option.bind_eq_some_iff, Option.some.injEq, Prod.mk.injEq] at h
    obtain ⟨⟨y, σ1⟩, h1, ⟨zs, σ2⟩, h2, _, rfl⟩ := h
    exact (expArg_tame h1).trans (expArgs_tame h2)

theorem storeD_tame {P : Program} {σ : Heap} {t : TypeId} {x p : PV} {σ' : Heap} {id0 : Option Nat} (h : storeD P σ t x p = some σ') : Tame σ id0 σ' := by
  unfold storeD at h
  split at h
  · split at h
    · rename_i hb
      split at h
      · split at h
        · split at h
          · cases h; exact Tame.put_old id0 (by rw [hb]; simp)
          · cases h
        · cases h
      · cases h
    · cases h
  · cases h

theorem appendD_tame {P : Program} {σ : Heap} {id0 : Nat} {t : TypeId} {x y z : PV} {σ' : Heap} (h : appendD P σ id0 t x y = some (z, σ')) : Tame σ (some id0) σ' := by
  unfold appendD at h
  split at h
  · cases h
  · split at h
    · split at h
      · cases h
      · split at h
        · cases h
        · split at h
          · split at h
            · cases h; exact Tame.refl _ _
            · split at h
              · cases h; exact Tame.put_new _ _ _
              · cases h
          · split at h
            · cases h
            · split at h
              · cases h; exact Tame.put_new _ _ _
              · cases h
          · split at h
            · rename_i hb
              split at h
              · cases h; exact Tame.put_old _ (by rw [hb]; simp)
              · cases h
            · cases h
          · cases h
    · cases h

theorem copyD_tame {P : Program} {σ : Heap} {id0 : Option Nat} {t : TypeId} {x y z : PV} {σ' : Heap} (h : copyD P σ t x y = some (z, σ')) : Tame σ id0 σ' := by
  unfold copyD at h
  split at h
  · cases h
  · split at h
    · cases h
    · split at h
      · split at h
        · rename_i hb
          split at h
          · cases h; exact Tame.put_old _ (by rw [hb]; simp)
          · cases h
        · cases h
      · cases h

theorem makeD_tame {P : Program} {σ : Heap} {id0 : Nat} {t : TypeId} {x y z : PV} {σ' : Heap} (h : makeD P σ id0 t x y = some (z, σ')) : Tame σ (some id0) σ' := by
  unfold makeD at h
  split at h
  · split at h
    · split at h
      · cases h; exact Tame.put_new _ _ _
      · cases h
    · cases h
  · cases h

theorem builtinD_tame {P : Program} {σ : Heap} {id0 : Nat} {b : Builtin} {ts : List TypeId} {args : List PV} {z : PV} {σ' : Heap} (h : builtinD P σ id0 b ts args = some (z, σ')) : Tame σ (some id0) σ' := by
  unfold builtinD at h
  split at h
  · simp only [Option.map_eq_some_iff, Prod.mk.injEq] at h
    obtain ⟨_, _, _, rfl⟩ := h; exact Tame.refl _ _
  · split at h
    · exact appendD_tame h
    · cases h
  · exact copyD_tame h
  · simp only [Option.map_eq_some_iff, Prod.mk.injEq] at h
    obtain ⟨_, _, _, rfl⟩ := h; exact Tame.refl _ _
  · simp only [Option.map_eq_some_iff, Prod.mk.injEq] at h
    obtain ⟨_, _, _, rfl⟩ := h; exact Tame.refl _ _
  · cases h

theorem buildSliceD_tame {X : Ctx} {σ : Heap} {id0 : Nat} {t : TypeId} {len : Nat} {parts : List (Nat × Operand)} {z : PV} {σ' : Heap} (h : buildSliceD X e σ id0 t len parts = some (z, σ')) : Tame σ (some id0) σ' := by
  unfold buildSliceD at h
  split at h
  · split at h
    · split at h
      · simp only [Option.map_eq_some_iff, Prod.mk.injEq] at h
        obtain ⟨_, _, _, rfl⟩ := h; exact Tame.put_new _ _ _
      · cases h
    · cases h
  · cases h

theorem callOpD_tame {call : Call0} (hc : CallTame call) {σ : Heap} {id0 : Nat} {c : Call} {z : PV} {σ' : Heap} (h : callOpD X call e σ id0 c = some (z, σ')) : Tame σ (some id0) σ' := by
  unfold callOpD at h
  split at h
  · cases h
  · split at h
    · exact builtinD_tame h
    · cases h
    · split at h
      · exact (hc _ _ _ _ _ h).weak
      · exact (hc _ _ _ _ _ h).weak
      · exact (hc _ _ _ _ _ h).weak
      · cases h

theorem stepOp_tame {call : Call0} (hc : CallTame call) {σ : Heap} {id0 : Nat} {op : Op} {z : PV} {σ' : Heap} (h : stepOp X call e σ id0 op = some (z, σ')) : Tame σ (some id0) σ' := by
  cases op <;> simp only [stepOp] at h <;> (try (cases h; done))
  case alloc t =>
    simp only [Option.map_eq_some_iff, newD, Prod.mk.injEq] at h
    obtain ⟨_, _, _, rfl⟩ := h; exact Tame.put_new _ _ _
  case box t y =>
    simp only [Option.map_eq_some_iff, newD, Prod.mk.injEq] at h
    obtain ⟨_, _, _, rfl⟩ := h; exact Tame.put_new _ _ _
  case buildSlice => exact buildSliceD_tame h
  case store t y z =>
    split at h
    · simp only [Option.map_eq_some_iff, Prod.mk.injEq] at h
      obtain ⟨σ1, hs, _, rfl⟩ := h
      exact storeD_tame hs
    · cases h
  case makeSlice t y z =>
    split at h
    · exact makeD_tame h
    · cases h
  case call c => exact callOpD_tame hc h
  case slice t y lo hi mx =>
    split at h
    · simp only [Option.bind_eq_some_iff, Option.map_eq_some_iff, Prod.mk.injEq] at h
      obtain ⟨⟨q, σ1⟩, h1, _, _, _, rfl⟩ := h
      exact (expCell_tame 6 _ _ _ _ h1).weak
    · simp only [Option.map_eq_some_iff, Prod.mk.injEq] at h
      obtain ⟨_, _, _, rfl⟩ := h; exact Tame.refl _ _
    · cases h
  case makeFunc fn f c =>
    cases fn <;> simp only at h <;> (try (cases h; done))
    split at h <;> cases h <;> exact Tame.refl _ _
  case nilCheck y =>
    split at h
    · split at h <;> cases h; exact Tame.refl _ _
    all_goals first
      | (cases h; exact Tame.refl _ _)
      | (cases h; done)
  all_goals first
    | (simp only [Option.map_eq_some_iff, Prod.mk.injEq] at h; obtain ⟨_, _, _, rfl⟩ := h; exact Tame.refl _ _)
    | (split at h <;> first
        | (simp only [Option.map_eq_some_iff, Prod.mk.injEq] at h; obtain ⟨_, _, _, rfl⟩ := h; exact Tame.refl _ _)
        | (cases h; done))

/-- The slots behind an operation. -/
theorem EnvR.put {x : PV} {v : Value} {dst : Option Tmp} (h : EnvR s n e a) (hx : PVR s x v) : EnvR s n (putD n e dst x) (a.put dst v) := by
  obtain ⟨h1, h2⟩ := h
  cases dst with
  | none => exact ⟨h1, h2⟩
  | some d =>
    refine ⟨by simp [Act.put, h1], fun t => ?_⟩
    by_cases hd : d < n
    · simp only [putD, hd, if_true]
      by_cases ht : t = d
      · subst ht
        simpa [upd_same, Act.put, Array.getD_eq_getD_getElem?, h1, hd] using hx
      · rw [upd_ne _ _ ht]
        have := h2 t
        simpa [Act.put, Array.getD_eq_getD_getElem?, Array.getElem?_setIfInBounds_ne (Ne.symm ht)] using this
    · simp only [putD, hd, if_false]
      have hle : a.tmps.size ≤ d := by rw [h1]; exact Nat.le_of_not_lt hd
      have hs : a.tmps.setIfInBounds d v = a.tmps := Array.setIfInBounds_eq_of_size_le hle
      simpa [Act.put, hs] using h2 t

theorem wanted_ok {ops : Array Oper} {o : Oper} {b : Bool} (he : EnvR s n e a) (h : wantedD ops e o = some b) : Region.wanted o (yielded ops a.tmps) = b := by
  unfold wantedD at h
  unfold Region.wanted
  split at h
  · rename_i hg; cases h; rw [hg]
  · rename_i j want hg
    rw [hg]
    simp only
    split at h
    · rename_i hd
      cases h
      simp [yielded, hd]
    · rename_i d hd
      have h2 := he.2 d
      split at h
      · rename_i c hc
        cases h
        rw [hc] at h2
        have h3 := bool_inv h2
        have hlt : d < a.tmps.size := by
          rcases Nat.lt_or_ge d a.tmps.size with h' | h'
          · exact h'
          · simp [Array.getD_eq_getD_getElem?, Array.getElem?_eq_none h', Go.undef] at h3
        have h4 : a.tmps[d]? = some (.bool c) := by
          simp only [Array.getD_eq_getD_getElem?, Array.getElem?_eq_getElem hlt, Option.getD_some] at h3 ⊢
          rw [h3]
        simp [yielded, hd, h4]
      · rename_i hc
        cases h
        rw [hc] at h2
        have h3 : a.tmps.getD d Go.undef = Go.undef := by generalize a.tmps.getD d Go.undef = v at h2; cases h2; rfl
        have h4 : a.tmps[d]? = none ∨ a.tmps[d]? = some Go.undef := by
          rcases Nat.lt_or_ge d a.tmps.size with h' | h'
          · simp only [Array.getD_eq_getD_getElem?, Array.getElem?_eq_getElem h', Option.getD_some] at h3 ⊢
            rw [h3]; simp
          · exact .inl (Array.getElem?_eq_none h')
        rcases h4 with h4 | h4 <;> simp [yielded, hd, h4, Go.undef]
      · cases h

/-- What a piece of code leaves. -/
structure Then (s : St) (n : Nat) (a : Act) (e' : Env) (σ' : Heap) (a' : Act) (w' : World) (ι' : Nat → Nat) : Prop where
  inv : Inv ⟨w', s.Y, σ', ι'⟩
  ev : Ev s ⟨w', s.Y, σ', ι'⟩
  env : EnvR ⟨w', s.Y, σ', ι'⟩ n e' a'
  defers : a'.defers = a.defers

theorem put_defers (a : Act) (dst : Option Tmp) (v : Value) : (a.put dst v).defers = a.defers := by cases dst <;> rfl

theorem stepO_ok {call : Call0} (hcall : CallOK X call) {rd : Option Nat} {ops : Array Oper} {base i : Nat} {o : Oper} {e' : Env} {σ' : Heap} (hG : GlobOK X s) (hi : Inv s) (he : EnvR s n e a)
    (hid : s.σ.ent (base + i) = .none) (hnx : base + i < s.σ.nx) (h : stepO X call n ops base i o e s.σ = some (e', σ')) {K : Act → World → Prop}
    (hK : ∀ a' w' ι', Then s n a e' σ' a' w' ι' → K a' w') :
    if Region.wanted o (yielded ops a.tmps) then o.wpIn (Fw rd) m X.P a s.w K Q else (∀ f, o.about X.P s.w a.eval = some f → (Fw rd).fn f) ∧ K (a.put o.dst Go.undef) s.w := by
  unfold stepO at h
  split at h
  · rename_i hw
    rw [wanted_ok he hw, if_pos rfl]
    simp only [Option.bind_eq_some_iff, Option.some.injEq, Prod.mk.injEq] at h
    obtain ⟨⟨x, σ1⟩, h1, rfl, rfl⟩ := h
    have hs := step_ok (o := o) (Q := Q) (m := m) (rd := rd) hcall hG he hi hid hnx h1
    refine Oper.wpIn_mono (K := NextOK s a o.dst x σ1) (fun a' w' hh => ?_) ⟨fun _ _ => trivial, hs⟩
    obtain ⟨v, rfl, ι', h2, h3, h4⟩ := hh
    exact hK _ _ ι' ⟨h2, h3, (he.mono h3).put h4, put_defers _ _ _⟩
  · rename_i hw
    rw [wanted_ok he hw]
    simp only [Bool.false_eq_true, if_false]
    cases h
    exact ⟨fun _ _ => trivial, hK _ _ s.ι ⟨hi, Ev.refl s, he.put .undef, put_defers _ _ _⟩⟩
  · cases h

theorem stepO_tame {call : Call0} (hc : CallTame call) {ops : Array Oper} {base i : Nat} {o : Oper} {σ : Heap} {e' : Env} {σ' : Heap} (h : stepO X call n ops base i o e σ = some (e', σ')) : Tame σ (some (base + i)) σ' := by
  unfold stepO at h
  split at h
  · simp only [Option.bind_eq_some_iff, Option.some.injEq, Prod.mk.injEq] at h
    obtain ⟨⟨x, σ1⟩, h1, _, rfl⟩ := h
    exact stepOp_tame hc h1
  · cases h; exact Tame.refl _ _
  · cases h

theorem runOps_ok {call : Call0} (hcall : CallOK X call) (htame : CallTame call) {rd : Option Nat} {ops : Array Oper} {base : Nat} : ∀ (l : List Oper) (i : Nat) (s : St) (e : Env) (a : Act) (e' : Env) (σ' : Heap), GlobOK X s → Inv s → EnvR s n e a →
    (∀ j, l[j]? = ops[i + j]?) → (∀ k, i ≤ k → k < i + l.length → s.σ.ent (base + k) = .none ∧ base + k < s.σ.nx) → runOps X call n ops base i l e s.σ = some (e', σ') → 
    (∀ a' w' ι', Then s n a e' σ' a' w' ι' → Q .normal a' w') → wpOpsIn (Fw rd) m X.P ops Q (List.range' i l.length) a s.w
  | [], i, s, e, a, e', σ', hG, hi, he, hl, hf, h, hQ => by
    simp [runOps] at h
    obtain ⟨rfl, rfl⟩ := h
    exact hQ a s.w s.ι ⟨hi, Ev.refl s, he, rfl⟩
  | o :: l, i, s, e, a, e', σ', hG, hi, he, hl, hf, h, hQ => by
    simp only [runOps, Option.bind_eq_some_iff] at h
    obtain ⟨⟨e1, σ1⟩, h1, h2⟩ := h
    have h0 : ops[i]? = some o := by simpa using (hl 0).symm
    obtain ⟨f1, f2⟩ := hf i (Nat.le_refl _) (by simp)
    have hT := stepO_tame htame h1
    have := stepO_ok (m := m) (Q := Q) (rd := rd) hcall hG hi he f1 f2 h1 (K := wpOpsIn (Fw rd) m X.P ops Q (List.range' (i + 1) l.length)) (fun a1 w1 ι1 ht => by
      refine runOps_ok hcall htame l (i + 1) ⟨w1, s.Y, σ1, ι1⟩ e1 a1 e' σ' (hG.mono ht.ev) ht.inv ht.env (fun j => by have := hl (j + 1); simpa [Nat.add_assoc, Nat.add_comm 1 j] using this) (fun k hk1 hk2 => ?_) h2 (fun a' w' ι' ht2 => hQ a' w' ι' ⟨ht2.inv, ht.ev.trans ht2.ev, ht2.env, ht2.defers.trans ht.defers⟩)
      obtain ⟨g1, g2⟩ := hf k (by omega) (by simp; omega)
      exact ⟨hT.2 _ g2 (by simp; omega) g1, Nat.lt_of_lt_of_le g2 hT.1⟩)
    simp only [List.length_cons, List.range'_succ, wpOpsIn, h0]
    exact this

/-- The heap with numbers laid aside. -/
def St.more (s : St) (k : Nat) : St := ⟨s.w, s.Y, ⟨s.σ.nx + k, s.σ.ent⟩, s.ι⟩

theorem more_live (k : Nat) (id : Nat) : Live (s.more k).σ id ↔ Live s.σ id := Iff.rfl

theorem more_ev (k : Nat) : Ev s (s.more k) where
  Y := rfl
  size := Nat.le_refl _
  keep := fun _ _ _ => rfl
  live := fun id h _ => ⟨id, h, rfl⟩
  blk := fun id el cells lv h => ⟨cells, lv, h, Nat.le_refl _, fun _ => ⟨rfl, fun cs e fr h => ⟨cs, fr, h, rfl⟩⟩⟩
  loop := fun id fn e n ps as_ bo st pend h => ⟨⟨st, pend, h⟩, rfl⟩
  os := rfl
  tape := rfl
  output := rfl

theorem entOK_mono {s' : St} (hev : Ev s s') (hw : s'.w.heap = s.w.heap) (hι : s'.ι = s.ι) {id : Nat} {en : Ent} (h : EntOK s id en) : EntOK s' id en := by
  cases en with
  | none => trivial
  | blk el c lv' =>
    obtain ⟨cs, fr, q1, q2, q3, q4⟩ := h
    exact ⟨cs, fr, by rw [hw, hι]; exact q1, q2, q3, fun j x hj => by obtain ⟨u, u1, u2, u3⟩ := q4 j x hj; exact ⟨u, u1, hev.pvr u2, u3⟩⟩
  | loop fn e' n ps as_ bo st pend =>
    obtain ⟨fn2, tmps, defers, q1, q2, q3⟩ := h
    exact ⟨fn2, tmps, defers, by rw [hw, hι]; exact q1, q2, fun t => hev.pvr (q3 t)⟩

theorem more_inv (hi : Inv s) (k : Nat) : Inv (s.more k) :=
  ⟨fun id => entOK_mono (more_ev k) rfl rfl (hi.ent id), hi.inj, hi.notY, fun id el c h => ((more_ev k).imm _ (hi.fz id el c h)).1, fun id hn => hi.nx id (by simp only [St.more] at hn; omega), hi.Ylt⟩

/-- **A region in the text's order.** -/
theorem region_ok {call : Call0} (hcall : CallOK X call) (htame : CallTame call) {rd : Option Nat} {id : Nat} {ops : Array Oper} {e' : Env} {σ' : Heap} (hG : GlobOK X s) (hi : Inv s) (he : EnvR s n e a)
    (h : runOps X call n ops s.σ.nx 0 ops.toList e ⟨s.σ.nx + ops.size, s.σ.ent⟩ = some (e', σ')) (hQ : ∀ a' w' ι', Then s n a e' σ' a' w' ι' → Q .normal a' w') :
    (Code.region id ops false).wpIn (Fw rd) m X.P Q a s.w := by
  refine wpIn_region ?_
  have := runOps_ok (m := m) (Q := Q) (rd := rd) hcall htame (ops := ops) (base := s.σ.nx) ops.toList 0 (s.more ops.size) e a e' σ' (hG.mono (more_ev _)) (more_inv hi _) (he.mono (more_ev _)) (by simp) (fun k _ hk => by
    simp only [Nat.zero_add, Array.length_toList] at hk
    exact ⟨hi.nx _ (by omega), by simp only [St.more]; omega⟩) h (fun a' w' ι' ht => hQ a' w' ι' ⟨ht.inv, (more_ev _).trans ht.ev, ht.env, ht.defers⟩)
  rw [List.range_eq_range']
  simpa [St.more] using this

end Go.Dn
