/- What one operation of the interpreter says of the model's: operations that leave the heap as it is. -/
import Derived.Test.YtefaoeaohhdhkaaD2
set_option linter.unusedVariables false
set_option linter.unusedSimpArgs false
namespace Go.Dn
open Go

variable {X : Ctx} {s : St} {n : Nat} {e : Env} {a : Act}

def GlobOK (X : Ctx) (s : St) : Prop := ∀ g cells, X.glob g = some cells → PVR s (.fptr cells) (.pointer (some ⟨g, 0, none⟩))

theorem GlobOK.mono {s' : St} (h : GlobOK X s) (hev : Ev s s') : GlobOK X s' := fun g cells hg => hev.pvr (h g cells hg)

theorem ofVal_fvr {c : Value} {x : FV} (h : FV.ofVal c = some x) : FVR s.w s.imm x c := by
  unfold FV.ofVal at h
  split at h <;> simp at h <;> subst h
  · exact .bool _
  · exact .int _ _
  · exact .str _
  · exact .nilp
  · exact .nilf

theorem ofCell_pvr {c : Value} {x : PV} (h : PV.ofCell c = some x) : PVR s x c ∧ c.oneCell' = true := by
  unfold PV.ofCell at h
  split at h
  · simp at h; subst h; exact ⟨.nils, rfl⟩
  · simp only [Option.map_eq_some_iff] at h
    obtain ⟨y, hy, rfl⟩ := h
    exact ⟨.v (ofVal_fvr hy), (ofVal_fvr (s := s) hy).oneCell⟩

theorem ofCells_pvr : ∀ {cs : List Value} {xs : List PV}, ofCells cs = some xs → xs.length = cs.length ∧ ∀ (i : Nat) (x : PV), xs[i]? = some x → ∃ u, cs[i]? = some u ∧ PVR s x u ∧ u.oneCell' = true
  | [], xs, h => by simp [ofCells] at h; subst h; simp
  | c :: cs, xs, h => by
    simp only [ofCells, Option.bind_eq_some_iff, Option.some.injEq] at h
    obtain ⟨y, hy, ys, hys, rfl⟩ := h
    obtain ⟨h1, h2⟩ := ofCells_pvr hys
    refine ⟨by simp [h1], fun i x hi => ?_⟩
    cases i with
    | zero => simp at hi; subst hi; exact ⟨c, by simp, ofCell_pvr hy⟩
    | succ i => simp at hi; simpa using h2 i x hi

theorem ofVal_pvr {c : Value} {x : PV} (h : PV.ofVal c = some x) : PVR s x c := by
  unfold PV.ofVal at h
  split at h
  · simp only [Option.map_eq_some_iff] at h
    obtain ⟨xs, hx, rfl⟩ := h
    obtain ⟨h1, h2⟩ := ofCells_pvr (s := s) hx
    refine .agg (by simpa using h1) (fun i x hi => ?_) (fun i u hu => ?_)
    · obtain ⟨u, hu, hp, _⟩ := h2 i x hi
      rename_i cs
      simp only [Array.getElem?_toList] at hu
      simpa [Array.getD_eq_getD_getElem?, hu] using hp
    · rename_i cs
      have hl : i < xs.length := by
        have := (Array.getElem?_eq_some_iff.1 hu).1
        simp only [Array.length_toList] at h1; omega
      obtain ⟨u', hu', _, ho⟩ := h2 i xs[i] (List.getElem?_eq_getElem hl)
      simp only [Array.getElem?_toList] at hu'
      rw [hu] at hu'; cases hu'; exact ho
  · rename_i vs
    split at h
    · rename_i hz; simp at h; subst h
      have : vs = #[] := Array.eq_empty_of_size_eq_zero hz
      subst this; exact .undef
    · simp at h
  · exact (ofCell_pvr h).1

theorem operand_pvr {x : Operand} {y : PV} (hG : GlobOK X s) (he : EnvR s n e a) (h : operandD X e x = some y) : PVR s y (a.eval x) := by
  cases x with
  | tmp t => simp [operandD] at h; subst h; exact he.2 t
  | const c => exact ofVal_pvr h
  | global g =>
    simp only [operandD, Option.map_eq_some_iff] at h
    obtain ⟨cs, hc, rfl⟩ := h
    exact hG g cs hc
  | func f => simp [operandD] at h; subst h; exact .v (.fn f)

theorem operands_pvr (hG : GlobOK X s) (he : EnvR s n e a) : ∀ {xs : List Operand} {ys : List PV}, operandsD X e xs = some ys →
    ys.length = xs.length ∧ ∀ (i : Nat) (y : PV), ys[i]? = some y → ∃ o, xs[i]? = some o ∧ PVR s y (a.eval o)
  | [], ys, h => by simp [operandsD] at h; subst h; simp
  | x :: xs, ys, h => by
    simp only [operandsD, Option.bind_eq_some_iff, Option.some.injEq] at h
    obtain ⟨y, hy, zs, hzs, rfl⟩ := h
    obtain ⟨h1, h2⟩ := operands_pvr hG he hzs
    refine ⟨by simp [h1], fun i z hi => ?_⟩
    cases i with
    | zero => simp at hi; subst hi; exact ⟨x, by simp, operand_pvr hG he hy⟩
    | succ i => simp at hi; simpa using h2 i z hi

/-- Related lists of values. -/
def PVRs (s : St) (xs : List PV) (vs : Array Value) : Prop := xs.length = vs.size ∧ ∀ (i : Nat) (x : PV), xs[i]? = some x → PVR s x (vs.getD i Go.undef)

theorem PVRs.mono {s' : St} {xs : List PV} {vs : Array Value} (h : PVRs s xs vs) (hev : Ev s s') : PVRs s' xs vs := ⟨h.1, fun i x hi => hev.pvr (h.2 i x hi)⟩

theorem operands_pvrs (hG : GlobOK X s) (he : EnvR s n e a) {xs : Array Operand} {ys : List PV} (h : operandsD X e xs.toList = some ys) : PVRs s ys (xs.map a.eval) := by
  obtain ⟨h1, h2⟩ := operands_pvr hG he h
  refine ⟨by simpa using h1, fun i y hi => ?_⟩
  obtain ⟨o, ho, hp⟩ := h2 i y hi
  simp only [Array.getElem?_toList] at ho
  simpa [Array.getD_eq_getD_getElem?, ho] using hp

/-- What is asked of the continuation. -/
def Nx (X : Ctx) (s : St) (a : Act) (dst : Option Tmp) (x : PV) (σ' : Heap) (a' : Act) (w' : World) : Prop :=
  ∃ ι' v, a' = a.put dst v ∧ Inv ⟨w', s.Y, σ', ι'⟩ ∧ Ev s ⟨w', s.Y, σ', ι'⟩ ∧ PVR ⟨w', s.Y, σ', ι'⟩ x v

/-- An operation that leaves a value. -/
def Gives (X : Ctx) (s : St) (x : PV) (σ' : Heap) (r : Result Value) : Prop :=
  ∃ ι' v w', r = .ok v w' ∧ Inv ⟨w', s.Y, σ', ι'⟩ ∧ Ev s ⟨w', s.Y, σ', ι'⟩ ∧ PVR ⟨w', s.Y, σ', ι'⟩ x v

theorem Gives.same {x : PV} {v : Value} (hi : Inv s) (h : PVR s x v) : Gives X s x s.σ (.ok v s.w) :=
  ⟨s.ι, v, s.w, rfl, hi, Ev.refl s, h⟩

theorem under_of {P : Program} {t : TypeId} {d : TypeDesc} (w : World) (h : P.underlying t = some d) : (underlying t).run P w = .ok d w := by
  simp [underlying, h]
theorem info_of {P : Program} {t : TypeId} {i : TypeInfo} (w : World) (h : P.info? t = some i) : (typeInfo t).run P w = .ok i w := by
  simp [typeInfo, h]

theorem tsize_run {P : Program} {t : TypeId} {k : Nat} (w : World) (h : tsize P t = some k) : (sizeOf t).run P w = .ok k w := by
  simp only [tsize, Option.map_eq_some_iff] at h
  obtain ⟨i, hi, rfl⟩ := h
  simp [sizeOf, info_of w hi]

theorem tagg_run {P : Program} {t : TypeId} {b : Bool} (w : World) (h : tagg P t = some b) : (isAgg t).run P w = .ok b w := by
  simp only [tagg, Option.map_eq_some_iff] at h
  obtain ⟨d, hd, rfl⟩ := h
  simp only [isAgg, Sem.run_bind, under_of w hd, Result.andThen_ok]
  cases d <;> rfl

theorem tslice_run {P : Program} {t e : TypeId} (h : tslice P t = some e) : P.underlying t = some (.slice e) := by
  unfold tslice at h
  split at h
  · simp at h; subst h; assumption
  · simp at h

theorem tarray_run {P : Program} {t : TypeId} {r : Nat × TypeId} (h : tarray P t = some r) : P.underlying t = some (.array r.1 r.2) := by
  unfold tarray at h
  split at h
  · simp at h; subst h; assumption
  · simp at h

theorem tstr_run {P : Program} {t : TypeId} (h : tstr P t = true) : P.underlying t = some .string := by
  unfold tstr at h
  split at h
  · assumption
  · simp at h

theorem asNat_inv {x : PV} {i : Nat} (h : asNat x = some i) {v : Value} (hv : PVR s x v) : ∃ k, v = .int k (i : Int) := by
  unfold asNat at h
  split at h
  · rename_i k m
    split at h
    · rename_i h0
      simp at h; subst h
      cases hv with
      | v hv => cases hv; exact ⟨k, by congr 1; omega⟩
    · simp at h
  · simp at h

theorem cur_iff {σ : Heap} {id k : Nat} (h : σ.cur id k = true) : σ.isBlk id ∧ σ.ver id = k := by
  unfold Heap.cur at h
  split at h
  · rename_i el cells lv he
    simp at h
    exact ⟨⟨el, cells, lv, he⟩, by simp [Heap.ver, he, h]⟩
  · simp at h

theorem PVR.oneCell {x : PV} {v : Value} (h : PVR s x v) (hx : ∀ cs, x ≠ .agg cs) (ht : ∀ vs, x ≠ .tup vs) (hu : x ≠ .undef) : v.oneCell' = true := by
  cases h with
  | undef => exact absurd rfl hu
  | v h => exact h.oneCell
  | nils => rfl
  | full h => rfl
  | buf hb hv ho h => exact ho
  | ptr hb hv ho h => exact ho
  | fptr himm hcell => rfl
  | clo hf hc h1 h2 => rfl
  | yld h => rfl
  | agg hs h ho => exact absurd rfl (hx _)
  | tup hs h => exact absurd rfl (ht _)

/-- A value's cells. -/
theorem cells_pvr {x : PV} {ys : List PV} {v : Value} (hc : x.cells = some ys) (h : PVR s x v) :
    ys.length = v.cells.size ∧ ∀ (i : Nat) (y : PV), ys[i]? = some y → ∃ u, v.cells[i]? = some u ∧ PVR s y u ∧ u.oneCell' = true := by
  have one : ∀ {x : PV} {v : Value}, PVR s x v → (∀ cs, x ≠ .agg cs) → (∀ vs, x ≠ .tup vs) → x ≠ .undef → ys = [x] →
      ys.length = v.cells.size ∧ ∀ (i : Nat) (y : PV), ys[i]? = some y → ∃ u, v.cells[i]? = some u ∧ PVR s y u ∧ u.oneCell' = true := by
    intro x v h h1 h2 h3 hy
    subst hy
    have ho := h.oneCell h1 h2 h3
    have hv : v.cells = #[v] := by cases v <;> first | rfl | simp [Value.oneCell'] at ho
    rw [hv]
    refine ⟨rfl, fun i y hi => ?_⟩
    cases i with
    | zero => simp at hi; subst hi; exact ⟨v, rfl, h, ho⟩
    | succ i => simp at hi
  cases x with
  | undef => simp [PV.cells] at hc
  | tup _ => simp [PV.cells] at hc
  | agg cs =>
    simp [PV.cells] at hc; subst hc
    cases h with
    | @agg _ cv hs h ho =>
      refine ⟨hs, fun i y hi => ?_⟩
      have hl : i < cv.size := by rw [← hs]; exact (List.getElem?_eq_some_iff.1 hi).1
      refine ⟨cv[i], by simp [Value.cells, hl], ?_, ho i _ (Array.getElem?_eq_getElem hl)⟩
      have := h i y hi
      simpa [Array.getD_eq_getD_getElem?, hl] using this
  | v y => simp [PV.cells] at hc; exact one h (by simp) (by simp) (by simp) hc.symm
  | nils => simp [PV.cells] at hc; exact one h (by simp) (by simp) (by simp) hc.symm
  | full y => simp [PV.cells] at hc; exact one h (by simp) (by simp) (by simp) hc.symm
  | buf _ _ _ => simp [PV.cells] at hc; exact one h (by simp) (by simp) (by simp) hc.symm
  | ptr _ _ _ => simp [PV.cells] at hc; exact one h (by simp) (by simp) (by simp) hc.symm
  | fptr _ => simp [PV.cells] at hc; exact one h (by simp) (by simp) (by simp) hc.symm
  | clo _ _ _ => simp [PV.cells] at hc; exact one h (by simp) (by simp) (by simp) hc.symm
  | yld _ => simp [PV.cells] at hc; exact one h (by simp) (by simp) (by simp) hc.symm

end Go.Dn
