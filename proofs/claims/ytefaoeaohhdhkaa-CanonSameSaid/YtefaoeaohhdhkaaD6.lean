/- Aggregates built, fields, elements, numbers. -/
import Derived.Test.YtefaoeaohhdhkaaD5
set_option linter.unusedVariables false
set_option linter.unusedSimpArgs false
namespace Go.Dn
open Go

variable {X : Ctx} {s : St} {n : Nat} {e : Env} {a : Act} {P : Program}

def CellsR (s : St) (xs : List PV) (cs : Array Value) : Prop :=
  xs.length = cs.size ∧ ∀ (i : Nat) (x : PV), xs[i]? = some x → ∃ u, cs[i]? = some u ∧ PVR s x u ∧ u.oneCell' = true

theorem CellsR.agg {xs : List PV} {cs : Array Value} (h : CellsR s xs cs) : PVR s (.agg xs) (.agg cs) := by
  refine .agg h.1 (fun i x hi => ?_) (fun i u hu => ?_)
  · obtain ⟨u, hu, hp, _⟩ := h.2 i x hi
    simpa [Array.getD_eq_getD_getElem?, hu] using hp
  · have hl : i < xs.length := by rw [h.1]; exact (Array.getElem?_eq_some_iff.1 hu).1
    obtain ⟨u', hu', _, ho⟩ := h.2 i xs[i] (List.getElem?_eq_getElem hl)
    rw [hu] at hu'; cases hu'; exact ho

theorem agg_inv {xs : List PV} {v : Value} (h : PVR s (.agg xs) v) : ∃ cs, v = .agg cs ∧ CellsR s xs cs := by
  cases h with
  | @agg _ cs hs h ho =>
    refine ⟨cs, rfl, hs, fun i x hi => ?_⟩
    have hl : i < cs.size := by rw [← hs]; exact (List.getElem?_eq_some_iff.1 hi).1
    refine ⟨cs[i], by simp [hl], ?_, ho i _ (Array.getElem?_eq_getElem hl)⟩
    simpa [Array.getD_eq_getD_getElem?, hl] using h i x hi

theorem foldl_set_size (off : Nat) : ∀ (l : List (Value × Nat)) (cells : Array Value), (l.foldl (fun cs (c, j) => cs.setIfInBounds (off + j) c) cells).size = cells.size
  | [], _ => rfl
  | (c, j) :: l, cells => by rw [List.foldl_cons, foldl_set_size off l]; simp

theorem foldl_set_get (off : Nat) : ∀ (l : List Value) (b : Nat) (cells : Array Value), off + b + l.length ≤ cells.size → ∀ k,
    ((l.zipIdx b).foldl (fun cs (c, j) => cs.setIfInBounds (off + j) c) cells)[k]? = if off + b ≤ k ∧ k < off + b + l.length then l[k - (off + b)]? else cells[k]?
  | [], b, cells, _, k => by simp; omega
  | c :: l, b, cells, h, k => by
    simp only [List.zipIdx_cons, List.foldl_cons]
    rw [foldl_set_get off l (b + 1) _ (by simp at h ⊢; omega) k]
    simp only [List.length_cons] at h ⊢
    by_cases hk : k = off + b
    · subst hk
      have h1 : ¬ (off + (b + 1) ≤ off + b ∧ off + b < off + (b + 1) + l.length) := by omega
      have h2 : off + b ≤ off + b ∧ off + b < off + b + (l.length + 1) := by omega
      rw [if_neg h1, if_pos h2]
      have h3 : off + b < cells.size := by omega
      simp [h3]
    · by_cases h3 : off + (b + 1) ≤ k ∧ k < off + (b + 1) + l.length
      · have h2 : off + b ≤ k ∧ k < off + b + (l.length + 1) := by omega
        rw [if_pos h3, if_pos h2]
        have : k - (off + b) = (k - (off + (b + 1))) + 1 := by omega
        rw [this]; simp
      · have h2 : ¬ (off + b ≤ k ∧ k < off + b + (l.length + 1)) := by omega
        rw [if_neg h3, if_neg h2]
        rw [Array.getElem?_setIfInBounds_ne (by omega)]

/-- Parts and their values. -/
def PartsR (s : St) : List (Nat × PV) → List (Nat × Value) → Prop
  | [], [] => True
  | (i, x) :: xs, (j, v) :: vs => i = j ∧ PVR s x v ∧ PartsR s xs vs
  | _, _ => False

theorem fill_ok {place : Nat → Option (Nat × Nat)} : ∀ {ps : List (Nat × PV)} {vs : List (Nat × Value)} {cells out : List PV} {cs : Array Value}, PartsR s ps vs → CellsR s cells cs →
    fillD place cells ps = some out → ∃ cs', Instr.fill place cs vs = some cs' ∧ CellsR s out cs'
  | [], [], cells, out, cs, _, hc, h => by
    simp [fillD] at h; subst h
    exact ⟨cs, rfl, hc⟩
  | (i, x) :: ps, (j, v) :: vs, cells, out, cs, hp, hc, h => by
    obtain ⟨rfl, hx, hp⟩ := hp
    simp only [fillD] at h
    split at h
    · rename_i off k ys hpl hcl
      split at h
      · rename_i hle
        obtain ⟨hl1, hle⟩ := hle
        obtain ⟨c1, c2⟩ := cells_pvr hcl hx
        have hcs : CellsR s (splice cells off ys) (v.cells.zipIdx.foldl (fun cs (c, j) => cs.setIfInBounds (off + j) c) cs) := by
          have hz : v.cells.zipIdx.foldl (fun (cs : Array Value) (c, j) => cs.setIfInBounds (off + j) c) cs = (v.cells.toList.zipIdx 0).foldl (fun (cs : Array Value) (c, j) => cs.setIfInBounds (off + j) c) cs := by
            rw [← Array.foldl_toList]; simp
          rw [hz]
          refine ⟨by rw [splice_length _ _ _ (by omega), foldl_set_size]; exact hc.1, fun q y hq => ?_⟩
          rw [splice_get _ _ _ (by omega)] at hq
          rw [foldl_set_get off v.cells.toList 0 cs (by simp; rw [← hc.1]; omega) q]
          simp only [Nat.add_zero, Array.length_toList, ← c1]
          split at hq
          · rename_i hlt
            rw [if_neg (by omega)]
            exact hc.2 q y hq
          · rename_i hlt
            split at hq
            · rename_i hk
              rw [if_pos (by omega)]
              obtain ⟨u, q1, q2, q3⟩ := c2 _ y hq
              exact ⟨u, by simpa using q1, q2, q3⟩
            · rename_i hk
              rw [if_neg (by omega)]
              exact hc.2 q y hq
        obtain ⟨cs', h1, h2⟩ := fill_ok hp hcs h
        refine ⟨cs', ?_, h2⟩
        simp only [Instr.fill, hpl]
        rw [if_neg (by simp; rw [← c1, ← hc.1]; omega)]
        exact h1
      · simp at h
    · simp at h
  | [], _ :: _, _, _, _, hp, _, _ => hp.elim
  | _ :: _, [], _, _, _, hp, _, _ => hp.elim

theorem parts_ok (hG : GlobOK X s) (he : EnvR s n e a) : ∀ {xs : List (Nat × Operand)} {ps : List (Nat × PV)}, partsD X e xs = some ps → PartsR s ps (xs.map fun (i, x) => (i, a.eval x))
  | [], ps, h => by simp [partsD] at h; subst h; trivial
  | (i, x) :: xs, ps, h => by
    simp only [partsD, Option.bind_eq_some_iff, Option.some.injEq] at h
    obtain ⟨y, hy, ys, hys, rfl⟩ := h
    exact ⟨rfl, operand_pvr hG he hy, parts_ok hG he hys⟩

theorem tzero_cells {t : TypeId} {z : List PV} (h : tzero P t = some z) : ∃ i v, P.info? t = some i ∧ i.zero = some v ∧ CellsR s z v.cells := by
  simp only [tzero, Option.bind_eq_some_iff] at h
  obtain ⟨v, ⟨i, hi, hz⟩, hc⟩ := h
  obtain ⟨h1, h2⟩ := ofCells_pvr (s := s) hc
  refine ⟨i, v, hi, hz, by simpa using h1, fun i y hy => ?_⟩
  obtain ⟨u, q1, q2, q3⟩ := h2 i y hy
  exact ⟨u, by simpa using q1, q2, q3⟩

theorem build_ok (hG : GlobOK X s) (he : EnvR s n e a) {t : TypeId} {parts : Array (Nat × Operand)} {x : PV} (h : buildD X e t parts.toList = some x) :
    ∃ v, (Instr.build t (parts.map fun (i, x) => (i, a.eval x))).run X.P s.w = .ok v s.w ∧ PVR s x v := by
  unfold buildD at h
  split at h
  · rename_i z ps hz hps
    have hp := parts_ok hG he hps
    obtain ⟨i, v, hi, hzv, hcz⟩ := tzero_cells (s := s) hz
    split at h
    · rename_i pl hpl
      simp only [Option.map_eq_some_iff] at h
      obtain ⟨cs, hf, rfl⟩ := h
      obtain ⟨cs', h1, h2⟩ := fill_ok hp hcz hf
      refine ⟨.agg cs', run_build s.w t _ cs' ?_, h2.agg⟩
      unfold tplaces at hpl
      split at hpl
      · rename_i fs hu
        unfold Program.built
        simp only [hi, hu, hzv, hpl]
        simpa using h1
      · simp at hpl
    · split at h
      · rename_i r len el harr
        simp only [Option.bind_eq_some_iff, Option.map_eq_some_iff] at h
        obtain ⟨k, hk, cs, hf, rfl⟩ := h
        obtain ⟨cs', h1, h2⟩ := fill_ok hp hcz hf
        refine ⟨.agg cs', run_build s.w t _ cs' ?_, h2.agg⟩
        have hu := tarray_run harr
        simp only [tsize, Option.map_eq_some_iff] at hk
        obtain ⟨ie, hie, rfl⟩ := hk
        unfold Program.built
        simp only [hi, hu, hzv, hie]
        simpa using h1
      · simp at h
  · simp at h

theorem part_ok {t : TypeId} {xs : List PV} {off : Nat} {x : PV} {cs : Array Value} (hc : CellsR s xs cs) (h : partD P t xs off = some x) :
    ∃ v, (∀ w, (part t cs off).run P w = .ok v w) ∧ PVR s x v := by
  unfold partD at h
  split at h
  · rename_i k ha hk
    split at h
    · rename_i hle
      simp at h; subst h
      refine ⟨.agg (cs.extract off (off + k)), fun w => by simp [part, tagg_run w ha, tsize_run w hk], CellsR.agg ⟨by simp; rw [← hc.1]; omega, fun i y hi => ?_⟩⟩
      rw [List.getElem?_take] at hi
      split at hi
      · rename_i hlt
        rw [List.getElem?_drop] at hi
        obtain ⟨u, h1, h2, h3⟩ := hc.2 _ y hi
        refine ⟨u, ?_, h2, h3⟩
        rw [Array.getElem?_extract, if_pos (by rw [← hc.1]; omega)]
        exact h1
      · cases hi
    · simp at h
  · rename_i ha
    obtain ⟨u, h1, h2, _⟩ := hc.2 off x h
    exact ⟨u, fun w => by simp [part, tagg_run w ha, h1], h2⟩
  · simp at h

theorem tfield_run {t : TypeId} {f : Nat} {r : Nat × TypeId} (h : tfield P t f = some r) : ∃ fs fd, P.underlying t = some (.struct fs) ∧ fs[f]? = some fd ∧ fd.offset = r.1 ∧ fd.type = r.2 := by
  unfold tfield at h
  split at h
  · rename_i fs hu
    simp only [Option.map_eq_some_iff] at h
    obtain ⟨fd, h1, rfl⟩ := h
    exact ⟨fs, fd, hu, h1, rfl, rfl⟩
  · simp at h

theorem field_ok {t : TypeId} {p x : PV} {f : Nat} {v : Value} (hp : PVR s p v) (h : fieldD P t p f = some x) : ∃ u, (Instr.field t v f).run P s.w = .ok u s.w ∧ PVR s x u := by
  unfold fieldD at h
  split at h
  · rename_i off ft cs hf
    obtain ⟨fs, fd, hu, hfd, e1, e2⟩ := tfield_run hf
    obtain ⟨arr, rfl, hc⟩ := agg_inv hp
    obtain ⟨u, h1, h2⟩ := part_ok hc h
    refine ⟨u, ?_, h2⟩
    simp only at e1 e2
    subst e1 e2
    simp [Instr.field, under_of s.w hu, hfd, asAgg, h1 s.w]
  · simp at h

theorem ptr_inv {id ver off : Nat} {v : Value} (h : PVR s (.ptr id ver off) v) (hc : s.σ.cur id ver = true) : v = .pointer (some ⟨s.ι id, off, none⟩) := by
  cases h with
  | ptr hb hv ho hk => exact hk (cur_iff hc).2

theorem fieldAddr_ok {t : TypeId} {p x : PV} {f : Nat} {v : Value} (hp : PVR s p v) (h : fieldAddrD P s.σ t p f = some x) : ∃ u, (Instr.fieldAt t v f).run P s.w = .ok u s.w ∧ PVR s x u := by
  unfold fieldAddrD at h
  split at h
  · simp at h
  · rename_i off ft hf
    obtain ⟨fs, fd, hu, hfd, e1, e2⟩ := tfield_run hf
    simp only at e1 e2
    subst e1 e2
    split at h
    · simp at h
    · simp at h
    · rename_i k hk1 hk
      have hk0 : k ≠ 0 := hk1
      have hplace : ∀ b o, (fieldPlace ⟨b, o, none⟩ fd).run P s.w = .ok ⟨b, o + fd.offset, none⟩ s.w := fun b o => by
        simp [fieldPlace, tsize_run s.w hk, hk0, addr_add]
      split at h
      · rename_i id ver o
        split at h
        · rename_i hc
          simp at h; subst h
          have hv := ptr_inv hp hc
          subst hv
          refine ⟨_, by simp [Instr.fieldAt, under_of s.w hu, hfd, Instr.sureAddr, hplace]; rfl, ?_⟩
          cases hp with
          | ptr hb hv ho hk => exact .ptr hb hv rfl fun _ => rfl
        · simp at h
      · rename_i cells
        simp at h; subst h
        cases hp with
        | @fptr _ b o himm hcell =>
          refine ⟨_, by simp [Instr.fieldAt, under_of s.w hu, hfd, Instr.sureAddr, hplace]; rfl, .fptr himm fun j y hj => ?_⟩
          rw [List.getElem?_drop] at hj
          obtain ⟨u, h1, h2⟩ := hcell _ y hj
          exact ⟨u, by rw [← h1]; congr 2; omega, h2⟩
      · simp at h

end Go.Dn
