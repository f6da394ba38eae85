/- Functions: what the interpreter says of a call is so. -/
import Derived.Test.YtefaoeaohhdhkaaD15
set_option linter.unusedVariables false
set_option linter.unusedSimpArgs false
namespace Go.Dn
open Go

variable {X : Ctx} {s : St} {n : Nat}

/-! ### What a frame leaves when its loops' blocks are shut -/
def shut (w : World) : List Nat → World
  | [] => w
  | r :: rs => shut (w.putObj r (.deferred none)) rs

theorem shut_facts : ∀ (ms : List Nat) (w : World), (shut w ms).heap.size = w.heap.size ∧ (∀ b, b ∉ ms → (shut w ms).heap[b]? = w.heap[b]?) ∧ (shut w ms).os = w.os ∧ (shut w ms).tape = w.tape ∧ (shut w ms).output = w.output
  | [], w => ⟨rfl, fun _ _ => rfl, rfl, rfl, rfl⟩
  | r :: rs, w => by
    obtain ⟨h1, h2, h3, h4, h5⟩ := shut_facts rs (w.putObj r (.deferred none))
    refine ⟨by simp only [shut]; rw [h1]; simp, fun b hb => ?_, h3, h4, h5⟩
    simp only [List.mem_cons, not_or] at hb
    simp only [shut]
    rw [h2 b hb.2]
    exact World.putObj_heap_other hb.1

theorem leaves_marks {F : Fence} {m : Nat} {P : Program} {fn : Func} {tmps : Array Value} {R : Ending → World → Prop} : ∀ (ms : List Nat) (w : World), ms.Nodup → (∀ r ∈ ms, w.heap[r]? = some (.deferred (some []))) →
    (∃ v, (results fn tmps).run P (shut w ms) = .ok v (shut w ms) ∧ R (.returned v) (shut w ms)) → LeavesInM F m P fn tmps R (ms.map mark) .returning w
  | [], w, _, _, h => h
  | r :: rs, w, hn, hd, h => by
    obtain ⟨hr, hrs⟩ := List.nodup_cons.1 hn
    refine ⟨by simp, .inl ⟨r, _, rfl, run_takeDeferred (hd r (by simp)), ?_⟩⟩
    refine leaves_marks rs _ hrs (fun r' hr' => ?_) h
    rw [World.putObj_heap_other (fun e : r' = r => hr (e ▸ hr'))]
    exact hd r' (by simp [hr'])

section shut
variable {ms : List Nat} {w2 : World}

theorem shut_cell (hkeep : ∀ b, b ∉ ms → w2.heap[b]? = s.w.heap[b]?) (hms : ∀ r ∈ ms, s.w.heap[r]? = some (.deferred (some []))) {b i : Nat} {u : Value} (h : s.w.cell? ⟨b, i, none⟩ = some u) : w2.cell? ⟨b, i, none⟩ = some u := by
  have : b ∉ ms := fun hb => by
    simp only [World.cell?, hms b hb] at h
    cases h
  rw [← h]
  simp only [World.cell?, hkeep b this]

theorem shut_cells (hkeep : ∀ b, b ∉ ms → w2.heap[b]? = s.w.heap[b]?) (hms : ∀ r ∈ ms, s.w.heap[r]? = some (.deferred (some []))) {b : Nat} {cs : Array Value} {el : TypeId} {fr : Nat × Nat} (h : s.w.heap[b]? = some (.cells cs el fr)) : w2.heap[b]? = some (.cells cs el fr) := by
  have : b ∉ ms := fun hb => by
    rw [hms b hb] at h
    cases h
  rw [hkeep b this, h]

theorem shut_imm (hsz : w2.heap.size = s.w.heap.size) (b : Nat) : s.imm b ↔ (⟨w2, s.Y, s.σ, s.ι⟩ : St).imm b := by
  simp only [St.imm, Imm, hsz]

theorem shut_fvr (hsz : w2.heap.size = s.w.heap.size) (hkeep : ∀ b, b ∉ ms → w2.heap[b]? = s.w.heap[b]?) (hms : ∀ r ∈ ms, s.w.heap[r]? = some (.deferred (some []))) {x : FV} {v : Value} (h : FVR s.w s.imm x v) : FVR w2 (⟨w2, s.Y, s.σ, s.ι⟩ : St).imm x v := by
  induction h with
  | bool b => exact .bool b
  | int k n => exact .int k n
  | str s => exact .str s
  | nilp => exact .nilp
  | nilf => exact .nilf
  | fn f => exact .fn f
  | nil => exact .nil
  | empty a cap => exact .empty a cap
  | sl xs b off cap sz vals himm hcap hsz' hcell hval ih =>
    exact .sl xs b off cap sz vals ((shut_imm hsz b).1 himm) hcap hsz' (fun i j hi hj => shut_cell hkeep hms (hcell i j hi hj)) ih

theorem shut_pvr (hsz : w2.heap.size = s.w.heap.size) (hkeep : ∀ b, b ∉ ms → w2.heap[b]? = s.w.heap[b]?) (hms : ∀ r ∈ ms, s.w.heap[r]? = some (.deferred (some []))) {x : PV} {v : Value} (h : PVR s x v) : PVR ⟨w2, s.Y, s.σ, s.ι⟩ x v := by
  induction h with
  | undef => exact .undef
  | v hx => exact .v (shut_fvr hsz hkeep hms hx)
  | nils => exact .nils
  | full hx => exact .full (shut_fvr hsz hkeep hms hx)
  | buf hb hv ho hk =>
    refine .buf (s := ⟨w2, s.Y, s.σ, s.ι⟩) hb hv ho fun e => ?_
    obtain ⟨cap, cs, el, fr, q1, q2, q3, q4⟩ := hk e
    exact ⟨cap, cs, el, fr, q1, q2, shut_cells hkeep hms q3, q4⟩
  | ptr hb hv ho hk => exact .ptr (s := ⟨w2, s.Y, s.σ, s.ι⟩) hb hv ho hk
  | fptr himm hcell =>
    refine .fptr ((shut_imm hsz _).1 himm) fun j x hj => ?_
    obtain ⟨u, h1, h2⟩ := hcell j x hj
    exact ⟨u, shut_cell hkeep hms h1, shut_fvr hsz hkeep hms h2⟩
  | clo hf hc _ _ ih1 ih2 => exact .clo hf hc ih1 ih2
  | yld hl => exact .yld (s := ⟨w2, s.Y, s.σ, s.ι⟩) hl
  | agg hs _ ho ih => exact .agg hs ih ho
  | tup hs _ ih => exact .tup hs ih

theorem shut_inv (hsz : w2.heap.size = s.w.heap.size) (hkeep : ∀ b, b ∉ ms → w2.heap[b]? = s.w.heap[b]?) (hms : ∀ r ∈ ms, s.w.heap[r]? = some (.deferred (some []))) (hi : Inv s) : Inv ⟨w2, s.Y, s.σ, s.ι⟩ := by
  refine ⟨fun id => ?_, hi.inj, hi.notY, fun id el c h => (shut_imm hsz _).1 (hi.fz id el c h), hi.nx, fun b hb => by simp only [hsz]; exact hi.Ylt b hb⟩
  have he := hi.ent id
  simp only
  cases hent : s.σ.ent id with
  | none => trivial
  | blk el' c lv =>
    rw [hent] at he
    obtain ⟨cs, fr, q1, q2, q3, q4⟩ := he
    exact ⟨cs, fr, shut_cells hkeep hms q1, q2, q3, fun j x hj => by
      obtain ⟨u, hu, hp, ho⟩ := q4 j x hj
      exact ⟨u, hu, shut_pvr hsz hkeep hms hp, ho⟩⟩
  | loop fn' e' n' ps' as' bo' st' pend' =>
    rw [hent] at he
    obtain ⟨fn2, tmps, defers, q1, q2, q3⟩ := he
    have : s.ι id ∉ ms := fun hb => by
      rw [hms _ hb] at q1
      cases q1
    exact ⟨fn2, tmps, defers, (hkeep _ this).trans q1, q2, fun t => shut_pvr hsz hkeep hms (q3 t)⟩
end shut

/-- From an earlier state: blocks behind its heap may be shut. -/
theorem shut_ev {s0 : St} {ms : List Nat} {w2 : World} (hev : Ev s0 s) (hsz : w2.heap.size = s.w.heap.size) (hkeep : ∀ b, b ∉ ms → w2.heap[b]? = s.w.heap[b]?) (hms : ∀ r ∈ ms, s0.w.heap.size ≤ r)
    (ho : w2.os = s.w.os) (ht : w2.tape = s.w.tape) (hp : w2.output = s.w.output) : Ev s0 ⟨w2, s.Y, s.σ, s.ι⟩ where
  Y := hev.Y
  size := by simp only [hsz]; exact hev.size
  keep := fun b hb hl => by
    rw [← hev.keep b hb hl]
    exact hkeep b fun hm => by have := hms b hm; omega
  live := hev.live
  blk := fun id el cells lv h => by
    obtain ⟨c', l', e', hle, hk⟩ := hev.blk id el cells lv h
    refine ⟨c', l', e', hle, fun heq => ?_⟩
    obtain ⟨h1, h2⟩ := hk heq
    refine ⟨h1, fun cs e fr hc => ?_⟩
    obtain ⟨cs', fr', h3, h4⟩ := h2 cs e fr hc
    exact ⟨cs', fr', by rw [← h3]; exact hkeep _ fun hm => by have := hms _ hm; have := (Array.getElem?_eq_some_iff.1 hc).1; omega, h4⟩
  loop := hev.loop
  os := ho.trans hev.os
  tape := ht.trans hev.tape
  output := hp.trans hev.output

/-! ### What the heap's other entries see when the world grows behind it -/
theorem grow_ev {w' : World} (hi : Inv s) (hsz : s.w.heap.size ≤ w'.heap.size) (hk : ∀ b, b < s.w.heap.size → w'.heap[b]? = s.w.heap[b]?) (ho : w'.os = s.w.os) (ht : w'.tape = s.w.tape) (hp : w'.output = s.w.output) :
    Ev s ⟨w', s.Y, s.σ, s.ι⟩ ∧ Inv ⟨w', s.Y, s.σ, s.ι⟩ := by
  have hev : Ev s ⟨w', s.Y, s.σ, s.ι⟩ :=
    { Y := rfl
      size := hsz
      keep := fun b hb _ => hk b hb
      live := fun id h _ => ⟨id, h, rfl⟩
      blk := fun id el cells lv h => ⟨cells, lv, h, Nat.le_refl _, fun _ => ⟨rfl, fun cs e fr h => ⟨cs, fr, by rw [← h]; exact hk _ (Array.getElem?_eq_some_iff.1 h).1, rfl⟩⟩⟩
      loop := fun id fn e n ps as_ bo st pend h => ⟨⟨st, pend, h⟩, rfl⟩
      os := ho
      tape := ht
      output := hp }
  refine ⟨hev, fun id => ?_, hi.inj, hi.notY, fun id el c h => (hev.imm _ (hi.fz id el c h)).1, hi.nx, fun b hb => Nat.lt_of_lt_of_le (hi.Ylt b hb) hsz⟩
  have he := hi.ent id
  simp only
  cases hent : s.σ.ent id with
  | none => trivial
  | blk el' c lv =>
    rw [hent] at he
    obtain ⟨cs, fr, q1, q2, q3, q4⟩ := he
    exact ⟨cs, fr, (hk _ (Array.getElem?_eq_some_iff.1 q1).1).trans q1, q2, q3, fun j x hj => by
      obtain ⟨u, hu, hp, ho⟩ := q4 j x hj
      exact ⟨u, hu, hev.pvr hp, ho⟩⟩
  | loop fn' e' n' ps' as' bo' st' pend' =>
    rw [hent] at he
    obtain ⟨fn2, tmps, defers, q1, q2, q3⟩ := he
    exact ⟨fn2, tmps, defers, (hk _ (Array.getElem?_eq_some_iff.1 q1).1).trans q1, q2, fun t => hev.pvr (q3 t)⟩

/-! ### Values that refer to nothing that may change -/
def flat1 : PV → Bool
  | .undef | .v _ | .fptr _ => true
  | .agg cs => cs.all PV.isV
  | _ => false
def flat : PV → Bool
  | .tup xs => xs.all flat1
  | x => flat1 x

theorem flat1_pvr {s' : St} {x : PV} {v : Value} (hm : ∀ b, s.imm b → s'.imm b ∧ s'.w.heap[b]? = s.w.heap[b]?) (hf : flat1 x = true) (h : PVR s x v) : PVR s' x v := by
  cases h with
  | undef => exact .undef
  | v hx => exact .v (hx.mono hm)
  | fptr himm hcell =>
    refine .fptr (hm _ himm).1 fun j x hj => ?_
    obtain ⟨u, h1, h2⟩ := hcell j x hj
    refine ⟨u, ?_, h2.mono hm⟩
    rw [← h1]
    simp only [World.cell?, (hm _ himm).2]
  | @agg cells cs hs h ho =>
    refine .agg hs (fun i x hi => ?_) ho
    simp only [flat1, List.all_eq_true] at hf
    have h1 := hf x (List.mem_of_getElem? hi)
    have h2 := h i x hi
    cases x <;> simp [PV.isV] at h1
    generalize cs.getD i Go.undef = u at h2
    cases h2 with
    | v hx => exact .v (hx.mono hm)
  | _ => simp [flat1] at hf

theorem flat_pvr {s' : St} {x : PV} {v : Value} (hm : ∀ b, s.imm b → s'.imm b ∧ s'.w.heap[b]? = s.w.heap[b]?) (hf : flat x = true) (h : PVR s x v) : PVR s' x v := by
  cases x with
  | tup xs =>
    cases h with
    | tup hs h =>
      refine .tup hs fun i x hi => ?_
      simp only [flat, List.all_eq_true] at hf
      exact flat1_pvr hm (hf x (List.mem_of_getElem? hi)) (h i x hi)
  | _ => exact flat1_pvr hm hf h

theorem pure_flat {x : PV} (h : x.pure = true) : flat x = true ∧ flat1 x = true := by
  cases x <;> simp [PV.pure] at h <;> simp [flat, flat1]
  · exact h

theorem vs_all (xs : List FV) : (vs xs).all PV.isV = true := by
  rw [List.all_eq_true]
  intro x hx
  simp only [vs, List.mem_map] at hx
  obtain ⟨y, _, rfl⟩ := hx
  rfl

theorem expVal_flat {σ σ' : Heap} {x y : PV} (h : expVal σ x = some (y, σ')) : flat1 y = true ∧ ∀ ts, y ≠ .tup ts := by
  have one : ∀ {x : PV}, (expCell 6 σ x).bind (fun r => some (PV.v r.1, r.2)) = some (y, σ') → flat1 y = true ∧ ∀ ts, y ≠ .tup ts := by
    intro x h
    simp only [Option.bind_eq_some_iff, Option.some.injEq, Prod.mk.injEq] at h
    obtain ⟨⟨z, σ1⟩, h1, rfl, rfl⟩ := h
    exact ⟨rfl, by simp⟩
  unfold expVal at h
  split at h
  · simp only [Option.bind_eq_some_iff, Option.some.injEq, Prod.mk.injEq] at h
    obtain ⟨⟨z, σ1⟩, h1, rfl, rfl⟩ := h
    exact ⟨vs_all _, by simp⟩
  · cases h; exact ⟨rfl, by simp⟩
  · cases h; exact ⟨rfl, by simp⟩
  · cases h
  · exact one h

theorem expVals_flat : ∀ {xs ys : List PV} {σ σ' : Heap}, expVals σ xs = some (ys, σ') → ys.all flat1 = true
  | [], ys, σ, σ', h => by simp [expVals] at h; rw [h.1]; rfl
  | x :: xs, ys, σ, σ', h => by
    simp only [expVals, Option.bind_eq_some_iff, Option.some.injEq, Prod.mk.injEq] at h
    obtain ⟨⟨y, σ1⟩, h1, ⟨zs, σ2⟩, h2, rfl, rfl⟩ := h
    simp only [List.all_cons, Bool.and_eq_true]
    exact ⟨(expVal_flat h1).1, expVals_flat h2⟩

theorem expRes_flat {σ σ' : Heap} {x y : PV} (h : expRes σ x = some (y, σ')) : flat y = true := by
  unfold expRes at h
  split at h
  · simp only [Option.bind_eq_some_iff, Option.some.injEq, Prod.mk.injEq] at h
    obtain ⟨⟨z, σ1⟩, h1, rfl, rfl⟩ := h
    exact expVals_flat h1
  · obtain ⟨h1, h2⟩ := expVal_flat h
    cases y <;> first | exact h1 | exact absurd rfl (h2 _)

theorem expCell_v {σ : Heap} {y : FV} : expCell 6 σ (.v y) = some (y, σ) := rfl

theorem expCells_pure {σ : Heap} : ∀ (cs : List PV), cs.all PV.isV = true → ∃ ys, expCellsW (expCell 6) σ cs = some (ys, σ) ∧ vs ys = cs
  | [], _ => ⟨[], rfl, rfl⟩
  | x :: cs, h => by
    simp only [List.all_cons, Bool.and_eq_true] at h
    obtain ⟨ys, h1, h2⟩ := expCells_pure (σ := σ) cs h.2
    cases x <;> simp [PV.isV] at h
    rename_i y
    exact ⟨y :: ys, by simp only [expCellsW, expCell_v, Option.bind_some, h1], by simp only [vs, List.map_cons] at h2 ⊢; rw [h2]⟩

theorem expArg_pure {σ : Heap} {x : PV} (h : x.pure = true) : expArg σ x = some (x, σ) := by
  cases x <;> simp [PV.pure] at h
  · rfl
  · rfl
  · rename_i cs
    obtain ⟨ys, h1, h2⟩ := expCells_pure (σ := σ) cs (by simpa using h)
    simp [expArg, expVal, expList, h1, h2]

theorem expArgs_pure {σ : Heap} : ∀ {xs : List PV}, xs.all PV.pure = true → expArgs σ xs = some (xs, σ)
  | [], _ => rfl
  | x :: xs, h => by
    simp only [List.all_cons, Bool.and_eq_true] at h
    simp [expArgs, expArg_pure h.1, expArgs_pure h.2]

theorem pure_calm {xs : List PV} (h : xs.all PV.pure = true) : xs.all PV.calm = true := by
  rw [List.all_eq_true] at h ⊢
  intro x hx
  have := h x hx
  cases x <;> simp only [PV.pure, PV.calm, Bool.false_eq_true] at this ⊢
  rw [List.all_eq_true] at this ⊢
  intro y hy
  have := this y hy
  cases y <;> simp only [PV.isV, PV.isN, Bool.false_eq_true] at this ⊢

theorem expCells_calm : ∀ (cs : List PV), cs.all PV.isN = true → ∃ ys, ∀ σ, expCellsW (expCell 6) σ cs = some (ys, σ)
  | [], _ => ⟨[], fun _ => rfl⟩
  | x :: cs, h => by
    simp only [List.all_cons, Bool.and_eq_true] at h
    obtain ⟨ys, h1⟩ := expCells_calm cs h.2
    have h0 : ∃ y, ∀ σ, expCell 6 σ x = some (y, σ) := by
      cases x <;> simp only [PV.isN, Bool.false_eq_true, false_and] at h
      · exact ⟨_, fun _ => rfl⟩
      · exact ⟨_, fun _ => rfl⟩
      · exact ⟨_, fun _ => rfl⟩
    obtain ⟨y, hy⟩ := h0
    exact ⟨y :: ys, fun σ => by simp only [expCellsW, hy, Option.bind_some, h1]⟩

theorem expArg_calm {x : PV} (h : x.calm = true) : ∃ y : PV, y.pure = true ∧ ∀ σ, expArg σ x = some (y, σ) := by
  have one : ∀ {y : FV}, (∀ σ, expArg σ x = some (.v y, σ)) → ∃ y : PV, y.pure = true ∧ ∀ σ, expArg σ x = some (y, σ) := fun {y} h => ⟨.v y, rfl, h⟩
  cases x with
  | v y => exact one (y := y) fun _ => rfl
  | nils => exact one (y := .sl []) fun _ => rfl
  | full xs => exact one (y := .sl xs) fun _ => rfl
  | fptr cs => exact ⟨.fptr cs, rfl, fun _ => rfl⟩
  | agg cs =>
    obtain ⟨ys, h1⟩ := expCells_calm cs h
    refine ⟨.agg (vs ys), ?_, fun σ => ?_⟩
    · simp [PV.pure, vs, PV.isV]
    · simp only [expArg, expVal, expList, h1, Option.bind_some]
  | _ => simp only [PV.calm, Bool.false_eq_true] at h

theorem expArgs_calm : ∀ {xs : List PV}, xs.all PV.calm = true → ∃ ys : List PV, ys.all PV.pure = true ∧ ∀ σ, expArgs σ xs = some (ys, σ)
  | [], _ => ⟨[], rfl, fun _ => rfl⟩
  | x :: xs, h => by
    simp only [List.all_cons, Bool.and_eq_true] at h
    obtain ⟨y, h1, h2⟩ := expArg_calm h.1
    obtain ⟨ys, h3, h4⟩ := expArgs_calm h.2
    exact ⟨y :: ys, by simp only [List.all_cons, h1, h3, Bool.and_self], fun σ => by simp only [expArgs, h2, Option.bind_some, h4]⟩

/-! ### Results -/
theorem results_ok (hi : Inv s) {fn : Func} {e : Env} {a : Act} (he : EnvR s n e a) {xs : List PV} (h : resultsD X.P e s.σ fn.results.toList = some xs) :
    ∃ v, (results fn a.tmps).run X.P s.w = .ok v s.w ∧ PVR s (packD xs) v := by
  let q : ResultVar → Sem Value := fun
    | .tmp t => pure (a.tmps.getD t undef)
    | .cell ad t => do loadVar t (← asAddr (a.tmps.getD ad undef))
  have key : ∀ (rs : List ResultVar) (xs : List PV), resultsD X.P e s.σ rs = some xs → ∃ us : List Value, (rs.mapM q).run X.P s.w = .ok us s.w ∧ us.length = xs.length ∧ ∀ (i : Nat) (x : PV), xs[i]? = some x → PVR s x ((us[i]?).getD Go.undef) := by
    intro rs
    induction rs with
    | nil => intro xs h; simp [resultsD] at h; subst h; exact ⟨[], by simp, rfl, by simp⟩
    | cons r rs ih =>
      intro xs h
      have one : ∃ x ys u, (q r).run X.P s.w = .ok u s.w ∧ PVR s x u ∧ resultsD X.P e s.σ rs = some ys ∧ xs = x :: ys := by
        cases r with
        | tmp t =>
          simp only [resultsD, Option.map_eq_some_iff] at h
          obtain ⟨ys, h1, rfl⟩ := h
          exact ⟨e t, ys, _, by simp [q], he.2 t, h1, rfl⟩
        | cell ad t =>
          simp only [resultsD, Option.bind_eq_some_iff, Option.map_eq_some_iff] at h
          obtain ⟨x, h1, ys, h2, rfl⟩ := h
          obtain ⟨addr, u, h3, h4, h5⟩ := load_ok (P := X.P) hi (he.2 ad) h1
          refine ⟨x, ys, u, ?_, h5, h2, rfl⟩
          show ((do loadVar t (← asAddr (a.tmps.getD ad undef)) : Sem Value)).run X.P s.w = _
          rw [h3]
          simp [asAddr, h4]
      obtain ⟨x, ys, u, h1, h2, h3, rfl⟩ := one
      obtain ⟨us, h4, h5, h6⟩ := ih ys h3
      refine ⟨u :: us, by simp [List.mapM_cons, h1, h4], by simp [h5], fun i y hi => ?_⟩
      cases i with
      | zero => simp at hi; subst hi; exact h2
      | succ i => exact h6 i y (by simpa using hi)
  obtain ⟨us, h1, h2, h3⟩ := key _ _ h
  have hr : (results fn a.tmps).run X.P s.w = .ok (if h : us.toArray.size = 1 then us.toArray[0] else .tuple us.toArray) s.w := by
    have : results fn a.tmps = (do let vs ← fn.results.mapM q; pure (if h : vs.size = 1 then vs[0] else .tuple vs)) := rfl
    rw [this, Array.mapM_eq_mapM_toList]
    simp [Sem.run_bind, h1]
  refine ⟨_, hr, ?_⟩
  cases xs with
  | nil =>
    have : us = [] := List.length_eq_zero_iff.1 h2
    subst this
    exact .tup rfl (fun i x hi => by simp at hi)
  | cons x xs =>
    cases xs with
    | nil =>
      cases us with
      | nil => simp at h2
      | cons u us =>
        have : us = [] := List.length_eq_zero_iff.1 (by simpa using h2)
        subst this
        have := h3 0 x (by simp)
        simpa [packD] using this
    | cons y ys =>
      have hne : us.toArray.size ≠ 1 := by simp [h2]
      rw [dif_neg hne]
      refine .tup (by simp [h2]) fun i z hz => ?_
      have := h3 i z hz
      simpa [Array.getD_eq_getD_getElem?] using this

/-! ### The body -/
theorem env_of {args : List PV} {vs : Array Value} {k : Nat} (h : PVRs s args vs) : EnvR s (max k args.length) (envOf args) { tmps := vs ++ Array.replicate (k - vs.size) undef, defers := [] } := by
  refine ⟨by simp [h.1]; omega, fun t => ?_⟩
  unfold envOf
  rw [List.getD_eq_getElem?_getD]
  simp only [Array.getD_eq_getD_getElem?, Array.getElem?_append]
  by_cases ht : t < args.length
  · have h1 := h.2 t args[t] (by simp [ht])
    have ht' : t < vs.size := by rw [← h.1]; exact ht
    simpa [ht, ht', Array.getD_eq_getD_getElem?] using h1
  · have ht' : ¬ t < vs.size := by rw [← h.1]; exact ht
    rw [if_neg ht', List.getElem?_eq_none (by omega)]
    simp only [Option.getD_none]
    by_cases h2 : t - vs.size < k - vs.size
    · simp [h2]; exact .undef
    · simp [h2]; exact .undef

theorem body_ok {call : Call0} (hm : X.P.follows .mixedOrders = true) (hnm : ∀ (f : FuncId) (fn : Func), X.P.funcs[f]? = some fn → (fn.name == "runtime.NumGoroutine") = false)
    (hcall : CallOK X call) (htame : CallTame call) (hcp : CallPure X call) {lf : Nat} {f : FuncId} {args : List PV} {vs : Array Value} {r : PV} {σ' : Heap} (hi : Inv s) (hG : GlobOK X s) (hv : PVRs s args vs) (h : bodyD X call lf f args s.σ = some (r, σ')) :
    (callFunc f vs).run X.P s.w = .ok (.enter f vs) s.w ∧ Calls X.P f vs s.w fun en w' => ∃ v, en = .returned v ∧ Post s r σ' v w' := by
  unfold bodyD at h
  split at h
  · cases h
  · rename_i fn hfn
    split at h
    · cases h
    · rename_i c hb
      refine ⟨?_, ?_⟩
      · have hp : (program).run X.P s.w = .ok X.P s.w := rfl
        simp only [callFunc, Sem.run_bind, hp, Result.andThen_ok, hfn, hnm f fn hfn, hb]
        simp
      · have fin : ∀ (x : Ex) (e1 : Env) (σ1 : Heap), runCode X call lf (max fn.ntmps args.length) f c (envOf args) s.σ = some (x, e1, σ1) → (x = .normal ∨ x = .ret) →
            ((resultsD X.P e1 σ1 fn.results.toList).map fun xs => (packD xs, σ1)) = some (r, σ') → Calls X.P f vs s.w fun en w' => ∃ v, en = .returned v ∧ Post s r σ' v w' := by
          intro x e1 σ1 h1 hx h2
          simp only [Option.map_eq_some_iff, Prod.mk.injEq] at h2
          obtain ⟨xs, h2, rfl, rfl⟩ := h2
          have hw : CallsIn (Fw none) 0 X.P f vs s.w fun en w' => ∃ v, en = .returned v ∧ Post s (packD xs) σ1 v w' := by
            refine callsIn_of_wp_marks hfn hb trivial ?_ rfl
            refine code_ok hm hcall htame hcp c hG hi (env_of hv) (fun l hl => by cases hl) h1 fun a' w' ι' ht => ?_
            obtain ⟨ms, hd, hmk⟩ := ht.marks
            have hd : a'.defers = ms.map mark := by simpa using hd
            have hml : ∀ r ∈ ms, w'.heap[r]? = some (.deferred (some [])) := fun r hr => (hmk.2 r hr).2.2
            obtain ⟨g1, g2, g3, g4, g5⟩ := shut_facts ms w'
            have hi2 := shut_inv (s := ⟨w', s.Y, σ1, ι'⟩) g1 g2 hml ht.inv
            have he2 : EnvR ⟨shut w' ms, s.Y, σ1, ι'⟩ (max fn.ntmps args.length) e1 a' := ⟨ht.env.1, fun t => shut_pvr (s := ⟨w', s.Y, σ1, ι'⟩) g1 g2 hml (ht.env.2 t)⟩
            have hev2 := shut_ev ht.ev g1 g2 (fun r hr => (hmk.2 r hr).1) g3 g4 g5
            obtain ⟨v, h3, h4⟩ := results_ok (X := X) hi2 he2 h2
            have hl : LeavesInM (Fw none) 0 X.P fn a'.tmps (fun en w' => ∃ v, en = .returned v ∧ Post s (packD xs) σ1 v w') a'.defers .returning w' := by
              rw [hd]
              exact leaves_marks ms w' hmk.1 hml ⟨v, h3, v, rfl, ι', hi2, hev2, h4⟩
            rcases hx with rfl | rfl
            · exact hl
            · exact hl
          exact (callsIn_wide (n := 0)).1 hw
        split at h
        · rename_i e1 σ1 h1
          exact fin .normal e1 σ1 h1 (.inl rfl) h
        · rename_i e1 σ1 h1
          exact fin .ret e1 σ1 h1 (.inr rfl) h
        · cases h

end Go.Dn
