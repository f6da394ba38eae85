/- Loads, stores, blocks made. -/
import Derived.Test.YtefaoeaohhdhkaaD4
set_option linter.unusedVariables false
set_option linter.unusedSimpArgs false
namespace Go.Dn
open Go

variable {X : Ctx} {s : St} {n : Nat} {e : Env} {a : Act} {P : Program}

theorem addr_add (b o j : Nat) : (⟨b, o, none⟩ : Addr).add j = ⟨b, o + j, none⟩ := by
  unfold Addr.add; split <;> simp_all

/-- Cells read in a row. -/
theorem loadCells_pvr (b o : Nat) (xs : List PV) (h : ∀ (j : Nat) (x : PV), xs[j]? = some x → ∃ u, s.w.cell? ⟨b, o + j, none⟩ = some u ∧ PVR s x u ∧ u.oneCell' = true) :
    ∃ cs : Array Value, (loadCells ⟨b, o, none⟩ xs.length).run P s.w = .ok cs s.w ∧ PVR s (.agg xs) (.agg cs) := by
  let f : Nat → Value := fun j => (s.w.cell? ⟨b, o + j, none⟩).getD Go.undef
  have hf : ∀ j, j < xs.length → s.w.cell? ⟨b, o + j, none⟩ = some (f j) := fun j hj => by
    obtain ⟨u, hu, _⟩ := h j xs[j] (List.getElem?_eq_getElem hj)
    simp [f, hu]
  have hr := run_loadCells_list (P := P) s.w ⟨b, o, none⟩ ((List.range xs.length).map f) (fun j v hv => by
    rw [addr_add]
    simp only [List.getElem?_map, Option.map_eq_some_iff] at hv
    obtain ⟨k, hk, rfl⟩ := hv
    obtain ⟨hlt, rfl⟩ := List.getElem?_eq_some_iff.1 hk
    simp only [List.getElem_range] at *
    exact hf _ (by simpa using hlt))
  simp only [List.length_map, List.length_range] at hr
  refine ⟨_, hr, .agg (by simp) (fun i x hi => ?_) (fun i u hu => ?_)⟩
  · have hl : i < xs.length := (List.getElem?_eq_some_iff.1 hi).1
    obtain ⟨u, hu, hp, _⟩ := h i x hi
    have : f i = u := by simp [f, hu]
    simpa [Array.getD_eq_getD_getElem?, hl, this] using hp
  · simp only [List.getElem?_toArray, List.getElem?_map, Option.map_eq_some_iff] at hu
    obtain ⟨k, hk, rfl⟩ := hu
    obtain ⟨hlt, rfl⟩ := List.getElem?_eq_some_iff.1 hk
    simp only [List.getElem_range] at *
    have hl : i < xs.length := by simpa using hlt
    obtain ⟨u, hu, _, ho⟩ := h i xs[i] (List.getElem?_eq_getElem hl)
    have : f i = u := by simp [f, hu]
    rw [this]; exact ho

/-- A pointer's block, its cells. -/
theorem blk_cells (hi : Inv s) {id : Nat} {el : TypeId} {cells : List PV} {lv : Bool} (hb : s.σ.ent id = .blk el cells lv) (j : Nat) (x : PV) (hj : cells[j]? = some x) :
    ∃ u, s.w.cell? ⟨s.ι id, j, none⟩ = some u ∧ PVR s x u ∧ u.oneCell' = true := by
  have := hi.ent id
  rw [hb] at this
  obtain ⟨cs, fr, h1, _, _, h4⟩ := this
  obtain ⟨u, hu, hp, ho⟩ := h4 j x hj
  exact ⟨u, by simp [World.cell?, h1, hu], hp, ho⟩

theorem loadVar_agg {t : TypeId} {k b o : Nat} (ha : tagg P t = some true) (hs : tsize P t = some k) (xs : List PV) (hl : xs.length = k)
    (h : ∀ (j : Nat) (x : PV), xs[j]? = some x → ∃ u, s.w.cell? ⟨b, o + j, none⟩ = some u ∧ PVR s x u ∧ u.oneCell' = true) :
    ∃ v, (loadVar t ⟨b, o, none⟩).run P s.w = .ok v s.w ∧ PVR s (.agg xs) v := by
  obtain ⟨cs, h1, h2⟩ := loadCells_pvr (P := P) b o xs h
  refine ⟨.agg cs, ?_, h2⟩
  subst hl
  simp [loadVar, tagg_run s.w ha, tsize_run s.w hs, h1]

theorem loadVar_one {t : TypeId} {b o : Nat} {u : Value} (ha : tagg P t = some false) (h : s.w.cell? ⟨b, o, none⟩ = some u) :
    (loadVar t ⟨b, o, none⟩).run P s.w = .ok u s.w := by
  simp [loadVar, tagg_run s.w ha, h]

theorem load_ok (hi : Inv s) {t : TypeId} {p x : PV} {v : Value} (hp : PVR s p v) (h : loadD P s.σ t p = some x) :
    ∃ ad u, v = .pointer (some ad) ∧ (loadVar t ad).run P s.w = .ok u s.w ∧ PVR s x u := by
  unfold loadD at h
  split at h
  · rename_i id ver off
    split at h
    · rename_i el cells lv hb
      split at h
      · rename_i hver
        cases hp with
        | ptr hbk hv ho hk =>
          have hvv := hk (by simp [Heap.ver, hb, hver])
          subst hvv
          split at h
          · rename_i k ha hs
            split at h
            · rename_i hle
              simp at h; subst h
              obtain ⟨u, h1, h2⟩ := loadVar_agg (s := s) (P := P) (b := s.ι id) (o := off) ha hs ((cells.drop off).take k) (by simp; omega) (fun j x hj => by
                rw [List.getElem?_take] at hj
                split at hj
                · rw [List.getElem?_drop] at hj
                  exact blk_cells hi hb _ x hj
                · cases hj)
              exact ⟨_, u, rfl, h1, h2⟩
            · simp at h
          · rename_i ha
            obtain ⟨u, h1, h2, _⟩ := blk_cells hi hb off x h
            exact ⟨_, u, rfl, loadVar_one ha h1, h2⟩
          · simp at h
      · simp at h
    · simp at h
  · rename_i cells
    cases hp with
    | @fptr _ b off himm hc =>
      have hc' : ∀ (j : Nat) (x : PV), (vs cells)[j]? = some x → ∃ u, s.w.cell? ⟨b, off + j, none⟩ = some u ∧ PVR s x u ∧ u.oneCell' = true := fun j x hj => by
        simp only [vs, List.getElem?_map, Option.map_eq_some_iff] at hj
        obtain ⟨y, hy, rfl⟩ := hj
        obtain ⟨u, h1, h2⟩ := hc j y hy
        exact ⟨u, h1, .v h2, h2.oneCell⟩
      split at h
      · rename_i k ha hs
        split at h
        · rename_i hle
          simp at h; subst h
          obtain ⟨u, h1, h2⟩ := loadVar_agg (s := s) (P := P) (b := b) (o := off) ha hs (vs (cells.take k)) (by simp [vs]; omega) (fun j x hj => by
            refine hc' j x ?_
            simp only [vs, List.map_take, List.getElem?_take] at hj ⊢
            split at hj
            · exact hj
            · cases hj)
          exact ⟨_, u, rfl, h1, h2⟩
        · simp at h
      · rename_i ha
        simp only [Option.map_eq_some_iff] at h
        obtain ⟨y, hy, rfl⟩ := h
        obtain ⟨u, h1, h2⟩ := hc 0 y hy
        exact ⟨_, u, rfl, loadVar_one ha (by simpa using h1), .v h2⟩
      · simp at h
  · simp at h

theorem load_gives (hi : Inv s) {t : TypeId} {p x : PV} {v : Value} (hp : PVR s p v) (h : loadD P s.σ t p = some x) :
    Gives X s x s.σ ((Instr.loadAt t v).run P s.w) := by
  obtain ⟨ad, u, rfl, h1, h2⟩ := load_ok hi hp h
  simp only [Instr.loadAt, Instr.sureAddr, Sem.run_bind, Sem.run_pure, Result.andThen_ok, h1]
  exact .same hi h2

/-- Cells written over. -/
theorem splice_get (xs ys : List PV) (off : Nat) (h : off + ys.length ≤ xs.length) (j : Nat) :
    (splice xs off ys)[j]? = if j < off then xs[j]? else if j < off + ys.length then ys[j - off]? else xs[j]? := by
  unfold splice
  rw [List.append_assoc, List.getElem?_append]
  simp only [List.length_take]
  have : min off xs.length = off := by omega
  rw [this]
  split
  · rename_i hj; rw [List.getElem?_take]; simp [hj]
  · rename_i hj
    rw [List.getElem?_append]
    split
    · rename_i hk
      have : j < off + ys.length := by omega
      simp [this]
    · rename_i hk
      have : ¬ j < off + ys.length := by omega
      simp only [this, if_false, List.getElem?_drop]
      congr 1; omega

theorem splice_length (xs ys : List PV) (off : Nat) (h : off + ys.length ≤ xs.length) : (splice xs off ys).length = xs.length := by
  simp [splice]; omega

theorem arr_splice_get (cs : Array Value) (ys : List Value) (off : Nat) (h : off + ys.length ≤ cs.size) (j : Nat) :
    ((cs.toList.take off ++ ys ++ cs.toList.drop (off + ys.length)).toArray)[j]? = if j < off then cs[j]? else if j < off + ys.length then ys[j - off]? else cs[j]? := by
  simp only [List.getElem?_toArray]
  rw [List.append_assoc, List.getElem?_append]
  simp only [List.length_take, Array.length_toList]
  have : min off cs.size = off := by omega
  rw [this]
  split
  · rename_i hj; rw [List.getElem?_take]; simp [hj]
  · rename_i hj
    rw [List.getElem?_append]
    split
    · rename_i hk
      have : j < off + ys.length := by omega
      simp [this]
    · rename_i hk
      have : ¬ j < off + ys.length := by omega
      simp only [this, if_false, List.getElem?_drop, Array.getElem?_toList]
      congr 1; omega

/-- A live block's cells written over from a place on, in the model: the state goes on. -/
theorem put_splice (hi : Inv s) {id : Nat} {el : TypeId} {cells : List PV} (hb : s.σ.ent id = .blk el cells true) (hnx : id < s.σ.nx)
    (ys : List PV) (us : List Value) (off : Nat) (hl : ys.length = us.length) (hle : off + ys.length ≤ cells.length)
    (hy : ∀ (j : Nat) (y : PV), ys[j]? = some y → ∃ u, us[j]? = some u ∧ PVR s y u ∧ u.oneCell' = true)
    {cs : Array Value} (hcs : s.w.heap[s.ι id]? = some (.cells cs el (0, 0))) :
    Put s id el (splice cells off ys) (s.ι id) (s.w.setRow (s.ι id) (cs.toList.take off ++ us ++ cs.toList.drop (off + us.length)).toArray)
      (cs.toList.take off ++ us ++ cs.toList.drop (off + us.length)).toArray := by
  have he := hi.ent id
  rw [hb] at he
  obtain ⟨cs0, fr, h1, h2, _, h4⟩ := he
  rw [h1] at hcs
  simp only [Option.some.injEq, Obj.cells.injEq] at hcs
  obtain ⟨rfl, _, rfl⟩ := hcs
  have hsz : (cs0.toList.take off ++ us ++ cs0.toList.drop (off + us.length)).toArray.size = cs0.size := by simp; omega
  refine ⟨.inr ⟨cells, hb, by rw [splice_length _ _ _ hle]; exact Nat.le_refl _, fun _ => rfl⟩, .inr ⟨rfl, ⟨cells, hb⟩, fun cs e fr hc => ?_⟩, by simp, fun b _ hne => setRow_other _ _ _ _ hne,
    setRow_heap _ _ _ _ _ _ h1, by rw [splice_length _ _ _ hle, hsz]; exact h2, fun j x hj => ?_, hnx, rfl, rfl, rfl⟩
  · rw [h1] at hc; cases hc; exact hsz
  · rw [splice_get _ _ _ hle] at hj
    rw [arr_splice_get _ _ _ (by omega)]
    rw [← hl]
    split
    · rename_i hlt; rw [if_pos hlt] at hj; exact h4 j x hj
    · rename_i hlt
      rw [if_neg hlt] at hj
      split
      · rename_i hk; rw [if_pos hk] at hj; exact hy _ x hj
      · rename_i hk; rw [if_neg hk] at hj; exact h4 j x hj

theorem live_row (hi : Inv s) {id : Nat} {el : TypeId} {cells : List PV} (hb : s.σ.ent id = .blk el cells true) : ∃ cs, s.w.heap[s.ι id]? = some (.cells cs el (0, 0)) ∧ cells.length ≤ cs.size := by
  have he := hi.ent id
  rw [hb] at he
  obtain ⟨cs0, fr, h1, h2, h3, h4⟩ := he
  rw [h3 rfl] at h1
  exact ⟨cs0, h1, h2⟩

theorem nx_of (hi : Inv s) {id : Nat} (h : s.σ.ent id ≠ .none) : id < s.σ.nx := by
  rcases Nat.lt_or_ge id s.σ.nx with h' | h'
  · exact h'
  · exact absurd (hi.nx id h') h

theorem store_ok (hi : Inv s) {t : TypeId} {p x : PV} {v u : Value} {σ' : Heap} (hp : PVR s p v) (hx : PVR s x u) (h : storeD P s.σ t x p = some σ') :
    ∃ ι' w', (Instr.storeAt t v u).run P s.w = .ok () w' ∧ Inv ⟨w', s.Y, σ', ι'⟩ ∧ Ev s ⟨w', s.Y, σ', ι'⟩ := by
  unfold storeD at h
  split at h
  · rename_i id ver off
    split at h
    · rename_i el cells hb
      split at h
      · rename_i hver
        cases hp with
        | ptr hbk hv ho hk =>
          have hvv := hk (by simp [Heap.ver, hb, hver])
          subst hvv
          split at h
          · rename_i k ys hs hc
            split at h
            · rename_i hle
              simp at h; subst h
              obtain ⟨hl1, hle⟩ := hle
              obtain ⟨c1, c2⟩ := cells_pvr hc hx
              obtain ⟨cs, hcs, hcl⟩ := live_row hi hb
              have hput := put_splice hi hb (nx_of hi (by rw [hb]; simp)) ys u.cells.toList off (by simpa using c1) (by omega)
                (fun j y hj => by obtain ⟨q, q1, q2, q3⟩ := c2 j y hj; exact ⟨q, by simpa using q1, q2, q3⟩) hcs
              have hst := run_storeCells_at P (s.ι id) off el u.cells.toList 0 cs s.w hcs (by simp; omega) (fun q hq => by
                obtain ⟨j, hj, rfl⟩ := List.getElem_of_mem hq
                have hj' : j < ys.length := by rw [c1]; simpa using hj
                obtain ⟨q', q1, _, q3⟩ := c2 j ys[j] (List.getElem?_eq_getElem hj')
                have : u.cells[j]? = some (u.cells.toList[j]) := by simp
                rw [this] at q1; cases q1; exact q3)
              simp only [Nat.add_zero] at hst
              refine ⟨_, _, ?_, hput.inv hi, hput.ev hi⟩
              have hne : (u.cells.size ≠ k) = False := by simp; omega
              simp [Instr.storeAt, Instr.sureAddr, storeVar, tsize_run s.w hs, hst, ← c1, hl1]
            · simp at h
          · simp at h
      · simp at h
    · simp at h
  · simp at h

theorem tzero_ok {t : TypeId} {z : List PV} (h : tzero P t = some z) : ∃ v, (∀ w, (zeroValue t).run P w = .ok v w) ∧ z.length = v.cells.size ∧
    ∀ (i : Nat) (y : PV), z[i]? = some y → ∃ u, v.cells[i]? = some u ∧ PVR s y u ∧ u.oneCell' = true := by
  simp only [tzero, Option.bind_eq_some_iff] at h
  obtain ⟨v, ⟨i, hi, hz⟩, hc⟩ := h
  obtain ⟨h1, h2⟩ := ofCells_pvr (s := s) hc
  refine ⟨v, fun w => by simp [zeroValue, info_of w hi, hz], by simpa using h1, fun i y hy => ?_⟩
  obtain ⟨u, q1, q2, q3⟩ := h2 i y hy
  exact ⟨u, by simpa using q1, q2, q3⟩

/-- A variable made. -/
theorem newVar_gives (hi : Inv s) {id0 : Nat} (hid : s.σ.ent id0 = .none) (hnx : id0 < s.σ.nx) {t : TypeId} {cells : List PV} {v : Value} (hl : cells.length = v.cells.size)
    (hc : ∀ (i : Nat) (y : PV), cells[i]? = some y → ∃ u, v.cells[i]? = some u ∧ PVR s y u ∧ u.oneCell' = true) :
    Gives X s (newD s.σ id0 t cells).1 (newD s.σ id0 t cells).2 ((do pure (Value.pointer (some (← newVar t v))) : Sem Value).run P s.w) := by
  have hput := put_new hi hid hnx t cells v.cells { s.w with heap := s.w.heap.push (.cells v.cells t) } rfl rfl rfl rfl (by omega) hc
  refine ⟨_, _, _, rfl, hput.inv hi, hput.ev hi, ?_⟩
  refine .ptr ⟨t, cells, true, by simp [newD, Heap.put, upd_same]⟩ (by simp [newD, Heap.ver, Heap.put, upd_same]) rfl fun _ => ?_
  simp [upd_same]

end Go.Dn
