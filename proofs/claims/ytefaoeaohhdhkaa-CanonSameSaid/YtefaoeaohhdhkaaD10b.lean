/- What was a buffer of the interpreter's is immutable from now on. -/
import Derived.Test.YtefaoeaohhdhkaaD10
set_option linter.unusedVariables false
set_option linter.unusedSimpArgs false
namespace Go.Dn
open Go

variable {X : Ctx} {s : St} {n : Nat} {e : Env} {a : Act} {P : Program}

def St.frz (s : St) (id : Nat) (el : TypeId) (cells : List PV) : St := ⟨s.w, s.Y, s.σ.put id (.blk el cells false), s.ι⟩

theorem frz_live {id id' : Nat} {el : TypeId} {cells : List PV} (h : Live (s.frz id el cells).σ id') : Live s.σ id' ∧ id' ≠ id := by
  by_cases e : id' = id
  · subst e
    rcases h with ⟨el', c', h⟩ | ⟨fn, e', n, ps, as_, bo, st, pend, h⟩
    · simp [St.frz, Heap.put, upd_same] at h
    · simp [St.frz, Heap.put, upd_same] at h
  · exact ⟨(live_put e).1 h, e⟩

theorem frz_ev {id : Nat} {el : TypeId} {cells : List PV} {lv : Bool} (hb : s.σ.ent id = .blk el cells lv) : Ev s (s.frz id el cells) where
  Y := rfl
  size := Nat.le_refl _
  keep := fun _ _ _ => rfl
  live := fun id' h _ => ⟨id', (frz_live h).1, rfl⟩
  blk := fun id' el' c lv' h => by
    by_cases e : id' = id
    · subst e
      rw [hb] at h; cases h
      exact ⟨cells, false, by simp [St.frz, Heap.put, upd_same], Nat.le_refl _, fun _ => ⟨rfl, fun cs e fr h => ⟨cs, fr, h, rfl⟩⟩⟩
    · exact ⟨c, lv', by simp [St.frz, Heap.put, upd_ne _ _ e, h], Nat.le_refl _, fun _ => ⟨rfl, fun cs e fr h => ⟨cs, fr, h, rfl⟩⟩⟩
  loop := fun id' fn e n ps as_ bo st pend h => by
    by_cases e' : id' = id
    · subst e'; rw [hb] at h; cases h
    · exact ⟨⟨st, pend, by simp [St.frz, Heap.put, upd_ne _ _ e', h]⟩, rfl⟩
  os := rfl
  tape := rfl
  output := rfl

theorem frz_imm (hi : Inv s) {id : Nat} {el : TypeId} {cells : List PV} {lv : Bool} (hb : s.σ.ent id = .blk el cells lv) : (s.frz id el cells).imm (s.ι id) := by
  have hlt : s.ι id < s.w.heap.size := by
    obtain ⟨cs, fr, h⟩ := Put.old_elem hi hb
    exact (Array.getElem?_eq_some_iff.1 h).1
  cases lv with
  | true =>
    have hl : Live s.σ id := .inl ⟨el, cells, hb⟩
    exact ⟨hlt, hi.notY id hl, fun id' h e => (frz_live h).2 (hi.inj id' id (frz_live h).1 hl e)⟩
  | false =>
    obtain ⟨h1, h2, h3⟩ := hi.fz id el cells hb
    exact ⟨h1, h2, fun id' h => h3 id' (frz_live h).1⟩

theorem frz_inv (hi : Inv s) {id : Nat} {el : TypeId} {cells : List PV} {lv : Bool} (hb : s.σ.ent id = .blk el cells lv) : Inv (s.frz id el cells) := by
  have hev := frz_ev hb
  refine ⟨fun id' => ?_, fun id1 id2 h1 h2 he => hi.inj id1 id2 (frz_live h1).1 (frz_live h2).1 he, fun id' h => hi.notY id' (frz_live h).1, fun id' el' c h => ?_, fun id' hn => ?_, hi.Ylt⟩
  · by_cases e : id' = id
    · subst e
      have h1 : (s.frz id' el cells).σ.ent id' = .blk el cells false := by simp [St.frz, Heap.put, upd_same]
      rw [h1]
      have he := hi.ent id'
      rw [hb] at he
      obtain ⟨cs, fr, q1, q2, q3, q4⟩ := he
      exact ⟨cs, fr, q1, q2, fun h => (by cases h), fun j x hj => by obtain ⟨u, u1, u2, u3⟩ := q4 j x hj; exact ⟨u, u1, hev.pvr u2, u3⟩⟩
    · have h1 : (s.frz id el cells).σ.ent id' = s.σ.ent id' := by simp [St.frz, Heap.put, upd_ne _ _ e]
      rw [h1]
      have he := hi.ent id'
      cases hent : s.σ.ent id' with
      | none => trivial
      | blk el' c lv' =>
        rw [hent] at he
        obtain ⟨cs, fr, q1, q2, q3, q4⟩ := he
        exact ⟨cs, fr, q1, q2, q3, fun j x hj => by obtain ⟨u, u1, u2, u3⟩ := q4 j x hj; exact ⟨u, u1, hev.pvr u2, u3⟩⟩
      | loop fn e' n ps as_ bo st pend =>
        rw [hent] at he
        obtain ⟨fn2, tmps, defers, q1, q2, q3⟩ := he
        exact ⟨fn2, tmps, defers, q1, q2, fun t => hev.pvr (q3 t)⟩
  · by_cases e : id' = id
    · subst e; exact frz_imm hi hb
    · have h1 : s.σ.ent id' = .blk el' c false := by simpa [St.frz, Heap.put, upd_ne _ _ e] using h
      exact (hev.imm _ (hi.fz id' el' c h1)).1
  · have hne : id' ≠ id := by
      intro e; subst e
      have := hi.nx id' hn
      rw [hb] at this; cases this
    have : (s.frz id el cells).σ.ent id' = s.σ.ent id' := by simp [St.frz, Heap.put, upd_ne _ _ hne]
    rw [this]
    exact hi.nx id' hn

theorem chunk_len (sz : Nat) : ∀ (n : Nat) (xs : List FV), (chunk sz n xs).length = n
  | 0, _ => rfl
  | n + 1, xs => by simp [chunk, chunk_len sz n]

theorem chunk_get (sz : Nat) : ∀ (n : Nat) (xs : List FV), n * sz ≤ xs.length → ∀ i e, (chunk sz n xs)[i]? = some e → e.length = sz ∧ ∀ j x, e[j]? = some x → j < sz ∧ xs[i * sz + j]? = some x
  | 0, _, _, i, e, h => by simp [chunk] at h
  | n + 1, xs, hl, i, e, h => by
    rw [Nat.add_mul] at hl
    cases i with
    | zero =>
      simp [chunk] at h; subst h
      refine ⟨by simp; omega, fun j x hj => ?_⟩
      rw [List.getElem?_take] at hj
      split at hj
      · rename_i hlt; exact ⟨hlt, by simpa using hj⟩
      · cases hj
    | succ i =>
      simp [chunk] at h
      obtain ⟨h1, h2⟩ := chunk_get sz n (xs.drop sz) (by simp; omega) i e h
      refine ⟨h1, fun j x hj => ?_⟩
      obtain ⟨h3, h4⟩ := h2 j x hj
      refine ⟨h3, ?_⟩
      rw [List.getElem?_drop] at h4
      rw [← h4]; congr 1; rw [Nat.add_mul]; omega

/-- What freezing leaves. -/
def Exp (s : St) (σ' : Heap) : Prop := Inv ⟨s.w, s.Y, σ', s.ι⟩ ∧ Ev s ⟨s.w, s.Y, σ', s.ι⟩

theorem Exp.refl (hi : Inv s) : Exp s s.σ := ⟨hi, Ev.refl s⟩
theorem Exp.trans {σ1 σ2 : Heap} (h1 : Exp s σ1) (h2 : Exp ⟨s.w, s.Y, σ1, s.ι⟩ σ2) : Exp s σ2 := ⟨h2.1, h1.2.trans h2.2⟩

theorem expCells_ok {f : Heap → PV → Option (FV × Heap)} (hf : ∀ (s : St) (x : PV) (y : FV) (σ' : Heap) (v : Value), f s.σ x = some (y, σ') → Inv s → PVR s x v → Exp s σ' ∧ FVR s.w (Imm s.w s.Y σ' s.ι) y v) :
    ∀ (xs : List PV) (s : St) (us : Nat → Value) (ys : List FV) (σ' : Heap), expCellsW f s.σ xs = some (ys, σ') → Inv s → (∀ (j : Nat) (x : PV), xs[j]? = some x → PVR s x (us j)) →
      Exp s σ' ∧ ys.length = xs.length ∧ ∀ (j : Nat) (y : FV), ys[j]? = some y → FVR s.w (Imm s.w s.Y σ' s.ι) y (us j)
  | [], s, us, ys, σ', h, hi, hx => by
    simp [expCellsW] at h
    obtain ⟨rfl, rfl⟩ := h
    exact ⟨Exp.refl hi, rfl, by simp⟩
  | x :: xs, s, us, ys, σ', h, hi, hx => by
    simp only [expCellsW, Option.bind_eq_some_iff, Option.some.injEq, Prod.mk.injEq] at h
    obtain ⟨⟨y, σ1⟩, h1, ⟨zs, σ2⟩, h2, rfl, rfl⟩ := h
    obtain ⟨e1, f1⟩ := hf s x y σ1 (us 0) h1 hi (hx 0 x (by simp))
    obtain ⟨e2, l2, f2⟩ := expCells_ok hf xs ⟨s.w, s.Y, σ1, s.ι⟩ (fun j => us (j + 1)) zs σ2 h2 e1.1 (fun j x hj => e1.2.pvr (hx (j + 1) x (by simpa using hj)))
    refine ⟨e1.trans e2, by simp [l2], fun j y' hj => ?_⟩
    cases j with
    | zero =>
      simp at hj; subst hj
      exact e2.2.fvr f1
    | succ j => exact f2 j y' (by simpa using hj)

theorem expCell_ok : ∀ (d : Nat) (s : St) (x : PV) (y : FV) (σ' : Heap) (v : Value), expCell d s.σ x = some (y, σ') → Inv s → PVR s x v → Exp s σ' ∧ FVR s.w (Imm s.w s.Y σ' s.ι) y v
  | 0, _, _, _, _, _, h, _, _ => by simp [expCell] at h
  | d + 1, s, x, y, σ', v, h, hi, hx => by
    unfold expCell at h
    split at h
    · cases h
      cases hx with
      | v hx => exact ⟨Exp.refl hi, hx⟩
    · cases h
      have := nils_inv hx; subst this
      exact ⟨Exp.refl hi, .nil⟩
    · cases h
      cases hx with
      | full hx => exact ⟨Exp.refl hi, hx⟩
    · rename_i id len sz
      split at h
      · rename_i el cells lv hb
        by_cases hc : cells.length = len * sz
        · rw [if_pos hc] at h
          simp only [Option.bind_eq_some_iff, Option.some.injEq, Prod.mk.injEq] at h
          obtain ⟨⟨ys, σ2⟩, h1, rfl, rfl⟩ := h
          obtain ⟨cap, cs, el2, fr, rfl, q2, q3, q4, q5⟩ := buf_inv hx (by simp [Heap.cur, hb, hc])
          have he := hi.ent id
          rw [hb] at he
          obtain ⟨cs0, fr0, r1, r2, _, r4⟩ := he
          have hE1 : Exp s (s.frz id el cells).σ := ⟨frz_inv hi hb, frz_ev hb⟩
          let us : Nat → Value := fun j => (cs0[j]?).getD Go.undef
          obtain ⟨e2, l2, f2⟩ := expCells_ok (f := expCell d) (fun s x y σ' v => expCell_ok d s x y σ' v) cells (s.frz id el cells) us ys σ2 h1 hE1.1 (fun j x hj => by
            obtain ⟨u, u1, u2, _⟩ := r4 j x hj
            have : us j = u := by simp [us, u1]
            rw [this]
            exact hE1.2.pvr u2)
          refine ⟨hE1.trans e2, ?_⟩
          have hlen : len = (chunk sz len ys).length := (chunk_len _ _ _).symm
          have hcl : len * sz ≤ ys.length := by omega
          have hmain := FVR.sl (w := s.w) (Imm := Imm s.w s.Y σ2 s.ι) (chunk sz len ys) (s.ι id) 0 cap sz (fun i j => us (i * sz + j)) (e2.2.imm _ (frz_imm hi hb)).1 (by rw [chunk_len]; exact q2)
            (fun e he => by
              obtain ⟨i, hlt, rfl⟩ := List.getElem_of_mem he
              exact (chunk_get sz len ys hcl i _ (List.getElem?_eq_getElem hlt)).1)
            (fun i j hi' hj => by
              rw [chunk_len] at hi'
              have hlt : i * sz + j < cells.length := by
                rw [hc]
                have : (i + 1) * sz ≤ len * sz := Nat.mul_le_mul_right _ hi'
                rw [Nat.add_mul] at this; omega
              obtain ⟨u, u1, _, _⟩ := r4 (i * sz + j) cells[i * sz + j] (List.getElem?_eq_getElem hlt)
              simp only [World.cell?, r1, Nat.zero_add]
              simp [us, u1])
            (fun i j e x he hj => by
              obtain ⟨_, c2⟩ := chunk_get sz len ys hcl i e he
              exact f2 _ x (c2 j x hj).2)
          rw [chunk_len] at hmain
          exact hmain
        · rw [if_neg hc] at h; cases h
      · cases h
    · cases h

theorem exp6 {x : PV} {y : FV} {σ' : Heap} {v : Value} (h : expCell 6 s.σ x = some (y, σ')) (hi : Inv s) (hx : PVR s x v) : Exp s σ' ∧ FVR s.w (Imm s.w s.Y σ' s.ι) y v :=
  expCell_ok 6 s x y σ' v h hi hx

/-- An argument, a result: what it refers to is immutable. -/
theorem expVal_ok {x y : PV} {σ' : Heap} {v : Value} (h : expVal s.σ x = some (y, σ')) (hi : Inv s) (hx : PVR s x v) : Exp s σ' ∧ PVR ⟨s.w, s.Y, σ', s.ι⟩ y v := by
  have one : ∀ {x : PV}, PVR s x v → (expCell 6 s.σ x).bind (fun r => some (PV.v r.1, r.2)) = some (y, σ') → Exp s σ' ∧ PVR ⟨s.w, s.Y, σ', s.ι⟩ y v := by
    intro x hx h
    simp only [Option.bind_eq_some_iff, Option.some.injEq, Prod.mk.injEq] at h
    obtain ⟨⟨z, σ1⟩, h1, rfl, rfl⟩ := h
    obtain ⟨e1, f1⟩ := exp6 h1 hi hx
    exact ⟨e1, .v f1⟩
  unfold expVal at h
  split at h
  · rename_i cs
    simp only [Option.bind_eq_some_iff, Option.some.injEq, Prod.mk.injEq] at h
    obtain ⟨⟨ys, σ1⟩, h1, rfl, rfl⟩ := h
    obtain ⟨arr, rfl, hc⟩ := agg_inv hx
    let us : Nat → Value := fun j => (arr[j]?).getD Go.undef
    obtain ⟨e1, l1, f1⟩ := expCells_ok (f := expCell 6) (fun s x y σ' v => expCell_ok 6 s x y σ' v) cs s us ys σ1 h1 hi (fun j x hj => by
      obtain ⟨u, u1, u2, _⟩ := hc.2 j x hj
      have : us j = u := by simp [us, u1]
      rw [this]; exact u2)
    refine ⟨e1, CellsR.agg ⟨by simp [vs, l1, hc.1], fun i x hi' => ?_⟩⟩
    simp only [vs, List.getElem?_map, Option.map_eq_some_iff] at hi'
    obtain ⟨q, hq, rfl⟩ := hi'
    have hlt : i < arr.size := by rw [← hc.1, ← l1]; exact (List.getElem?_eq_some_iff.1 hq).1
    have := f1 i q hq
    simp only [us, Array.getElem?_eq_getElem hlt, Option.getD_some] at this
    exact ⟨arr[i], by simp [hlt], .v this, this.oneCell⟩
  · cases h; exact ⟨Exp.refl hi, hx⟩
  · cases h; exact ⟨Exp.refl hi, hx⟩
  · cases h
  · exact one hx h

theorem expVals_ok : ∀ (xs : List PV) (s : St) (us : Nat → Value) (ys : List PV) (σ' : Heap), expVals s.σ xs = some (ys, σ') → Inv s → (∀ (j : Nat) (x : PV), xs[j]? = some x → PVR s x (us j)) →
      Exp s σ' ∧ ys.length = xs.length ∧ ∀ (j : Nat) (y : PV), ys[j]? = some y → PVR ⟨s.w, s.Y, σ', s.ι⟩ y (us j)
  | [], s, us, ys, σ', h, hi, hx => by
    simp [expVals] at h
    obtain ⟨rfl, rfl⟩ := h
    exact ⟨Exp.refl hi, rfl, by simp⟩
  | x :: xs, s, us, ys, σ', h, hi, hx => by
    simp only [expVals, Option.bind_eq_some_iff, Option.some.injEq, Prod.mk.injEq] at h
    obtain ⟨⟨y, σ1⟩, h1, ⟨zs, σ2⟩, h2, rfl, rfl⟩ := h
    obtain ⟨e1, f1⟩ := expVal_ok h1 hi (hx 0 x (by simp))
    obtain ⟨e2, l2, f2⟩ := expVals_ok xs ⟨s.w, s.Y, σ1, s.ι⟩ (fun j => us (j + 1)) zs σ2 h2 e1.1 (fun j x hj => e1.2.pvr (hx (j + 1) x (by simpa using hj)))
    refine ⟨e1.trans e2, by simp [l2], fun j y' hj => ?_⟩
    cases j with
    | zero =>
      simp at hj; subst hj
      exact e2.2.pvr f1
    | succ j => exact f2 j y' (by simpa using hj)

theorem expRes_ok {x y : PV} {σ' : Heap} {v : Value} (h : expRes s.σ x = some (y, σ')) (hi : Inv s) (hx : PVR s x v) : Exp s σ' ∧ PVR ⟨s.w, s.Y, σ', s.ι⟩ y v := by
  unfold expRes at h
  split at h
  · rename_i xs
    simp only [Option.bind_eq_some_iff, Option.some.injEq, Prod.mk.injEq] at h
    obtain ⟨⟨ys, σ1⟩, h1, rfl, rfl⟩ := h
    cases hx with
    | @tup _ vs hs hh =>
      obtain ⟨e1, l1, f1⟩ := expVals_ok xs s (fun j => vs.getD j Go.undef) ys σ1 h1 hi hh
      exact ⟨e1, .tup (by rw [l1]; exact hs) f1⟩
  · exact expVal_ok h hi hx

theorem expArg_ok {x y : PV} {σ' : Heap} {v : Value} (h : expArg s.σ x = some (y, σ')) (hi : Inv s) (hx : PVR s x v) : Exp s σ' ∧ PVR ⟨s.w, s.Y, σ', s.ι⟩ y v := by
  unfold expArg at h
  split at h
  · cases h; exact ⟨Exp.refl hi, hx⟩
  · cases h; exact ⟨Exp.refl hi, hx⟩
  · cases h; exact ⟨Exp.refl hi, hx⟩
  · exact expVal_ok h hi hx

theorem expArgs_ok : ∀ (xs : List PV) (s : St) (us : Nat → Value) (ys : List PV) (σ' : Heap), expArgs s.σ xs = some (ys, σ') → Inv s → (∀ (j : Nat) (x : PV), xs[j]? = some x → PVR s x (us j)) →
      Exp s σ' ∧ ys.length = xs.length ∧ ∀ (j : Nat) (y : PV), ys[j]? = some y → PVR ⟨s.w, s.Y, σ', s.ι⟩ y (us j)
  | [], s, us, ys, σ', h, hi, hx => by
    simp [expArgs] at h
    obtain ⟨rfl, rfl⟩ := h
    exact ⟨Exp.refl hi, rfl, by simp⟩
  | x :: xs, s, us, ys, σ', h, hi, hx => by
    simp only [expArgs, Option.bind_eq_some_iff, Option.some.injEq, Prod.mk.injEq] at h
    obtain ⟨⟨y, σ1⟩, h1, ⟨zs, σ2⟩, h2, rfl, rfl⟩ := h
    obtain ⟨e1, f1⟩ := expArg_ok h1 hi (hx 0 x (by simp))
    obtain ⟨e2, l2, f2⟩ := expArgs_ok xs ⟨s.w, s.Y, σ1, s.ι⟩ (fun j => us (j + 1)) zs σ2 h2 e1.1 (fun j x hj => e1.2.pvr (hx (j + 1) x (by simpa using hj)))
    refine ⟨e1.trans e2, by simp [l2], fun j y' hj => ?_⟩
    cases j with
    | zero =>
      simp at hj; subst hj
      exact e2.2.pvr f1
    | succ j => exact f2 j y' (by simpa using hj)

theorem fvsOf_exp {d : Nat} {σ : Heap} : ∀ {cs : List PV} {fs : List FV}, fvsOf cs = some fs → expCellsW (expCell (d + 1)) σ cs = some (fs, σ)
  | [], fs, h => by simp [fvsOf] at h; subst h; rfl
  | x :: xs, fs, h => by
    cases x <;> simp only [fvsOf, reduceCtorEq] at h
    rw [Option.map_eq_some_iff] at h
    obtain ⟨gs, hg, rfl⟩ := h
    have h1 : ∀ (y : FV), expCell (d + 1) σ (.v y) = some (y, σ) := fun y => rfl
    simp only [expCellsW, h1, Option.bind_some, fvsOf_exp hg]

theorem put_put (σ : Heap) (id : Nat) (a b : Ent) : (σ.put id a).put id b = σ.put id b := by
  simp only [Heap.put, Heap.mk.injEq, true_and]
  funext j
  by_cases h : j = id
  · subst h; rw [upd_same, upd_same]
  · rw [upd_ne _ _ h, upd_ne _ _ h, upd_ne _ _ h]

theorem expCell_buf {d id len sz : Nat} {σ : Heap} {el : TypeId} {cells : List PV} {lv : Bool} {r : List FV × Heap} (hb : σ.ent id = .blk el cells lv) (hc : cells.length = len * sz)
    (he : expCellsW (expCell d) (σ.put id (.blk el cells false)) cells = some r) : expCell (d + 1) σ (.buf id len sz) = some (.sl (chunk sz len r.1), r.2) := by
  unfold expCell
  simp only [hb, if_pos hc, he, Option.bind_some]

theorem buildSlice_ok (hG : GlobOK X s) (he : EnvR s n e a) (hi : Inv s) {id0 : Nat} (hid : s.σ.ent id0 = .none) (hnx : id0 < s.σ.nx) {t : TypeId} {len : Nat} {parts : Array (Nat × Operand)} {z : PV} {σ' : Heap}
    (h : buildSliceD X e s.σ id0 t len parts.toList = some (z, σ')) : Gives X s z σ' ((Instr.buildSlice t len (parts.map fun (i, x) => (i, a.eval x))).run X.P s.w) := by
  obtain ⟨len', sz, el, cs, rfl, rfl, hcl, ι', v, w', hr, i1, e1, p1⟩ := buildSlice_ok0 hG he hi hid hnx h
  unfold litR
  split
  · rename_i fs _ hfs
    have hx : expVal (s.σ.put id0 (.blk el cs true)) (.buf id0 len' sz) = some (.v (.sl (chunk sz len' fs)), s.σ.put id0 (.blk el cs false)) := by
      have h1 : expCell 6 (s.σ.put id0 (.blk el cs true)) (.buf id0 len' sz) = some (.sl (chunk sz len' fs), s.σ.put id0 (.blk el cs false)) := by
        have := expCell_buf (d := 5) (σ := s.σ.put id0 (.blk el cs true)) (id := id0) (len := len') (sz := sz) (el := el) (cells := cs) (lv := true) (by simp [Heap.put, upd_same]) hcl (fvsOf_exp (d := 4) hfs)
        rw [put_put] at this
        exact this
      show (expCell 6 _ _).bind _ = _
      rw [h1]; rfl
    obtain ⟨⟨i2, e2⟩, p2⟩ := expVal_ok (s := ⟨w', s.Y, s.σ.put id0 (.blk el cs true), ι'⟩) hx i1 p1
    exact ⟨ι', v, w', hr, i2, e1.trans e2, p2⟩
  · exact ⟨ι', v, w', hr, i1, e1, p1⟩

end Go.Dn
