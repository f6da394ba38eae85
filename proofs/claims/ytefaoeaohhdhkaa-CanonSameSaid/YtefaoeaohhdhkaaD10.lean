/- copy, make, literals, and the other operations. -/
import Derived.Test.YtefaoeaohhdhkaaD9
set_option linter.unusedVariables false
set_option linter.unusedSimpArgs false
namespace Go.Dn
open Go

variable {X : Ctx} {s : St} {n : Nat} {e : Env} {a : Act} {P : Program}

theorem rep_get {α : Type} {z : List α} : ∀ (k j : Nat), 0 < z.length → j < k * z.length → (List.replicate k z).flatten[j]? = z[j % z.length]?
  | 0, j, _, h => by simp at h
  | k + 1, j, hz, h => by
    simp only [List.replicate_succ, List.flatten_cons]
    by_cases hj : j < z.length
    · rw [List.getElem?_append_left hj, Nat.mod_eq_of_lt hj]
    · rw [List.getElem?_append_right (by omega), rep_get k (j - z.length) hz (by rw [Nat.add_mul] at h; omega)]
      rw [Nat.mod_eq_sub_mod (by omega : j ≥ z.length)]

theorem rep_len {α : Type} (z : List α) (k : Nat) : (List.replicate k z).flatten.length = k * z.length := by simp

theorem made_cells {z : List PV} {zc : Array Value} {k sz : Nat} (h : CellsR s z zc) (hz : z.length = sz) (hs : sz ≠ 0) : CellsR s (List.replicate k z).flatten (madeCells zc (k * sz)) := by
  refine ⟨by rw [rep_len, size_madeCells, hz], fun j x hj => ?_⟩
  have hlt : j < k * z.length := by have := (List.getElem?_eq_some_iff.1 hj).1; rwa [rep_len] at this
  rw [rep_get k j (by omega) hlt] at hj
  obtain ⟨u, h1, h2, h3⟩ := h.2 _ x hj
  refine ⟨u, ?_, h2, h3⟩
  have hzs : zc.size = z.length := h.1.symm
  have hlt' : j < k * sz := by rw [← hz]; exact hlt
  simp only [madeCells, Array.getElem?_map, Array.getElem?_range, hlt', if_true, Option.map_some, hzs]
  rw [Option.some.injEq]
  rw [getElem!_def, h1]

theorem make_ok (hi : Inv s) {id0 : Nat} (hid : s.σ.ent id0 = .none) (hnx : id0 < s.σ.nx) {t : TypeId} {x y z : PV} {v u : Value} {σ' : Heap} (hx : PVR s x v) (hy : PVR s y u)
    (h : makeD P s.σ id0 t x y = some (z, σ')) : Gives X s z σ' ((Instr.makeSlice t v u).run P s.w) := by
  unfold makeD at h
  split at h
  · rename_i el l c hel
    have := int_inv hx; have := int_inv hy; subst_vars
    have hu := tslice_run hel
    split at h
    · rename_i sz by_ zl hsz hby hzl
      obtain ⟨i, hinfo, hisz, hiby⟩ := tinfo_run hsz hby
      obtain ⟨i', zv, hi1, hi2, hi3⟩ := tzero_cells (s := s) hzl
      rw [hinfo] at hi1
      cases hi1
      by_cases hc : l = c ∧ 0 ≤ l ∧ l.toNat * by_ ≤ room ∧ zl.length = sz ∧ sz ≠ 0 ∧ by_ ≠ 0
      · rw [if_pos hc] at h; cases h
        obtain ⟨rfl, h0, hr, hz1, hz2, hz3⟩ := hc
        subst hisz hiby
        have hml := room_maxLen hr (by omega)
        have hb' : (i.bytes : Int) * l ≤ 281474976710656 := by
          have h1 : ((l.toNat * i.bytes : Nat) : Int) ≤ 140737488355328 := by simp only [room] at hr; omega
          rw [Int.natCast_mul, Int.toNat_of_nonneg h0, Int.mul_comm] at h1
          omega
        have hrun := run_make (P := P) s.w t el i zv hu hinfo hi2 .i64 .i64 l l h0 (Int.le_refl _) hb' (by simp only [maxLen] at hml; omega)
        rw [hrun]
        have hmc := made_cells (k := l.toNat) hi3 hz1 hz2
        have hput := put_new hi hid hnx el _ _ (s.w.alloc (.cells (madeCells zv.cells (l.toNat * i.size)) el)) rfl rfl rfl rfl (by have := hmc.1; omega) hmc.2
        refine ⟨_, _, _, rfl, hput.inv hi, hput.ev hi, ?_⟩
        have hlen : (List.replicate l.toNat zl).flatten.length = l.toNat * i.size := by rw [rep_len, hz1]
        refine .buf ⟨el, _, true, upd_same _ _ _⟩ (by simp only [Heap.ver, Heap.put, upd_same, hlen]; exact Nat.le_refl _) rfl fun _ => ?_
        exact ⟨l.toNat, _, el, (0, 0), by simp [upd_same], Nat.le_refl _, by simp only [upd_same]; exact hput.here, size_madeCells _ _, hml⟩
      · rw [if_neg hc] at h; cases h
    · cases h
  · cases h

theorem run_buildSlice_of {t el : TypeId} {i : TypeInfo} {zv : Value} {len : Nat} {parts : Array (Nat × Value)} {cs' : Array Value} {w : World} (hu : P.underlying t = some (.slice el)) (hi1 : P.info? el = some i) (hi2 : i.zero = some zv)
    (hle : len * i.size ≤ 16777216) (h1 : Instr.fill (fun j => some (j * i.size, i.size)) (madeCells zv.cells (len * i.size)) parts.toList = some cs') :
    (Instr.buildSlice t len parts).run P w = .ok (.slice (some ⟨w.heap.size, 0, none⟩) len len) { w with heap := w.heap.push (.cells cs' el) } := by
  have hle' : ¬ (16777216 < len * i.size) := by omega
  by_cases h0 : len * i.size = 0
  · have e : madeCells zv.cells (len * i.size) = (Array.range (len * i.size)).map ((#[] : Array Value)[· % (#[] : Array Value).size]!) := by rw [h0]; simp [madeCells]
    rw [e] at h1
    simp [Instr.buildSlice, under_of w hu, sizeOf, typeInfo, hi1, newRow, hle', h0] at h1 ⊢
    simp [h1]
  · simp only [madeCells] at h1
    simp [Instr.buildSlice, under_of w hu, sizeOf, typeInfo, hi1, newRow, hle', h0, zeroValue, hi2] at h1 ⊢
    simp [h1]

theorem buildSlice_ok0 (hG : GlobOK X s) (he : EnvR s n e a) (hi : Inv s) {id0 : Nat} (hid : s.σ.ent id0 = .none) (hnx : id0 < s.σ.nx) {t : TypeId} {len : Nat} {parts : Array (Nat × Operand)} {z : PV} {σ' : Heap}
    (h : buildSliceD X e s.σ id0 t len parts.toList = some (z, σ')) : ∃ len' sz el cs, z = (litR X.lit len' sz id0 el cs).1 ∧ σ' = s.σ.put id0 (litR X.lit len' sz id0 el cs).2 ∧ cs.length = len' * sz ∧ Gives X s (.buf id0 len' sz) (s.σ.put id0 (.blk el cs true)) ((Instr.buildSlice t len (parts.map fun (i, x) => (i, a.eval x))).run X.P s.w) := by
  unfold buildSliceD at h
  split at h
  · rename_i el ps hel hps
    have hu := tslice_run hel
    have hp := parts_ok hG he hps
    split at h
    · rename_i sz zl hsz hzl
      obtain ⟨i, zv, hi1, hi2, hi3⟩ := tzero_cells (s := s) hzl
      by_cases hc : zl.length = sz ∧ sz ≠ 0 ∧ len * sz ≤ 1000000
      · rw [if_pos hc] at h
        obtain ⟨hz1, hz2, hz3⟩ := hc
        simp only [Option.map_eq_some_iff, Prod.mk.injEq] at h
        obtain ⟨cs, hf, rfl, rfl⟩ := h
        have hmc := made_cells (k := len) hi3 hz1 hz2
        obtain ⟨cs', h1, h2⟩ := fill_ok hp hmc hf
        have hcs' : cs'.size = len * sz := by
          have : ∀ {place : Nat → Option (Nat × Nat)} {ps : List (Nat × PV)} {cells out : List PV}, fillD place cells ps = some out → out.length = cells.length := by
            intro place ps
            induction ps with
            | nil => intro cells out h; simp [fillD] at h; rw [h]
            | cons p ps ih =>
              intro cells out h
              obtain ⟨j, x⟩ := p
              simp only [fillD] at h
              split at h
              · split at h
                · rename_i hle
                  rw [ih h, splice_length _ _ _ (by omega)]
                · cases h
              · cases h
          rw [← h2.1, this hf, rep_len, hz1]
        have hrun : (Instr.buildSlice t len (parts.map fun (i, x) => (i, a.eval x))).run X.P s.w = .ok (.slice (some ⟨s.w.heap.size, 0, none⟩) len len) { s.w with heap := s.w.heap.push (.cells cs' el) } := by
          simp only [tsize, Option.map_eq_some_iff] at hsz
          obtain ⟨i2, hi4, hi5⟩ := hsz
          rw [hi1] at hi4; cases hi4
          subst hi5
          exact run_buildSlice_of hu hi1 hi2 (by omega) (by rw [Array.toList_map]; exact h1)
        rw [hrun]
        have hput := put_new hi hid hnx el _ _ { s.w with heap := s.w.heap.push (.cells cs' el) } rfl rfl rfl rfl (by have := h2.1; omega) h2.2
        have hcl : cs.length = len * sz := by rw [h2.1, hcs']
        refine ⟨len, sz, el, cs, rfl, rfl, hcl, ?_⟩
        refine ⟨_, _, _, rfl, hput.inv hi, hput.ev hi, ?_⟩
        refine .buf ⟨el, _, true, upd_same _ _ _⟩ (by simp only [Heap.ver, Heap.put, upd_same, hcl]; exact Nat.le_refl _) rfl fun _ => ?_
        exact ⟨len, _, el, (0, 0), by simp [upd_same], Nat.le_refl _, by simp only [upd_same]; exact hput.here, hcs', by
          have := Nat.le_mul_of_pos_right len (Nat.pos_of_ne_zero hz2)
          simp only [maxLen]; omega⟩
      · rw [if_neg hc] at h; cases h
    · cases h
  · cases h

theorem copy_ok (hi : Inv s) {t t2 ty : TypeId} {x y z : PV} {v u : Value} {σ' : Heap} (hx : PVR s x v) (hy : PVR s y u)
    (h : copyD P s.σ t x y = some (z, σ')) : Gives X s z σ' ((Builtin.copy_ #[t, t2] ty #[v, u]).run P s.w) := by
  unfold copyD at h
  split at h
  · cases h
  · rename_i el hel
    have hu := tslice_run hel
    split at h
    · cases h
    · rename_i sz hsz
      split at h
      · rename_i ys m id len sz' hbr
        split at h
        · rename_i el' cells hb
          by_cases hc : sz' = sz ∧ el' = el ∧ cells.length = len * sz
          · rw [if_pos hc] at h; cases h
            obtain ⟨rfl, rfl, hcl⟩ := hc
            obtain ⟨o, c, news, B⟩ := bring_ok hi hy hbr
            have hval := B.val
            simp only at hval
            subst hval
            obtain ⟨cap, cs, el2, fr, rfl, h2, h3, h4, h5⟩ := buf_inv hx (by simp [Heap.cur, hb, hcl])
            obtain ⟨cs', hcs', hcl'⟩ := live_row hi hb
            have hyl : ys.length = m * sz' := B.len
            have hnl : news.length = m * sz' := B.nlen
            have hk1 : min m len * sz' ≤ m * sz' := Nat.mul_le_mul_right _ (Nat.min_le_left _ _)
            have hk2 : min m len * sz' ≤ len * sz' := Nat.mul_le_mul_right _ (Nat.min_le_right _ _)
            have hput := put_splice hi hb (nx_of hi (by rw [hb]; simp)) (ys.take (min m len * sz')) (news.take (min m len * sz')) 0 (by simp; omega) (by simp; omega)
              (fun j y hj => by
                rw [List.getElem?_take] at hj ⊢
                split at hj
                · rename_i hlt; rw [if_pos hlt]; exact B.rel j y hj
                · cases hj) hcs'
            have hone : ∀ z ∈ news.take (min m len * sz'), z.oneCell' = true := fun z hz => by
              have hz := List.mem_of_mem_take hz
              obtain ⟨j, hj, rfl⟩ := List.getElem_of_mem hz
              have hj' : j < ys.length := by omega
              obtain ⟨q, q1, _, q3⟩ := B.rel j ys[j] (List.getElem?_eq_getElem hj')
              rw [List.getElem?_eq_getElem hj] at q1; cases q1; exact q3
            have hf : (Builtin.firstCells sz' (min m len) (.slice o m c)).run P s.w = .ok (news.take (min m len * sz')).toArray s.w := by
              rcases B.cell with h0 | ⟨ad, rfl, hcell⟩
              · simp only at h0
                subst h0
                have hn0 : news = [] := List.eq_nil_of_length_eq_zero (by simpa using hnl)
                subst hn0
                cases o <;> simp [Builtin.firstCells, loadCells, loadCellsFrom]
              · exact run_firstCells_some (P := P) s.w sz' (min m len) ad m c _ (by simp; omega) (fun j z hz => by
                  rw [List.getElem?_take] at hz
                  split at hz
                  · exact hcell j z hz
                  · cases hz)
            have hst := run_storeCells_at P (s.ι id) 0 el' (news.take (min m len * sz')) 0 cs' s.w hcs' (by simp; omega) hone
            simp only [Nat.add_zero] at hst
            have hrun : (Builtin.copy_ #[t, t2] ty #[.slice (some ⟨s.ι id, 0, none⟩) len cap, .slice o m c]).run P s.w = .ok (.int .i64 (min m len : Nat))
                (s.w.setRow (s.ι id) (cs'.toList.take 0 ++ news.take (min m len * sz') ++ cs'.toList.drop (0 + (news.take (min m len * sz')).length)).toArray) := by
              have hmin : Nat.min m len = min m len := rfl
              simp only [Builtin.copy_, List.getElem?_toArray, List.getElem?_cons_zero, List.getElem?_cons_succ, Sem.run_bind, under_of s.w hu, Result.andThen_ok, Builtin.lenOf, Sem.run_pure, tsize_run s.w hsz, hmin, hf, hst, goInt, Nat.zero_add]
            rw [hrun]
            exact ⟨_, _, _, rfl, hput.inv hi, hput.ev hi, .v (.int _ _)⟩
          · rw [if_neg hc] at h; cases h
        · cases h
      · cases h

end Go.Dn
