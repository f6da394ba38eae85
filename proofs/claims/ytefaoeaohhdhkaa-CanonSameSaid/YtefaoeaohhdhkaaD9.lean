/- append, copy, make, literals of slices. -/
import Derived.Test.YtefaoeaohhdhkaaD8
set_option linter.unusedVariables false
set_option linter.unusedSimpArgs false
namespace Go.Dn
open Go

variable {X : Ctx} {s : St} {n : Nat} {e : Env} {a : Act} {P : Program}

theorem flatten_len {sz : Nat} : ∀ {ys : List (List FV)}, (∀ e ∈ ys, e.length = sz) → ys.flatten.length = ys.length * sz
  | [], _ => by simp
  | y :: ys, h => by
    simp only [List.flatten_cons, List.length_append, List.length_cons]
    rw [h y (by simp), flatten_len (fun e he => h e (by simp [he])), Nat.add_mul]
    omega

theorem flatten_get {sz : Nat} : ∀ {ys : List (List FV)}, (∀ e ∈ ys, e.length = sz) → ∀ {k : Nat} {x : FV}, ys.flatten[k]? = some x →
    ∃ i j e, k = i * sz + j ∧ j < sz ∧ ys[i]? = some e ∧ e[j]? = some x
  | [], _, k, x, h => by simp at h
  | y :: ys, hl, k, x, h => by
    simp only [List.flatten_cons] at h
    by_cases hk : k < y.length
    · rw [List.getElem?_append_left hk] at h
      exact ⟨0, k, y, by simp, by rw [← hl y (by simp)]; exact hk, by simp, h⟩
    · rw [List.getElem?_append_right (by omega)] at h
      obtain ⟨i, j, e, h1, h2, h3, h4⟩ := flatten_get (fun e he => hl e (by simp [he])) h
      refine ⟨i + 1, j, e, ?_, h2, by simpa using h3, h4⟩
      rw [hl y (by simp)] at h1 hk
      rw [Nat.add_mul]; omega

/-- What an append's, or a copy's, second operand brings. -/
structure Brings (s : St) (sz : Nat) (ys : List PV) (n : Nat) (u : Value) (o : Option Addr) (c : Nat) (news : List Value) : Prop where
  val : u = .slice o n c
  len : ys.length = n * sz
  nlen : news.length = n * sz
  rel : ∀ (j : Nat) (x : PV), ys[j]? = some x → ∃ z, news[j]? = some z ∧ PVR s x z ∧ z.oneCell' = true
  cell : n = 0 ∨ ∃ ad, o = some ad ∧ ∀ (j : Nat) (z : Value), news[j]? = some z → s.w.cell? (ad.add j) = some z

theorem brings_of {sz n : Nat} {ys : List PV} {b off cap : Nat} (hl : ys.length = n * sz)
    (h : ∀ (j : Nat) (x : PV), ys[j]? = some x → ∃ z, s.w.cell? ⟨b, off + j, none⟩ = some z ∧ PVR s x z ∧ z.oneCell' = true) :
    ∃ o c news, Brings s sz ys n (.slice (some ⟨b, off, none⟩) n cap) o c news := by
  let f : Nat → Value := fun j => (s.w.cell? ⟨b, off + j, none⟩).getD Go.undef
  have hf : ∀ j, j < ys.length → s.w.cell? ⟨b, off + j, none⟩ = some (f j) := fun j hj => by
    obtain ⟨z, hz, _⟩ := h j ys[j] (List.getElem?_eq_getElem hj)
    simp [f, hz]
  refine ⟨_, cap, (List.range ys.length).map f, rfl, hl, by simp [hl], fun j x hj => ?_, .inr ⟨_, rfl, fun j z hz => ?_⟩⟩
  · obtain ⟨z, hz, hp, ho⟩ := h j x hj
    have hlt := (List.getElem?_eq_some_iff.1 hj).1
    exact ⟨f j, by simp [hlt], by simpa [f, hz] using hp, by simpa [f, hz] using ho⟩
  · simp only [List.getElem?_map, Option.map_eq_some_iff] at hz
    obtain ⟨k, hk, rfl⟩ := hz
    obtain ⟨hlt, rfl⟩ := List.getElem?_eq_some_iff.1 hk
    simp only [List.getElem_range, addr_add] at *
    exact hf _ (by simpa using hlt)

theorem bring_ok (hi : Inv s) {sz : Nat} {y : PV} {u : Value} {r : List PV × Nat} (hy : PVR s y u) (h : bringD s.σ sz y = some r) :
    ∃ o c news, Brings s sz r.1 r.2 u o c news := by
  unfold bringD at h
  have slc : ∀ ys : List (List FV), PVR s (.v (.sl ys)) u → (∀ e ∈ ys, e.length = sz) → ∃ o c news, Brings s sz (vs ys.flatten) ys.length u o c news := by
    intro ys hy hl
    cases hy with
    | v hy =>
      cases hy with
      | nil => exact ⟨none, 0, [], rfl, by simp [vs], by simp, by simp [vs], .inl rfl⟩
      | empty a cap => exact ⟨some a, cap, [], rfl, by simp [vs], by simp, by simp [vs], .inr ⟨a, rfl, by simp⟩⟩
      | sl ys b off cap sz' vals himm hcap hsz hcell hval =>
        refine brings_of (by simp only [vs, List.length_map, flatten_len hl]) (fun k x hk => ?_)
        simp only [vs, List.getElem?_map, Option.map_eq_some_iff] at hk
        obtain ⟨z, hz, rfl⟩ := hk
        obtain ⟨i, j, e, rfl, h2, h3, h4⟩ := flatten_get hl hz
        have hszz : sz' = sz := by rw [← hsz e (List.mem_of_getElem? h3), hl e (List.mem_of_getElem? h3)]
        subst hszz
        have hv := hval i j e z h3 h4
        exact ⟨_, by rw [← hcell i j (List.getElem?_eq_some_iff.1 h3).1 h2]; congr 2; omega, .v hv, hv.oneCell⟩
  split at h
  · rename_i ys
    by_cases hc : (ys.all fun y => y.length == sz) = true
    · rw [if_pos hc] at h; cases h
      exact slc ys hy (by simpa using hc)
    · rw [if_neg hc] at h; cases h
  · rename_i ys
    by_cases hc : (ys.all fun y => y.length == sz) = true
    · rw [if_pos hc] at h; cases h
      exact slc ys (full_fvr hy) (by simpa using hc)
    · rw [if_neg hc] at h; cases h
  · cases h
    have := nils_inv hy; subst_vars
    exact ⟨none, 0, [], rfl, by simp, by simp, by simp, .inl rfl⟩
  · rename_i id len sz'
    split at h
    · rename_i el cells lv hb
      by_cases hc : sz' = sz ∧ cells.length = len * sz'
      · rw [if_pos hc] at h; cases h
        obtain ⟨rfl, hc⟩ := hc
        obtain ⟨cap, cs, el, fr, rfl, h2, h3, h4, h5⟩ := buf_inv hy (by simp [Heap.cur, hb, hc])
        refine brings_of hc fun j x hj => ?_
        have := blk_cells hi hb j x hj
        simpa using this
      · rw [if_neg hc] at h; cases h
    · cases h
  · cases h

theorem tinfo_run {t : TypeId} {k b : Nat} (h1 : tsize P t = some k) (h2 : tbytes P t = some b) : ∃ i, P.info? t = some i ∧ i.size = k ∧ i.bytes = b := by
  simp only [tsize, Option.map_eq_some_iff] at h1
  obtain ⟨i, hi, rfl⟩ := h1
  simp only [tbytes, hi, Option.map_some, Option.some.injEq] at h2
  exact ⟨i, hi, rfl, h2⟩

theorem append_nothing {t ty el : TypeId} {i : TypeInfo} (hu : P.underlying t = some (.slice el)) (hi : P.info? el = some i) (o o' : Option Addr) (l c c' : Nat) (hle : l ≤ c) (w : World)
    (ho : o' = none ∨ ∃ ad, o' = some ad) : (Builtin.append_ #[t, t] ty #[.slice o l c, .slice o' 0 c']).run P w = .ok (.slice o l c) w := by
  have hf : (Builtin.firstCells i.size 0 (.slice o' 0 c')).run P w = .ok #[] w := by
    rcases ho with rfl | ⟨ad, rfl⟩
    · simp [Builtin.firstCells]
    · simp [Builtin.firstCells, loadCells, loadCellsFrom]
  cases o with
  | none => simp [Builtin.append_, under_of w hu, sizeOf, typeInfo, hi, Builtin.lenOf, hle, hf]
  | some ad => simp [Builtin.append_, under_of w hu, sizeOf, typeInfo, hi, Builtin.lenOf, hle, hf, storeCells]

/-- A new block of brought cells behind old ones. -/
theorem append_new {el : TypeId} {sz n m : Nat} {xs ys : List PV} {olds news : List Value} (hi : Inv s) {id0 : Nat} (hid : s.σ.ent id0 = .none) (hnx : id0 < s.σ.nx)
    (hx : xs.length = n * sz) (hxo : olds.length = n * sz) (hxr : ∀ (j : Nat) (x : PV), xs[j]? = some x → ∃ z, olds[j]? = some z ∧ PVR s x z ∧ z.oneCell' = true)
    (hy : ys.length = m * sz) (hyn : news.length = m * sz) (hyr : ∀ (j : Nat) (x : PV), ys[j]? = some x → ∃ z, news[j]? = some z ∧ PVR s x z ∧ z.oneCell' = true)
    (z : Array Value) (hz : z.size = sz) (cap : Nat) (hcap : n + m ≤ cap) (hcm : cap ≤ maxLen) {w' : World}
    (hw : w'.heap = s.w.heap.push (.cells (olds.toArray ++ news.toArray ++ Builtin.zeroCells z (cap - (n + m))) el)) (hos : w'.os = s.w.os) (ht : w'.tape = s.w.tape) (ho : w'.output = s.w.output) :
    Gives X s (.buf id0 (n + m) sz) (s.σ.put id0 (.blk el (xs ++ ys) true)) (.ok (.slice (some ⟨s.w.heap.size, 0, none⟩) (n + m) cap) w') := by
  have hl : (xs ++ ys).length = (n + m) * sz := by simp [hx, hy, Nat.add_mul]
  have hput := put_new hi hid hnx el (xs ++ ys) (olds.toArray ++ news.toArray ++ Builtin.zeroCells z (cap - (n + m))) w' hw hos ht ho (by simp [hx, hy, hxo, hyn]) (fun j x hj => by
    by_cases hlt : j < xs.length
    · rw [List.getElem?_append_left hlt] at hj
      obtain ⟨q, h1, h2, h3⟩ := hxr j x hj
      refine ⟨q, ?_, h2, h3⟩
      have hlo := (List.getElem?_eq_some_iff.1 h1).1
      rw [Array.getElem?_append_left (by simp; omega), Array.getElem?_append_left (by simp; omega)]
      simpa using h1
    · rw [List.getElem?_append_right (by omega)] at hj
      obtain ⟨q, h1, h2, h3⟩ := hyr _ x hj
      refine ⟨q, ?_, h2, h3⟩
      have hlo := (List.getElem?_eq_some_iff.1 h1).1
      rw [Array.getElem?_append_left (by simp; omega), Array.getElem?_append_right (by simp; omega)]
      simp only [List.size_toArray, hxo, ← hx]
      simpa using h1)
  refine ⟨_, _, _, rfl, hput.inv hi, hput.ev hi, ?_⟩
  refine .buf ⟨el, xs ++ ys, true, by simp [Heap.put, upd_same]⟩ (by simp only [Heap.ver, Heap.put, upd_same]; omega) rfl fun _ => ?_
  refine ⟨cap, _, el, (0, 0), by simp [upd_same], hcap, by simp only [upd_same]; exact hput.here, ?_, hcm⟩
  have e : cap * sz = (n * sz + m * sz) + (cap - (n + m)) * sz := by
    rw [← Nat.add_mul, ← Nat.add_mul]; congr 1; omega
  simp only [Array.size_append, List.size_toArray, size_zeroCells, hz, hxo, hyn, e]

theorem room_maxLen {k b : Nat} (h : k * b ≤ room) (hb : 0 < b) : k ≤ maxLen := by
  have := Nat.le_mul_of_pos_right k hb
  simp only [room, maxLen] at *
  omega

theorem append_ok (hi : Inv s) {id0 : Nat} (hid : s.σ.ent id0 = .none) (hnx : id0 < s.σ.nx) {t ty : TypeId} {x y z : PV} {v u : Value} {σ' : Heap} (hx : PVR s x v) (hy : PVR s y u)
    (h : appendD P s.σ id0 t x y = some (z, σ')) : Gives X s z σ' ((Builtin.append_ #[t, t] ty #[v, u]).run P s.w) := by
  unfold appendD at h
  split at h
  · cases h
  · rename_i el hel
    have hu := tslice_run hel
    split at h
    · rename_i sz by_ hsz hby
      obtain ⟨i, hinfo, hisz, hiby⟩ := tinfo_run hsz hby
      split at h
      · cases h
      · rename_i ys m hbr
        obtain ⟨o, c, news, B⟩ := bring_ok hi hy hbr
        have hval := B.val
        simp only at hval
        subst hval
        have ho' : o = none ∨ ∃ ad, o = some ad := by cases o <;> simp
        by_cases hz0 : (sz = 0 ∨ by_ = 0 ∨ (tzero P el).map List.length ≠ some sz)
        · rw [if_pos hz0] at h; cases h
        · rw [if_neg hz0] at h
          simp only [not_or] at hz0
          obtain ⟨hz1, hz2, hz3⟩ := hz0
          simp only [ne_eq, Decidable.not_not, Option.map_eq_some_iff] at hz3
          obtain ⟨zl, hzl, hzlen⟩ := hz3
          obtain ⟨i', zv, hi1, hi2, hi3⟩ := tzero_cells (s := s) hzl
          rw [hinfo] at hi1
          cases hi1
          split at h
          · have := nils_inv hx; subst_vars
            by_cases hm : m = 0
            · rw [if_pos hm] at h; cases h
              subst hm
              rw [append_nothing hu hinfo none o 0 0 c (Nat.le_refl _) s.w ho']
              exact .same hi .nils
            · rw [if_neg hm] at h
              by_cases hr : m * i.bytes ≤ room
              · rw [if_pos hr] at h; cases h
                rcases B.cell with h0 | ⟨ad, rfl, hcell⟩
                · exact absurd h0 hm
                have hml := room_maxLen hr (by omega)
                have hrun := run_append_nil (P := P) s.w t ty el i zv hu hinfo hi2 ad m c news B.nlen hcell (by omega) (by simp only [maxLen] at hml; omega) (by simp only [room] at hr; omega)
                rw [hrun]
                have := append_new (X := X) (el := el) (sz := i.size) (n := 0) (m := m) (xs := []) (ys := ys) (olds := []) (news := news) hi hid hnx (by simp) (by simp) (by simp) B.len B.nlen B.rel
                  zv.cells (by have := hi3.1; omega) (grownCap s.w m 0 el) (by have := grownCap_ge s.w m 0 el; omega) (grownCap_le_maxLen _ _ _ _ hml) (w' := s.w.drew.alloc (.cells (news.toArray ++ Builtin.zeroCells zv.cells (grownCap s.w m 0 el - m)) el)) (by simp only [Array.empty_append, Nat.zero_add]; rfl) rfl rfl rfl
                simpa using this
              · rw [if_neg hr] at h; cases h
          · rename_i xs
            by_cases hm : m = 0
            · rw [if_pos hm] at h; cases h
            · rw [if_neg hm] at h
              by_cases hr : (xs.length + m) * by_ ≤ room ∧ (xs.all fun y => y.length == sz) = true
              · rw [if_pos hr] at h; cases h
                obtain ⟨hr, hall⟩ := hr
                have hall : ∀ e ∈ xs, e.length = sz := by simpa using hall
                rcases B.cell with h0 | ⟨ad, rfl, hcell⟩
                · exact absurd h0 hm
                have hml := room_maxLen hr (by omega)
                have hxb := bring_ok (sz := sz) (r := (vs xs.flatten, xs.length)) hi (full_fvr hx) (by simp only [bringD]; rw [if_pos (by simpa using hall)])
                obtain ⟨o2, c2, olds, B2⟩ := hxb
                cases hx with
                | @full _ b off hfv =>
                  have hv2 := B2.val
                  simp only [Value.slice.injEq] at hv2
                  obtain ⟨ho2, _, hc2⟩ := hv2
                  subst ho2 hc2
                  have hx0 : xs.length ≠ 0 ∨ xs.length = 0 := by omega
                  have hcell2 : ∀ (j : Nat) (z : Value), olds[j]? = some z → s.w.cell? ((⟨b, off, none⟩ : Addr).add j) = some z := by
                    rcases B2.cell with h0 | ⟨ad2, had, hc⟩
                    · intro j z hz
                      have := B2.nlen
                      simp only at h0
                      rw [h0] at this
                      simp at this
                      subst this
                      simp at hz
                    · cases had; exact hc
                  subst hisz hiby
                  have hrun := run_append_grow (P := P) s.w t ty el i zv hu hinfo hi2 ⟨b, off, none⟩ xs.length xs.length olds B2.nlen hcell2 ad m c news B.nlen hcell (by omega) (by simp only [maxLen] at hml; omega)
                    (growslice_fits (by omega) (by simp only [room] at hr; omega))
                  rw [hrun]
                  exact append_new (X := X) (el := el) (sz := i.size) (n := xs.length) (m := m) (olds := olds) (news := news) hi hid hnx B2.len B2.nlen B2.rel B.len B.nlen B.rel
                    zv.cells (by have := hi3.1; omega) (grownCap s.w (xs.length + m) xs.length el) (grownCap_ge _ _ _ _) (grownCap_le_maxLen _ _ _ _ hml) rfl rfl rfl rfl
              · rw [if_neg hr] at h; cases h
          · rename_i id len sz'
            split at h
            · rename_i el' cells hb
              by_cases hr : sz' = sz ∧ el' = el ∧ cells.length = len * sz ∧ (len + m) * by_ ≤ room
              · rw [if_pos hr] at h; cases h
                obtain ⟨rfl, rfl, hcl, hr⟩ := hr
                have hml := room_maxLen hr (by omega)
                obtain ⟨cap, cs, el2, fr, hv, h2, h3, h4, h5⟩ := buf_inv hx (by simp [Heap.cur, hb, hcl])
                subst hv
                obtain ⟨cs', hcs', hcl'⟩ := live_row hi hb
                rw [hcs'] at h3
                simp only [Option.some.injEq, Obj.cells.injEq] at h3
                obtain ⟨rfl, rfl, rfl⟩ := h3
                have hrel : ∀ (j : Nat) (x : PV), cells[j]? = some x → ∃ z, (cs'.toList.take (len * sz'))[j]? = some z ∧ PVR s x z ∧ z.oneCell' = true := fun j x hj => by
                  have he := hi.ent id
                  rw [hb] at he
                  obtain ⟨cs0, fr0, q1, q2, _, q4⟩ := he
                  rw [hcs'] at q1
                  simp only [Option.some.injEq, Obj.cells.injEq] at q1
                  obtain ⟨rfl, _, _⟩ := q1
                  obtain ⟨z, z1, z2, z3⟩ := q4 j x hj
                  have hlt := (List.getElem?_eq_some_iff.1 hj).1
                  exact ⟨z, by rw [List.getElem?_take, if_pos (by omega)]; simpa using z1, z2, z3⟩
                by_cases hroom : len + m ≤ cap
                · by_cases hm : m = 0
                  · subst hm
                    rw [append_nothing hu hinfo (some _) o len cap c (by omega) s.w ho']
                    have hy0 : ys = [] := List.eq_nil_of_length_eq_zero (by have := B.len; simpa using this)
                    subst hy0
                    have hsame : s.σ.put id (.blk el' (cells ++ []) true) = s.σ := by
                      have : upd s.σ.ent id (.blk el' (cells ++ []) true) = s.σ.ent := by
                        funext k
                        by_cases hk : k = id
                        · subst hk; simp [upd_same, hb]
                        · simp [upd_ne _ _ hk]
                      simp only [Heap.put, this]
                    rw [hsame]
                    exact .same hi (by simpa using hx)
                  · rcases B.cell with h0 | ⟨ad, rfl, hcell⟩
                    · exact absurd h0 hm
                    subst hisz hiby
                    have hone : ∀ z ∈ news, z.oneCell' = true := fun z hz => by
                      obtain ⟨j, hj, rfl⟩ := List.getElem_of_mem hz
                      have hj' : j < ys.length := by rw [B.len]; have := B.nlen; omega
                      obtain ⟨q, q1, _, q3⟩ := B.rel j ys[j] (List.getElem?_eq_getElem hj')
                      rw [List.getElem?_eq_getElem hj] at q1; cases q1; exact q3
                    have hfit : len * i.size + news.length ≤ cs'.size := by rw [B.nlen, h4, ← Nat.add_mul]; exact Nat.mul_le_mul_right _ hroom
                    rw [run_append_room (P := P) s.w t ty el' i hu hinfo (s.ι id) len cap cs' hcs' ad m c news B.nlen hcell hone hroom hfit]
                    have hsz : (cs'.toList.take (len * i.size) ++ news ++ cs'.toList.drop (len * i.size + news.length)).toArray.size = cs'.size := by simp; omega
                    have hyl : ys.length = m * i.size := B.len
                    have hnl : news.length = m * i.size := B.nlen
                    have hput : Put s id el' (cells ++ ys) (s.ι id) (s.w.setRow (s.ι id) (cs'.toList.take (len * i.size) ++ news ++ cs'.toList.drop (len * i.size + news.length)).toArray)
                        (cs'.toList.take (len * i.size) ++ news ++ cs'.toList.drop (len * i.size + news.length)).toArray := by
                      refine ⟨.inr ⟨cells, hb, by simp, fun _ => rfl⟩, .inr ⟨rfl, ⟨cells, hb⟩, fun cs e fr hc => ?_⟩, by simp, fun b _ hne => setRow_other _ _ _ _ hne,
                        setRow_heap _ _ _ _ _ _ hcs', by rw [hsz]; simp; omega, fun j x hj => ?_, nx_of hi (by rw [hb]; simp), rfl, rfl, rfl⟩
                      · rw [hcs'] at hc; cases hc; exact hsz
                      · rw [arr_splice_get _ _ _ hfit]
                        by_cases hlt : j < cells.length
                        · rw [List.getElem?_append_left hlt] at hj
                          rw [if_pos (by omega)]
                          obtain ⟨z, z1, z2, z3⟩ := hrel j x hj
                          rw [List.getElem?_take, if_pos (by omega)] at z1
                          exact ⟨z, by simpa using z1, z2, z3⟩
                        · rw [List.getElem?_append_right (by omega)] at hj
                          have := (List.getElem?_eq_some_iff.1 hj).1
                          rw [if_neg (by omega), if_pos (by omega), ← hcl]
                          exact B.rel _ x hj
                    refine ⟨_, _, _, rfl, hput.inv hi, hput.ev hi, ?_⟩
                    refine .buf ⟨el', cells ++ ys, true, by simp [Heap.put, upd_same]⟩ (by simp only [Heap.ver, Heap.put, upd_same, List.length_append, hcl, B.len, ← Nat.add_mul]; exact Nat.le_refl _) rfl fun _ => ?_
                    exact ⟨cap, _, el', (0, 0), by simp [upd_same], hroom, by simp only [upd_same]; exact hput.here, by rw [hsz]; exact h4, h5⟩
                · rcases B.cell with h0 | ⟨ad, rfl, hcell⟩
                  · simp only at h0; omega
                  subst hisz hiby
                  have holds : ∀ (j : Nat) (z : Value), (cs'.toList.take (len * i.size))[j]? = some z → s.w.cell? ((⟨s.ι id, 0, none⟩ : Addr).add j) = some z := fun j z hz => by
                    rw [addr_add]
                    rw [List.getElem?_take] at hz
                    split at hz
                    · simp only [World.cell?, Nat.zero_add, hcs']
                      simpa using hz
                    · cases hz
                  have hol : (cs'.toList.take (len * i.size)).length = len * i.size := by
                    have : len * i.size ≤ cap * i.size := Nat.mul_le_mul_right _ h2
                    simp; omega
                  have hrun := run_append_grow (P := P) s.w t ty el' i zv hu hinfo hi2 ⟨s.ι id, 0, none⟩ len cap (cs'.toList.take (len * i.size)) hol holds ad m c news B.nlen hcell (by omega) (by simp only [maxLen] at hml; omega)
                    (growslice_fits (by omega) (by simp only [room] at hr; omega))
                  rw [hrun]
                  have hyl : ys.length = m * i.size := B.len
                  have hnl : news.length = m * i.size := B.nlen
                  have hcm := grownCap_le_maxLen s.w (len + m) cap el' hml
                  have hge := grownCap_ge s.w (len + m) cap el'
                  have hm0 : 0 < m := by omega
                  have hput : Put s id el' (cells ++ ys) s.w.heap.size (s.w.drew.alloc (.cells ((cs'.toList.take (len * i.size)).toArray ++ news.toArray ++ Builtin.zeroCells zv.cells (grownCap s.w (len + m) cap el' - (len + m))) el'))
                      ((cs'.toList.take (len * i.size)).toArray ++ news.toArray ++ Builtin.zeroCells zv.cells (grownCap s.w (len + m) cap el' - (len + m))) := by
                    refine ⟨.inr ⟨cells, hb, by simp, fun heq => ?_⟩, .inl (Nat.le_refl _), by simp, fun b hb' _ => heap_alloc_old s.w.drew _ b hb', heap_alloc_new s.w.drew _, ?_, fun j x hj => ?_, nx_of hi (by rw [hb]; simp), rfl, rfl, rfl⟩
                    · simp only [List.length_append] at heq
                      have : m * i.size ≠ 0 := by
                        intro h0
                        rcases Nat.mul_eq_zero.1 h0 with h | h <;> omega
                      omega
                    · simp only [Array.size_append, List.size_toArray, List.length_append]; omega
                    · by_cases hlt : j < cells.length
                      · rw [List.getElem?_append_left hlt] at hj
                        obtain ⟨z, z1, z2, z3⟩ := hrel j x hj
                        refine ⟨z, ?_, z2, z3⟩
                        rw [Array.getElem?_append_left (by simp only [Array.size_append, List.size_toArray]; omega), Array.getElem?_append_left (by simp only [List.size_toArray]; omega)]
                        simpa using z1
                      · rw [List.getElem?_append_right (by omega)] at hj
                        obtain ⟨z, z1, z2, z3⟩ := B.rel _ x hj
                        refine ⟨z, ?_, z2, z3⟩
                        have := (List.getElem?_eq_some_iff.1 z1).1
                        rw [Array.getElem?_append_left (by simp only [Array.size_append, List.size_toArray]; omega), Array.getElem?_append_right (by simp only [List.size_toArray]; omega)]
                        rw [List.size_toArray, hol, ← hcl]
                        simpa using z1
                  refine ⟨_, _, _, rfl, hput.inv hi, hput.ev hi, ?_⟩
                  refine .buf ⟨el', cells ++ ys, true, by simp [Heap.put, upd_same]⟩ (by simp only [Heap.ver, Heap.put, upd_same, List.length_append, hcl, B.len, ← Nat.add_mul]; exact Nat.le_refl _) rfl fun _ => ?_
                  refine ⟨grownCap s.w (len + m) cap el', _, el', (0, 0), by simp [upd_same], hge, by simp only [upd_same]; exact hput.here, ?_, hcm⟩
                  have e : grownCap s.w (len + m) cap el' * i.size = (len * i.size + m * i.size) + (grownCap s.w (len + m) cap el' - (len + m)) * i.size := by
                    rw [← Nat.add_mul, ← Nat.add_mul]; congr 1; omega
                  have hzc : zv.cells.size = i.size := by have := hi3.1; omega
                  simp only [Array.size_append, List.size_toArray, size_zeroCells, hzc, hol, hnl, e]
              · rw [if_neg hr] at h; cases h
            · cases h
          · cases h
    · cases h

end Go.Dn
