/- Every operation. -/
import Derived.Test.YtefaoeaohhdhkaaD11
set_option linter.unusedVariables false
set_option linter.unusedSimpArgs false
namespace Go.Dn
open Go

variable {X : Ctx} {s : St} {n : Nat} {e : Env} {a : Act} {o : Oper} {Q : Exit → Act → World → Prop} {m : Nat}

theorem pvrs_append {xs ys : List PV} {us vs : Array Value} (h1 : PVRs s xs us) (h2 : PVRs s ys vs) : PVRs s (xs ++ ys) (us ++ vs) := by
  refine ⟨by simp [h1.1, h2.1], fun i x hi => ?_⟩
  by_cases hlt : i < xs.length
  · rw [List.getElem?_append_left hlt] at hi
    have := h1.2 i x hi
    have hlt' : i < us.size := by rw [← h1.1]; exact hlt
    simpa [Array.getD_eq_getD_getElem?, Array.getElem?_append, hlt'] using this
  · rw [List.getElem?_append_right (by omega)] at hi
    have := h2.2 _ x hi
    have hlt' : ¬ i < us.size := by rw [← h1.1]; exact hlt
    simpa [Array.getD_eq_getD_getElem?, Array.getElem?_append, hlt', h1.1] using this

theorem clo_inv {f : FuncId} {first caps : List PV} {v : Value} (h : PVR s (.clo f first caps) v) : ∃ fv cv, v = .func (.func f) fv cv ∧ PVRs s first fv ∧ PVRs s caps cv := by
  cases h with
  | clo hf hc h1 h2 => exact ⟨_, _, rfl, ⟨hf, h1⟩, ⟨hc, h2⟩⟩

theorem fn_inv {f : FuncId} {v : Value} (h : PVR s (.v (.fn f)) v) : v = .func (.func f) #[] #[] := by cases h with | v h => cases h; rfl

theorem upon_enter {f : FuncId} {vs : Array Value} {x : PV} {σ' : Heap} {rd : Option Nat} (h1 : (callFunc f vs).run X.P s.w = .ok (.enter f vs) s.w)
    (h2 : Calls X.P f vs s.w fun en w' => ∃ v, en = .returned v ∧ Post s x σ' v w') :
    o.uponIn (Fw rd) m X.P a (NextOK s a o.dst x σ') Q ((callFunc f vs).run X.P s.w) := by
  rw [h1, Oper.uponIn_enter]
  refine ⟨wide_room rd m, (Calls.wide rd h2 (m - 1)).mono fun en w' hh => ?_⟩
  obtain ⟨v, rfl, hp⟩ := hh
  exact ⟨v, rfl, hp⟩

theorem optD_ok (hG : GlobOK X s) (he : EnvR s n e a) {x : Option Operand} {y : Option PV} (h : optD X e x = some y) : OptR s y (x.map a.eval) := by
  cases x with
  | none => simp [optD] at h; subst h; trivial
  | some x =>
    simp only [optD, Option.map_eq_some_iff] at h
    obtain ⟨z, hz, rfl⟩ := h
    exact operand_pvr hG he hz

theorem callop_ok {call : Call0} (hcall : CallOK X call) (hG : GlobOK X s) (he : EnvR s n e a) (hi : Inv s) {id0 : Nat} (hid : s.σ.ent id0 = .none) (hnx : id0 < s.σ.nx) {c : Call} (ho : o.op = .call c) {x : PV} {σ' : Heap}
    {rd : Option Nat} (h : callOpD X call e s.σ id0 c = some (x, σ')) : o.uponIn (Fw rd) m X.P a (NextOK s a o.dst x σ') Q ((execOp a.eval o).run X.P s.w) := by
  unfold callOpD at h
  split at h
  · cases h
  · rename_i args hargs
    have hv := operands_pvrs hG he hargs
    have hex : ∀ d, resolve a.eval c o.type = pure d → (execOp a.eval o).run X.P s.w = (invoke d.target d.args).run X.P s.w := fun d hd => by
      simp [execOp, ho, hd]
    split at h
    · rename_i b hc
      obtain ⟨q, hq, hg⟩ := builtin_ok (X := X) (ty := o.type) hi hid hnx hv h
      rw [hex _ (by simp only [resolve, hc]; rfl)]
      simp only [invoke]
      rw [hq]
      exact upon_gives hg
    · cases h
    · rename_i f hc
      split at h
      · rename_i fid hf
        have hfv := fn_inv (operand_pvr hG he hf)
        rw [hex { target := .fn (.func fid) #[], args := #[] ++ c.args.map a.eval } (by simp only [resolve, hc, hfv, Deferred.ofValue])]
        obtain ⟨h1, h2⟩ := hcall (.fn fid) args x σ' s h hi hG (c.args.map a.eval) hv
        simp only [invoke, Array.append_empty, Array.empty_append]
        exact upon_enter h1 h2
      · rename_i fid first caps hf
        obtain ⟨fv, cv, hfv, hf1, hf2⟩ := clo_inv (operand_pvr hG he hf)
        rw [hex { target := .fn (.func fid) cv, args := fv ++ c.args.map a.eval } (by simp only [resolve, hc, hfv, Deferred.ofValue])]
        obtain ⟨h1, h2⟩ := hcall (.fn fid) (first ++ args ++ caps) x σ' s h hi hG (fv ++ c.args.map a.eval ++ cv) (pvrs_append (pvrs_append hf1 hv) hf2)
        simp only [invoke]
        exact upon_enter h1 h2
      · rename_i id hf
        have hyl : a.eval f = .func (.yield (s.ι id)) #[] #[] := by
          have := operand_pvr hG he hf
          cases hv2 : a.eval f <;> rw [hv2] at this <;> cases this
          rfl
        rw [hex { target := .fn (.yield (s.ι id)) #[], args := #[] ++ c.args.map a.eval } (by simp only [resolve, hc, hyl, Deferred.ofValue])]
        obtain ⟨l, fn, tmps, assign, body, h1, h2⟩ := hcall (.yld id) args x σ' s h hi hG (c.args.map a.eval) hv
        simp only [invoke, Array.empty_append]
        rw [h1, Oper.uponIn_round]
        refine ⟨wide_room rd m, ?_⟩
        have h3 := h2 (m - 1)
        refine RoundIn.mono (F := Fw rd) h3 fun en w' hh => ?_
        obtain ⟨v, rfl, hp⟩ := hh
        exact ⟨v, rfl, hp⟩
      · cases h

/-- **One operation of the interpreter: the model's does the same.** -/
theorem step_ok {call : Call0} (hcall : CallOK X call) (hG : GlobOK X s) (he : EnvR s n e a) (hi : Inv s) {id0 : Nat} (hid : s.σ.ent id0 = .none) (hnx : id0 < s.σ.nx) {x : PV} {σ' : Heap}
    {rd : Option Nat} (h : stepOp X call e s.σ id0 o.op = some (x, σ')) : o.uponIn (Fw rd) m X.P a (NextOK s a o.dst x σ') Q ((o.semAt (Fw rd).round a.eval).run X.P s.w) := by
  have hnd : ∀ c, o.op ≠ .defer c := by
    intro c hc; rw [hc] at h; simp [stepOp] at h
  rw [Oper.semAt_eq _ _ _ hnd]
  cases ho : o.op <;> rw [ho] at h <;> simp only [stepOp] at h <;> (try (cases h; done))
  case move y =>
    simp only [Option.map_eq_some_iff, Prod.mk.injEq] at h
    obtain ⟨z, hz, rfl, rfl⟩ := h
    simp only [execOp, ho, Sem.run_pure, Oper.uponIn_value]
    exact ⟨_, rfl, s.ι, hi, Ev.refl s, operand_pvr hG he hz⟩
  case assign y =>
    simp only [Option.map_eq_some_iff, Prod.mk.injEq] at h
    obtain ⟨z, hz, rfl, rfl⟩ := h
    simp only [execOp, ho, Sem.run_pure, Oper.uponIn_value]
    exact ⟨_, rfl, s.ι, hi, Ev.refl s, operand_pvr hG he hz⟩
  case pick c y z =>
    split at h
    · rename_i hc
      have hcv := bool_inv (operand_pvr hG he hc)
      simp only [Option.map_eq_some_iff, Prod.mk.injEq] at h
      obtain ⟨q, hq, rfl, rfl⟩ := h
      simp only [execOp, ho, hcv, asBool, Sem.run_bind, Sem.run_pure, Result.andThen_ok, Oper.uponIn_value, if_true]
      exact ⟨_, rfl, s.ι, hi, Ev.refl s, operand_pvr hG he hq⟩
    · rename_i hc
      have hcv := bool_inv (operand_pvr hG he hc)
      simp only [Option.map_eq_some_iff, Prod.mk.injEq] at h
      obtain ⟨q, hq, rfl, rfl⟩ := h
      simp only [execOp, ho, hcv, asBool, Sem.run_bind, Sem.run_pure, Result.andThen_ok, Oper.uponIn_value, Bool.false_eq_true, if_false]
      exact ⟨_, rfl, s.ι, hi, Ev.refl s, operand_pvr hG he hq⟩
    · cases h
  case alloc t =>
    simp only [Option.map_eq_some_iff] at h
    obtain ⟨z, hz, hzz⟩ := h
    obtain ⟨v, h1, h2, h3⟩ := tzero_ok (s := s) hz
    have hg := newVar_gives (X := X) (P := X.P) hi hid hnx (t := t) h2 h3
    rw [hzz] at hg
    simp only [execOp, ho]
    refine upon_gives (X := X) ?_
    simp only [Instr.alloc, Sem.run_bind, h1, Result.andThen_ok]
    simpa using hg
  case box t y =>
    simp only [Option.map_eq_some_iff, Option.bind_eq_some_iff] at h
    obtain ⟨cs, ⟨z, hz, hcs⟩, hzz⟩ := h
    obtain ⟨c1, c2⟩ := cells_pvr hcs (operand_pvr hG he hz)
    have hg := newVar_gives (X := X) (P := X.P) hi hid hnx (t := t) c1 c2
    rw [hzz] at hg
    simp only [execOp, ho]
    exact upon_gives (X := X) hg
  case build t parts =>
    simp only [Option.map_eq_some_iff, Prod.mk.injEq] at h
    obtain ⟨z, hz, rfl, rfl⟩ := h
    simp only [execOp, ho]
    exact upon_val hi (build_ok hG he hz)
  case buildSlice t len parts =>
    simp only [execOp, ho]
    exact upon_gives (X := X) (buildSlice_ok hG he hi hid hnx h)
  case load t y =>
    simp only [Option.map_eq_some_iff, Option.bind_eq_some_iff, Prod.mk.injEq] at h
    obtain ⟨z, ⟨p, hp, hz⟩, rfl, rfl⟩ := h
    simp only [execOp, ho]
    exact upon_gives (X := X) (load_gives hi (operand_pvr hG he hp) hz)
  case store t y z =>
    split at h
    · rename_i p q hp hq
      simp only [Option.map_eq_some_iff, Prod.mk.injEq] at h
      obtain ⟨σ1, hs, rfl, rfl⟩ := h
      obtain ⟨ι', w', h1, h2, h3⟩ := store_ok hi (operand_pvr hG he hp) (operand_pvr hG he hq) hs
      simp only [execOp, ho, Sem.run_bind, h1, Result.andThen_ok, Sem.run_pure, Oper.uponIn_skip]
      exact ⟨_, rfl, ι', h2, h3, .undef⟩
    · cases h
  case nilCheck y =>
    have same : ∀ z, operandD X e y = some z → (∀ b, a.eval y ≠ .pointer none ∨ b) → True := fun _ _ _ => trivial
    split at h
    · rename_i id ver off hy
      by_cases hc : s.σ.cur id ver = true
      · rw [if_pos hc] at h; cases h
        have hp := operand_pvr hG he hy
        have hv := ptr_inv hp hc
        simp only [execOp, ho]
        rw [hv]
        simp only [Sem.run_pure, Oper.uponIn_value]
        exact ⟨_, rfl, s.ι, hi, Ev.refl s, by rw [← hv]; exact hp⟩
      · rw [if_neg hc] at h; cases h
    · rename_i cs hy
      cases h
      have hp := operand_pvr hG he hy
      simp only [execOp, ho]
      generalize a.eval y = v at hp
      cases hp with
      | fptr himm hcell =>
        simp only [Sem.run_pure, Oper.uponIn_value]
        exact ⟨_, rfl, s.ι, hi, Ev.refl s, .fptr himm hcell⟩
    · rename_i f fi ca hy
      cases h
      have hp := operand_pvr hG he hy
      obtain ⟨fv, cv, hv, _, _⟩ := clo_inv hp
      simp only [execOp, ho]
      rw [hv]
      simp only [Sem.run_pure, Oper.uponIn_value]
      exact ⟨_, rfl, s.ι, hi, Ev.refl s, by rw [← hv]; exact hp⟩
    · rename_i f hy
      cases h
      have hp := operand_pvr hG he hy
      have hv := fn_inv hp
      simp only [execOp, ho]
      rw [hv]
      simp only [Sem.run_pure, Oper.uponIn_value]
      exact ⟨_, rfl, s.ι, hi, Ev.refl s, by rw [← hv]; exact hp⟩
    · rename_i id hy
      cases h
      have hp := operand_pvr hG he hy
      simp only [execOp, ho]
      generalize a.eval y = v at hp
      cases hp with
      | yld hl =>
        simp only [Sem.run_pure, Oper.uponIn_value]
        exact ⟨_, rfl, s.ι, hi, Ev.refl s, .yld hl⟩
    · cases h
  case binOp op t y z ty =>
    split at h
    · rename_i p q hp hq
      simp only [Option.map_eq_some_iff, Prod.mk.injEq] at h
      obtain ⟨r, hr, rfl, rfl⟩ := h
      simp only [execOp, ho]
      exact upon_val hi (bin_ok (operand_pvr hG he hp) (operand_pvr hG he hq) hr y z)
    · cases h
  case unOp op t y =>
    simp only [Option.map_eq_some_iff, Option.bind_eq_some_iff, Prod.mk.injEq] at h
    obtain ⟨r, ⟨p, hp, hr⟩, rfl, rfl⟩ := h
    simp only [execOp, ho]
    exact upon_val hi (un_ok (operand_pvr hG he hp) hr)
  case convert src dst y =>
    simp only [Option.map_eq_some_iff, Option.bind_eq_some_iff, Prod.mk.injEq] at h
    obtain ⟨r, ⟨p, hp, hr⟩, rfl, rfl⟩ := h
    simp only [execOp, ho]
    exact upon_val hi (conv_ok (operand_pvr hG he hp) hr)
  case makeFunc fn first caps =>
    cases fn with
    | func f =>
      simp only at h
      have hx : σ' = s.σ ∧ ∃ z, PVR s x (.func (.func f) (first.map a.eval) (caps.map a.eval)) ∧ z = x := by
        split at h
        · rename_i h1 h2
          cases h
          have e1 := operands_pvrs hG he h1
          have e2 := operands_pvrs hG he h2
          have f1 : first.map a.eval = #[] := Array.eq_empty_of_size_eq_zero e1.1.symm
          have f2 : caps.map a.eval = #[] := Array.eq_empty_of_size_eq_zero e2.1.symm
          rw [f1, f2]
          exact ⟨rfl, _, .v (.fn f), rfl⟩
        · rename_i h1 h2
          cases h
          have e1 := operands_pvrs hG he h1
          have e2 := operands_pvrs hG he h2
          exact ⟨rfl, _, .clo e1.1 e2.1 e1.2 e2.2, rfl⟩
        · cases h
      obtain ⟨rfl, _, hx, _⟩ := hx
      simp only [execOp, ho]
      exact upon_val hi ⟨_, by simp only [Instr.makeFunc, Sem.run_pure], hx⟩
    | _ => simp at h
  case makeSlice t y z =>
    split at h
    · rename_i p q hp hq
      simp only [execOp, ho]
      exact upon_gives (X := X) (make_ok hi hid hnx (operand_pvr hG he hp) (operand_pvr hG he hq) h)
    · cases h
  case slice t y lo hi' mx =>
    have hrun : (execOp a.eval o).run X.P s.w = ((do pure (Next.value (← Instr.sliceAt t (a.eval y) (lo.map a.eval) (hi'.map a.eval) (mx.map a.eval))) : Sem Next)).run X.P s.w := by
      simp only [execOp, ho]
    rw [hrun]
    split at h
    · rename_i id len sz q1 q2 q3 h1 h2 h3 h4
      simp only [Option.bind_eq_some_iff, Option.map_eq_some_iff, Prod.mk.injEq] at h
      obtain ⟨⟨z, σ1⟩, hz, w1, hw1, rfl, rfl⟩ := h
      obtain ⟨e1, f1⟩ := exp6 hz hi (operand_pvr hG he h1)
      have hev := e1.2
      have up : ∀ {p : Option PV} {q : Option Value}, OptR s p q → OptR ⟨s.w, s.Y, σ1, s.ι⟩ p q := by
        intro p q hpq
        cases p <;> cases q <;> first | exact hpq | exact hev.pvr hpq
      obtain ⟨u, u1, u2⟩ := slice_ok (s := ⟨s.w, s.Y, σ1, s.ι⟩) (P := X.P) (.v f1) (up (optD_ok hG he h2)) (up (optD_ok hG he h3)) (up (optD_ok hG he h4)) hw1
      refine upon_gives (X := X) ⟨s.ι, u, s.w, u1, e1.1, e1.2, u2⟩
    · rename_i p q1 q2 q3 hnb h1 h2 h3 h4
      simp only [Option.map_eq_some_iff, Prod.mk.injEq] at h
      obtain ⟨r, hr, rfl, rfl⟩ := h
      exact upon_val hi (slice_ok (operand_pvr hG he h1) (optD_ok hG he h2) (optD_ok hG he h3) (optD_ok hG he h4) hr)
    · cases h
  case fieldAddr t y f =>
    simp only [Option.map_eq_some_iff, Option.bind_eq_some_iff, Prod.mk.injEq] at h
    obtain ⟨r, ⟨p, hp, hr⟩, rfl, rfl⟩ := h
    simp only [execOp, ho]
    exact upon_val hi (fieldAddr_ok (operand_pvr hG he hp) hr)
  case field t y f =>
    simp only [Option.map_eq_some_iff, Option.bind_eq_some_iff, Prod.mk.injEq] at h
    obtain ⟨r, ⟨p, hp, hr⟩, rfl, rfl⟩ := h
    simp only [execOp, ho]
    exact upon_val hi (field_ok (operand_pvr hG he hp) hr)
  case indexAddr t y z =>
    split at h
    · rename_i p q hp hq
      simp only [Option.map_eq_some_iff, Prod.mk.injEq] at h
      obtain ⟨r, hr, rfl, rfl⟩ := h
      simp only [execOp, ho]
      exact upon_val hi (indexAddr_ok hi (operand_pvr hG he hp) (operand_pvr hG he hq) hr)
    · cases h
  case index t y z =>
    split at h
    · rename_i p q hp hq
      simp only [Option.map_eq_some_iff, Prod.mk.injEq] at h
      obtain ⟨r, hr, rfl, rfl⟩ := h
      simp only [execOp, ho]
      exact upon_val hi (index_ok (operand_pvr hG he hp) (operand_pvr hG he hq) hr)
    · cases h
  case extract y k =>
    split at h
    · rename_i xs hy
      simp only [Option.map_eq_some_iff, Prod.mk.injEq] at h
      obtain ⟨r, hr, rfl, rfl⟩ := h
      have hp := operand_pvr hG he hy
      simp only [execOp, ho]
      generalize a.eval y = v at hp
      cases hp with
      | @tup _ vs hs hh =>
        have hlt : k < vs.size := by rw [← hs]; exact (List.getElem?_eq_some_iff.1 hr).1
        have := hh k r hr
        refine upon_val hi ⟨vs[k], by simp [Instr.extract, hlt], ?_⟩
        simpa [Array.getD_eq_getD_getElem?, hlt] using this
    · cases h
  case call c =>
    exact callop_ok hcall hG he hi hid hnx ho h

end Go.Dn
