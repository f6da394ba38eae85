/- One operation, whichever. -/
import Derived.Test.YtefaoeaohhdhkaaD10b
set_option linter.unusedVariables false
set_option linter.unusedSimpArgs false
namespace Go.Dn
open Go

variable {X : Ctx} {s : St} {n : Nat} {e : Env} {a : Act}

/-- The fence of everything; in a round or not. -/
def Fw (rd : Option Nat) : Fence := { Fence.wide with round := rd }

/-- What is known of the program. -/
structure ProgOK (P : Program) : Prop where
  names : ∀ (f : FuncId) (fn : Func), P.funcs[f]? = some fn → (fn.name == "runtime.NumGoroutine") = false
  mixed : P.follows .mixedOrders = true

def Post (s : St) (x : PV) (σ' : Heap) (v : Value) (w' : World) : Prop :=
  ∃ ι', Inv ⟨w', s.Y, σ', ι'⟩ ∧ Ev s ⟨w', s.Y, σ', ι'⟩ ∧ PVR ⟨w', s.Y, σ', ι'⟩ x v

/-- A call does what it says. -/
def CallOK (X : Ctx) (call : Call0) : Prop :=
  ∀ (c : Callee) (args : List PV) (r : PV) (σ' : Heap) (s : St), call c args s.σ = some (r, σ') → Inv s → GlobOK X s → ∀ vs, PVRs s args vs →
    match c with
    | .fn f => (callFunc f vs).run X.P s.w = .ok (.enter f vs) s.w ∧ Calls X.P f vs s.w fun en w' => ∃ v, en = .returned v ∧ Post s r σ' v w'
    | .yld id => ∃ l fn tmps assign body, (Instr.yield (s.ι id) vs).run X.P s.w = .ok (.round l fn tmps assign body) s.w ∧
        ∀ m, RoundIn Fence.wide m X.P l fn tmps assign body s.w fun en w' => ∃ v, en = .returned v ∧ Post s r σ' v w'

def NextOK (s : St) (a : Act) (dst : Option Tmp) (x : PV) (σ' : Heap) (a' : Act) (w' : World) : Prop := ∃ v, a' = a.put dst v ∧ Post s x σ' v w'

variable {F : Fence} {m : Nat} {P : Program} {o : Oper} {Q : Exit → Act → World → Prop}

theorem upon_gives {x : PV} {σ' : Heap} {q : Sem Value} (h : Gives X s x σ' (q.run P s.w)) :
    o.uponIn F m P a (NextOK s a o.dst x σ') Q ((do pure (Next.value (← q)) : Sem Next).run P s.w) := by
  obtain ⟨ι', v, w', hr, h1, h2, h3⟩ := h
  simp only [Sem.run_bind, hr, Result.andThen_ok, Sem.run_pure, Oper.uponIn_value]
  exact ⟨v, rfl, ι', h1, h2, h3⟩

theorem upon_val (hi : Inv s) {x : PV} {q : Sem Value} (h : ∃ v, q.run P s.w = .ok v s.w ∧ PVR s x v) :
    o.uponIn F m P a (NextOK s a o.dst x s.σ) Q ((do pure (Next.value (← q)) : Sem Next).run P s.w) := by
  obtain ⟨v, hr, hv⟩ := h
  exact upon_gives (X := ⟨P, fun _ => none, fun _ _ => none, fun _ => false, fun _ => false, false⟩) (by rw [hr]; exact Gives.same hi hv)

theorem Calls.wide {P : Program} {f : FuncId} {args : Array Value} {w : World} {R : Ending → World → Prop} (rd : Option Nat) (h : Calls P f args w R) (m : Nat) : CallsIn (Fw rd) m P f args w R :=
  (callsIn_wide (n := m)).2 h

theorem wide_room (rd : Option Nat) (m : Nat) : ((Fw rd).depth.isSome = true → 1 ≤ m) := fun h => by simp [Fw, Fence.wide] at h

theorem fold_min {k : IntKind} : ∀ {xs : List PV} {vs : List Value} {x r : Int}, (∀ (i : Nat) (y : PV), xs[i]? = some y → ∃ u, vs[i]? = some u ∧ PVR s y u) → xs.length = vs.length →
    foldInt (fun x y => if y < x then y else x) k x xs = some r → (vs.foldlM Builtin.min2 (.int k x)).run P s.w = .ok (.int k r) s.w
  | [], [], x, r, _, _, h => by simp [foldInt] at h; subst h; simp
  | y :: xs, v :: vs, x, r, hr, hl, h => by
    obtain ⟨u, hu, hp⟩ := hr 0 y (by simp)
    simp at hu; subst hu
    unfold foldInt at h
    split at h
    · rename_i heq; cases heq
    · rename_i a' k' b xs' heq
      simp only [List.cons.injEq] at heq
      obtain ⟨rfl, rfl⟩ := heq
      have := int_inv hp; subst this
      by_cases hk : k = k'
      · rw [if_pos hk] at h; subst hk
        simp only [List.foldlM_cons, Builtin.min2, pure_bind]
        exact fold_min (fun i y hy => by simpa using hr (i + 1) y (by simpa using hy)) (by simpa using hl) h
      · rw [if_neg hk] at h; cases h
    · cases h
  | [], _ :: _, _, _, _, hl, _ => by simp at hl
  | _ :: _, [], _, _, _, hl, _ => by simp at hl

theorem fold_max {k : IntKind} : ∀ {xs : List PV} {vs : List Value} {x r : Int}, (∀ (i : Nat) (y : PV), xs[i]? = some y → ∃ u, vs[i]? = some u ∧ PVR s y u) → xs.length = vs.length →
    foldInt (fun x y => if y > x then y else x) k x xs = some r → (vs.foldlM Builtin.max2 (.int k x)).run P s.w = .ok (.int k r) s.w
  | [], [], x, r, _, _, h => by simp [foldInt] at h; subst h; simp
  | y :: xs, v :: vs, x, r, hr, hl, h => by
    obtain ⟨u, hu, hp⟩ := hr 0 y (by simp)
    simp at hu; subst hu
    unfold foldInt at h
    split at h
    · rename_i heq; cases heq
    · rename_i a' k' b xs' heq
      simp only [List.cons.injEq] at heq
      obtain ⟨rfl, rfl⟩ := heq
      have := int_inv hp; subst this
      by_cases hk : k = k'
      · rw [if_pos hk] at h; subst hk
        simp only [List.foldlM_cons, Builtin.max2, pure_bind]
        exact fold_max (fun i y hy => by simpa using hr (i + 1) y (by simpa using hy)) (by simpa using hl) h
      · rw [if_neg hk] at h; cases h
    · cases h
  | [], _ :: _, _, _, _, hl, _ => by simp at hl
  | _ :: _, [], _, _, _, hl, _ => by simp at hl

theorem pvrs_one {x : PV} {vs : Array Value} (h : PVRs s [x] vs) : ∃ v, vs = #[v] ∧ PVR s x v := by
  obtain ⟨h1, h2⟩ := h
  have hs : vs.size = 1 := h1.symm
  refine ⟨vs[0], ?_, ?_⟩
  · apply Array.ext
    · simp [hs]
    · intro i q1 q2
      have : i = 0 := by omega
      subst this; rfl
  · have := h2 0 x (by simp)
    simpa [Array.getD_eq_getD_getElem?, hs] using this

theorem pvrs_two {x y : PV} {vs : Array Value} (h : PVRs s [x, y] vs) : ∃ v u, vs = #[v, u] ∧ PVR s x v ∧ PVR s y u := by
  obtain ⟨h1, h2⟩ := h
  have hs : vs.size = 2 := h1.symm
  refine ⟨vs[0], vs[1], ?_, ?_, ?_⟩
  · apply Array.ext
    · simp [hs]
    · intro i q1 q2
      have : i = 0 ∨ i = 1 := by omega
      rcases this with rfl | rfl <;> rfl
  · have := h2 0 x (by simp)
    simpa [Array.getD_eq_getD_getElem?, hs] using this
  · have := h2 1 y (by simp)
    simpa [Array.getD_eq_getD_getElem?, hs] using this

theorem builtin_ok (hi : Inv s) {id0 : Nat} (hid : s.σ.ent id0 = .none) (hnx : id0 < s.σ.nx) {b : Builtin} {ts : Array TypeId} {ty : TypeId} {args : List PV} {vs : Array Value} {x : PV} {σ' : Heap}
    (hv : PVRs s args vs) (h : builtinD P s.σ id0 b ts.toList args = some (x, σ')) : ∃ q : Sem Value, (∀ cs, builtin b ts ty cs vs = (do pure (Next.value (← q)))) ∧ Gives X s x σ' (q.run P s.w) := by
  unfold builtinD at h
  split at h
  · rename_i t y hts
    obtain ⟨v, rfl, hx⟩ := pvrs_one hv
    simp only [Option.map_eq_some_iff, Prod.mk.injEq] at h
    obtain ⟨r, hr, rfl, rfl⟩ := h
    obtain ⟨z, h1, h2⟩ := len_ok (P := P) (ty := ty) (ts := ts) (by rw [← Array.getElem?_toList, hts]; rfl) hx hr
    exact ⟨_, fun _ => rfl, by rw [h1]; exact .same hi h2⟩
  · rename_i t t' y z hts
    obtain ⟨v, u, rfl, hx, hy⟩ := pvrs_two hv
    by_cases ht : t = t'
    · rw [if_pos ht] at h
      subst ht
      have hts' : ts = #[t, t] := by rw [← Array.toArray_toList (xs := ts), hts]
      subst hts'
      exact ⟨_, fun _ => rfl, append_ok hi hid hnx hx hy h⟩
    · rw [if_neg ht] at h; cases h
  · rename_i t t' y z hts
    obtain ⟨v, u, rfl, hx, hy⟩ := pvrs_two hv
    have hts' : ts = #[t, t'] := by rw [← Array.toArray_toList (xs := ts), hts]
    subst hts'
    exact ⟨_, fun _ => rfl, copy_ok hi hx hy h⟩
  · rename_i k x0 xs
    simp only [Option.map_eq_some_iff, Prod.mk.injEq] at h
    obtain ⟨r, hr, rfl, rfl⟩ := h
    obtain ⟨h1, h2⟩ := hv
    have hlt : 0 < vs.size := by rw [← h1]; simp
    have h0 := h2 0 (.v (.int k x0)) (by simp)
    simp only [Array.getD_eq_getD_getElem?, Array.getElem?_eq_getElem hlt, Option.getD_some] at h0
    have e0 := int_inv h0
    obtain ⟨tl, htl⟩ : ∃ tl, vs.toList = .int k x0 :: tl := by
      cases hl : vs.toList with
      | nil => simp [← Array.length_toList, hl] at hlt
      | cons q tl =>
        refine ⟨tl, ?_⟩
        have : vs[0] = q := by simp [← Array.getElem_toList, hl]
        rw [← this, e0]
    refine ⟨_, fun _ => rfl, ?_⟩
    have hf := fold_min (s := s) (P := P) (k := k) (xs := xs) (vs := tl) (x := x0) (r := r) (fun i y hy => by
      have := h2 (i + 1) y (by simpa using hy)
      have hlt2 : i + 1 < vs.size := by rw [← h1]; have := (List.getElem?_eq_some_iff.1 hy).1; simp; omega
      refine ⟨vs[i + 1], ?_, by simpa [Array.getD_eq_getD_getElem?, hlt2] using this⟩
      have e : vs.toList[i + 1]? = some vs[i + 1] := by simp [hlt2]
      rw [htl] at e; simpa using e) (by
      have : vs.toList.length = tl.length + 1 := by rw [htl]; simp
      simp at h1 this; omega) hr
    simp only [Builtin.min_, htl, hf]
    exact .same hi (.v (.int _ _))
  · rename_i k x0 xs
    simp only [Option.map_eq_some_iff, Prod.mk.injEq] at h
    obtain ⟨r, hr, rfl, rfl⟩ := h
    obtain ⟨h1, h2⟩ := hv
    have hlt : 0 < vs.size := by rw [← h1]; simp
    have h0 := h2 0 (.v (.int k x0)) (by simp)
    simp only [Array.getD_eq_getD_getElem?, Array.getElem?_eq_getElem hlt, Option.getD_some] at h0
    have e0 := int_inv h0
    obtain ⟨tl, htl⟩ : ∃ tl, vs.toList = .int k x0 :: tl := by
      cases hl : vs.toList with
      | nil => simp [← Array.length_toList, hl] at hlt
      | cons q tl =>
        refine ⟨tl, ?_⟩
        have : vs[0] = q := by simp [← Array.getElem_toList, hl]
        rw [← this, e0]
    refine ⟨_, fun _ => rfl, ?_⟩
    have hf := fold_max (s := s) (P := P) (k := k) (xs := xs) (vs := tl) (x := x0) (r := r) (fun i y hy => by
      have := h2 (i + 1) y (by simpa using hy)
      have hlt2 : i + 1 < vs.size := by rw [← h1]; have := (List.getElem?_eq_some_iff.1 hy).1; simp; omega
      refine ⟨vs[i + 1], ?_, by simpa [Array.getD_eq_getD_getElem?, hlt2] using this⟩
      have e : vs.toList[i + 1]? = some vs[i + 1] := by simp [hlt2]
      rw [htl] at e; simpa using e) (by
      have : vs.toList.length = tl.length + 1 := by rw [htl]; simp
      simp at h1 this; omega) hr
    simp only [Builtin.max_, htl, hf]
    exact .same hi (.v (.int _ _))
  · cases h

end Go.Dn
