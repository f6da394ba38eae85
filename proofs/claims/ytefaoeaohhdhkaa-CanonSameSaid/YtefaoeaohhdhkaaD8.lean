/- Elements' addresses, slices of slices, texts' bytes. -/
import Derived.Test.YtefaoeaohhdhkaaD7
set_option linter.unusedVariables false
set_option linter.unusedSimpArgs false
namespace Go.Dn
open Go

variable {X : Ctx} {s : St} {n : Nat} {e : Env} {a : Act} {P : Program}

theorem indexAddr_ok (hi : Inv s) {t : TypeId} {x i y : PV} {v u : Value} (hx : PVR s x v) (hy : PVR s i u) (h : indexAddrD P s.σ t x i = some y) :
    ∃ z, (Instr.indexAt t v u).run P s.w = .ok z s.w ∧ PVR s y z := by
  unfold indexAddrD at h
  split at h
  · cases h
  · rename_i j hj
    obtain ⟨k, rfl⟩ := asNat_inv hj hy
    split at h
    · rename_i xs
      split at h
      · rename_i sz el hel hxe
        by_cases hl : el.length = sz
        · rw [if_pos hl] at h; cases h
          simp only [Option.bind_eq_some_iff] at hel
          obtain ⟨et, hu, hs⟩ := hel
          cases hx with
          | v hx =>
            obtain ⟨b, off, cap, sz', rfl, h1, h2, h3⟩ := sl_elem hx hxe
            have : sz' = sz := by omega
            subst this
            exact ⟨_, indexAt_slice (tslice_run hu) hs (List.getElem?_eq_some_iff.1 hxe).1 s.w, h3⟩
        · rw [if_neg hl] at h; cases h
      · cases h
    · rename_i id len sz
      split at h
      · rename_i et hu
        by_cases hc : (s.σ.cur id (len * sz) && tsize P et == some sz && decide (j < len)) = true
        · rw [if_pos hc] at h; cases h
          simp only [Bool.and_eq_true, beq_iff_eq, decide_eq_true_eq] at hc
          obtain ⟨⟨hc1, hc2⟩, hc3⟩ := hc
          obtain ⟨cap, cs, el, fr, rfl, h2, h3, h4, h5⟩ := buf_inv hx hc1
          refine ⟨_, indexAt_slice (tslice_run hu) hc2 hc3 s.w, ?_⟩
          obtain ⟨q1, q2⟩ := cur_iff hc1
          refine .ptr q1 (by omega) rfl fun _ => by simp
        · rw [if_neg hc] at h; cases h
      · cases h
    · rename_i id ver off
      split at h
      · rename_i len et ha
        by_cases hc : (s.σ.cur id ver && decide (j < len)) = true
        · rw [if_pos hc] at h
          simp only [Bool.and_eq_true, decide_eq_true_eq] at hc
          simp only [Option.map_eq_some_iff] at h
          obtain ⟨sz, hs, rfl⟩ := h
          have hv := ptr_inv hx hc.1
          subst hv
          refine ⟨_, indexAt_array (tarray_run ha) hs hc.2 s.w, ?_⟩
          obtain ⟨q1, q2⟩ := cur_iff hc.1
          exact .ptr q1 (by omega) rfl fun _ => rfl
        · rw [if_neg hc] at h; cases h
      · cases h
    · cases h

theorem index_ok {t : TypeId} {x i y : PV} {v u : Value} (hx : PVR s x v) (hy : PVR s i u) (h : indexD P t x i = some y) :
    ∃ z, (Instr.index t v u).run P s.w = .ok z s.w ∧ PVR s y z := by
  unfold indexD at h
  split at h
  · cases h
  · rename_i j hj
    obtain ⟨k, rfl⟩ := asNat_inv hj hy
    split at h
    · rename_i cs
      split at h
      · rename_i len et ha
        by_cases hc : j < len
        · rw [if_pos hc] at h
          simp only [Option.bind_eq_some_iff] at h
          obtain ⟨sz, hs, hp⟩ := h
          obtain ⟨arr, rfl, hcs⟩ := agg_inv hx
          obtain ⟨z, h1, h2⟩ := part_ok hcs hp
          refine ⟨z, ?_, h2⟩
          have h3 : (0 : Int) ≤ (j : Int) ∧ (j : Int) < (len : Int) := by omega
          simp only [Instr.index, asIntOf, Sem.run_bind, Sem.run_pure, Result.andThen_ok, under_of s.w (tarray_run ha), h3, and_self, if_true, tsize_run s.w hs, Int.toNat_natCast, h1]
        · rw [if_neg hc] at h; cases h
      · cases h
    · rename_i b
      by_cases hc : tstr P t = true
      · rw [if_pos hc] at h
        simp only [Option.map_eq_some_iff] at h
        obtain ⟨c, hc1, rfl⟩ := h
        have := str_inv hx; subst_vars
        refine ⟨_, ?_, .v (.int _ _)⟩
        simp [Instr.index, asIntOf, under_of s.w (tstr_run hc), hc1]
      · rw [if_neg hc] at h; cases h
    · cases h

/-- The bounds of a slice of a slice. -/
theorem bounds_ok {len cap l h m : Nat} {lo hi mx : Option Value} (hlo : (lo = none ∧ l = 0) ∨ ∃ k, lo = some (.int k (l : Int))) (hh : (hi = none ∧ h = len ∧ mx = none) ∨ ∃ k, hi = some (.int k (h : Int)))
    (hm : (mx = none ∧ m = cap) ∨ ∃ k, mx = some (.int k (m : Int))) (h1 : l ≤ h) (h2 : h ≤ m) (h3 : m ≤ cap) (w : World) :
    (Instr.sliceBounds true len cap lo hi mx).run P w = .ok (l, h, m) w := by
  have e1 : (0 : Int) ≤ (l : Int) := by omega
  have e2 : (0 : Int) ≤ (h : Int) := by omega
  have e3 : (0 : Int) ≤ (m : Int) := by omega
  rcases hlo with ⟨rfl, rfl⟩ | ⟨kl, rfl⟩ <;> rcases hh with ⟨rfl, rfl, rfl⟩ | ⟨kh, rfl⟩ <;> rcases hm with ⟨hmm, rfl⟩ | ⟨km, hmm⟩ <;> first | (cases hmm; done) | (try subst hmm)
  all_goals simp [Instr.sliceBounds, run_sliceBound, h1, h2, h3, e1, e2, e3]
  all_goals (try (rw [run_sliceBound _ _ _ _ _ (by omega) (by omega)]))
  all_goals (try simp)
  all_goals (try (rw [run_sliceBound _ _ _ _ _ (by omega) (by omega)]))
  all_goals (try simp)
  all_goals (try (rw [run_sliceBound _ _ _ _ _ (by omega) (by omega)]))
  all_goals (try simp)

theorem sl_slice {xs : List (List FV)} {o : Option Addr} {cap l h m sz : Nat} (hx : FVR s.w s.imm (.sl xs) (.slice o xs.length cap)) (h1 : l ≤ h) (h2 : h ≤ xs.length) (h3 : h ≤ m) (h4 : m ≤ cap)
    (h5 : ∀ y, xs[l]? = some y → y.length = sz) : FVR s.w s.imm (.sl ((xs.take h).drop l)) (.slice (if m = l then o else o.map (·.add (l * sz))) (h - l) (m - l)) := by
  have hlen : ((xs.take h).drop l).length = h - l := by simp; omega
  generalize hv : Value.slice o xs.length cap = v at hx
  cases hx with
  | nil =>
    simp only [Value.slice.injEq, List.length_nil] at hv
    obtain ⟨rfl, _, rfl⟩ := hv
    have : m = l := by simp at h2; omega
    subst this
    simp only [List.length_nil, Nat.le_zero_eq] at h2
    subst h2
    have : m = 0 := by omega
    subst this
    simpa using FVR.nil
  | empty a cap' =>
    simp only [Value.slice.injEq, List.length_nil] at hv
    obtain ⟨rfl, _, rfl⟩ := hv
    simp only [List.length_nil, Nat.le_zero_eq] at h2
    subst h2
    have hl : l = 0 := by omega
    subst hl
    simp only [List.take_nil, List.drop_nil]
    by_cases hml : m = 0
    · rw [if_pos hml]; exact FVR.empty _ _
    · rw [if_neg hml]; exact FVR.empty _ _
  | sl xs b off cap' sz' vals himm hcap hsz hcell hval =>
    simp only [Value.slice.injEq] at hv
    obtain ⟨rfl, _, rfl⟩ := hv
    by_cases hml : m = l
    · have hl : h = l := by omega
      subst hl
      have : (xs.take h).drop h = [] := by simp
      rw [this, if_pos hml]
      have := FVR.sl (w := s.w) (Imm := s.imm) [] b off (m - h) sz' vals himm (by simp) (by simp) (by simp) (by simp)
      simpa using this
    · rw [if_neg hml]
      simp only [Option.map_some, addr_add]
      rw [← hlen]
      refine FVR.sl _ b (off + l * sz) (m - l) sz' (fun i j => vals (l + i) j) himm (by omega) (fun e he => hsz e (List.mem_of_mem_take (List.mem_of_mem_drop he))) (fun i j hi hj => ?_) (fun i j e x he hj => ?_)
      · have hll : l < xs.length := by simp at hi; omega
        have hszz : sz' = sz := by
          rw [← hsz xs[l] (List.getElem_mem hll)]
          exact h5 _ (List.getElem?_eq_getElem hll)
        subst hszz
        have := hcell (l + i) j (by simp at hi; omega) hj
        rw [← this]
        congr 2
        rw [Nat.add_mul]; omega
      · rw [List.getElem?_drop, List.getElem?_take] at he
        split at he
        · exact hval _ j e x he hj
        · cases he

theorem full_fvr {xs : List (List FV)} {v : Value} (h : PVR s (.full xs) v) : PVR s (.v (.sl xs)) v := by
  cases h with
  | full h => exact .v h

theorem sl_inv {xs : List (List FV)} {v : Value} (h : PVR s (.v (.sl xs)) v) : ∃ o cap, v = .slice o xs.length cap ∧ xs.length ≤ cap ∧ FVR s.w s.imm (.sl xs) (.slice o xs.length cap) := by
  cases h with
  | v h =>
    cases h with
    | nil => exact ⟨none, 0, rfl, Nat.le_refl _, .nil⟩
    | empty a cap => exact ⟨_, cap, rfl, Nat.zero_le _, .empty a cap⟩
    | sl xs b off cap sz vals himm hcap hsz hcell hval => exact ⟨_, cap, rfl, hcap, .sl xs b off cap sz vals himm hcap hsz hcell hval⟩

def OptR (s : St) : Option PV → Option Value → Prop
  | none, none => True
  | some x, some v => PVR s x v
  | _, _ => False

theorem slice_ok {t : TypeId} {x y : PV} {v : Value} {lo hi mx : Option PV} {lo' hi' mx' : Option Value} (hx : PVR s x v) (h1 : OptR s lo lo') (h2 : OptR s hi hi') (h3 : OptR s mx mx')
    (h : sliceD P t x lo hi mx = some y) : ∃ z, (Instr.sliceAt t v lo' hi' mx').run P s.w = .ok z s.w ∧ PVR s y z := by
  unfold sliceD at h
  simp only at h
  split at h
  · rename_i xs
    split at h
    · cases h
    · rename_i sz hsz
      simp only [Option.bind_eq_some_iff] at hsz
      obtain ⟨et, hu, hs⟩ := hsz
      have hu' := tslice_run hu
      have hel : P.elem t = et := by simp [Program.elem, hu']
      obtain ⟨o, cap, rfl, hcap, hf⟩ := sl_inv hx
      split at h
      · rename_i l h' hl hh
        by_cases hc : l ≤ h' ∧ h' ≤ xs.length ∧ elemLen xs l sz = true
        · rw [if_pos hc] at h
          obtain ⟨c1, c2, c3⟩ := hc
          have c3' : ∀ y, xs[l]? = some y → y.length = sz := fun y hy => by simpa [elemLen, hy] using c3
          have hlo : (lo' = none ∧ l = 0) ∨ ∃ k, lo' = some (.int k (l : Int)) := by
            cases lo with
            | none => cases lo' with
              | none => simp at hl; exact .inl ⟨rfl, hl.symm⟩
              | some _ => exact h1.elim
            | some lo => cases lo' with
              | none => exact h1.elim
              | some lo' =>
                obtain ⟨k, rfl⟩ := asNat_inv hl h1
                exact .inr ⟨k, rfl⟩
          have hrun : ∀ m, (Instr.sliceBounds true xs.length cap lo' hi' mx').run P s.w = .ok (l, h', m) s.w →
              (Instr.sliceAt t (.slice o xs.length cap) lo' hi' mx').run P s.w = .ok (.slice (if m = l then o else o.map (·.add (l * sz))) (h' - l) (m - l)) s.w := fun m hb => by
            rw [run_sliceAt_slice s.w t _ lo' hi' mx' (by rw [hel]; exact hu'), run_slice_any s.w t o xs.length cap (by rw [hel]; exact hu') lo' hi' mx', hb]
            simp only [Result.andThen_ok, hel, tsize_run s.w hs, sliced]
          split at h
          · cases h
            have hmx : mx' = none := by cases mx' with
              | none => rfl
              | some _ => exact h3.elim
            subst hmx
            have hhi : (hi' = none ∧ h' = xs.length ∧ (none : Option Value) = none) ∨ ∃ k, hi' = some (.int k (h' : Int)) := by
              cases hi with
              | none => cases hi' with
                | none => simp at hh; exact .inl ⟨rfl, hh.symm, rfl⟩
                | some _ => exact h2.elim
              | some hi => cases hi' with
                | none => exact h2.elim
                | some hi' =>
                  obtain ⟨k, rfl⟩ := asNat_inv hh h2
                  exact .inr ⟨k, rfl⟩
            exact ⟨_, hrun cap (bounds_ok hlo hhi (.inl ⟨rfl, rfl⟩) c1 (by omega) (Nat.le_refl _) s.w), .v (sl_slice hf c1 c2 (by omega) (Nat.le_refl _) c3')⟩
          · rename_i m
            by_cases hm : asNat m = some h' ∧ l < h' ∧ hi.isSome = true
            · rw [if_pos hm] at h; cases h
              cases mx' with
              | none => exact h3.elim
              | some mx' =>
                obtain ⟨k, rfl⟩ := asNat_inv hm.1 h3
                cases hi with
                | none => exact absurd hm.2.2 (by simp)
                | some hi =>
                  cases hi' with
                  | none => exact h2.elim
                  | some hi' =>
                    obtain ⟨k2, rfl⟩ := asNat_inv hh h2
                    refine ⟨_, hrun h' (bounds_ok hlo (.inr ⟨k2, rfl⟩) (.inr ⟨k, rfl⟩) c1 (Nat.le_refl _) (by omega) s.w), ?_⟩
                    have hfv := sl_slice hf c1 c2 (Nat.le_refl _) (by omega) c3'
                    have hne : ¬ h' = l := by omega
                    simp only [hne, if_false] at hfv ⊢
                    have hlen : ((xs.take h').drop l).length = h' - l := by simp; omega
                    cases o with
                    | none =>
                      generalize hv : Value.slice none xs.length cap = v at hf
                      cases hf with
                      | nil => simp at c2; omega
                      | empty => simp at hv
                      | sl => simp at hv
                    | some o =>
                      generalize hv : Value.slice (some o) xs.length cap = v at hf
                      cases hf with
                      | nil => simp at hv
                      | empty => simp at c2; omega
                      | sl xs b off cap' sz' vals himm hcap hsz hcell hval =>
                        simp only [Value.slice.injEq, Option.some.injEq] at hv
                        obtain ⟨rfl, _, _⟩ := hv
                        simp only [Option.map_some, addr_add] at hfv ⊢
                        rw [← hlen] at hfv ⊢
                        exact .full hfv
            · rw [if_neg hm] at h; cases h
        · rw [if_neg hc] at h; cases h
      · cases h
  · cases h

end Go.Dn
