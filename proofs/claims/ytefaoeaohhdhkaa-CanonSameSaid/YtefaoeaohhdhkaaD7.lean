/- Elements, numbers, comparisons, slices of slices. -/
import Derived.Test.YtefaoeaohhdhkaaD6
set_option linter.unusedVariables false
set_option linter.unusedSimpArgs false
namespace Go.Dn
open Go

variable {X : Ctx} {s : St} {n : Nat} {e : Env} {a : Act} {P : Program}

theorem int_inv {k : IntKind} {m : Int} {v : Value} (h : PVR s (.v (.int k m)) v) : v = .int k m := by cases h with | v h => cases h; rfl
theorem bool_inv {b : Bool} {v : Value} (h : PVR s (.v (.bool b)) v) : v = .bool b := by cases h with | v h => cases h; rfl
theorem str_inv {b : ByteArray} {v : Value} (h : PVR s (.v (.str b)) v) : v = .string b := by cases h with | v h => cases h; rfl
theorem nils_inv {v : Value} (h : PVR s .nils v) : v = .slice none 0 0 := by cases h; rfl

theorem buf_inv {id len sz : Nat} {v : Value} (h : PVR s (.buf id len sz) v) (hc : s.σ.cur id (len * sz) = true) :
    ∃ cap cs el fr, v = .slice (some ⟨s.ι id, 0, none⟩) len cap ∧ len ≤ cap ∧ s.w.heap[s.ι id]? = some (.cells cs el fr) ∧ cs.size = cap * sz ∧ cap ≤ maxLen := by
  cases h with
  | buf hb hv ho hk => exact hk (cur_iff hc).2

theorem tfields_run {t : TypeId} {l : List (String × Nat × TypeId)} (h : tfields P t = some l) : ∃ fs, P.underlying t = some (.struct fs) ∧ P.stoodInHeld t = false ∧ l = fs.toList.map fun f => (f.name, f.offset, f.type) := by
  unfold tfields at h
  split at h
  · rename_i fs hu
    by_cases hs : P.stoodInHeld t = true
    · rw [if_pos hs] at h; cases h
    · rw [if_neg hs] at h; cases h
      exact ⟨fs, hu, by simpa using hs, rfl⟩
  · cases h

theorem eqF_ok {eq : TypeId → PV → PV → Option Bool} {d : Nat} (ih : ∀ {t : TypeId} {x y : PV} {r : Bool} {v u : Value}, eq t x y = some r → PVR s x v → PVR s y u → ∀ k, d ≤ k → (Op.equalIn k t v u).run P s.w = .ok r s.w) :
    ∀ {fs : List Field} {xs ys : List PV} {cs ds : Array Value} {r : Bool}, eqFields P eq xs ys (fs.map fun f => (f.name, f.offset, f.type)) = some r → CellsR s xs cs → CellsR s ys ds →
    ∀ k, d ≤ k → (Op.eqFields k cs ds fs).run P s.w = .ok r s.w
  | [], xs, ys, cs, ds, r, h, _, _ => by
    intro k _
    simp [eqFields] at h; subst h
    simp [Op.eqFields]
  | f :: fs, xs, ys, cs, ds, r, h, hx, hy => by
    intro k hk
    simp only [List.map_cons, eqFields] at h
    split at h
    · simp at h
    · rename_i hn
      split at h
      · rename_i a b ha hb
        simp only [Option.bind_eq_some_iff, Option.some.injEq] at h
        obtain ⟨q, hq, z, hz, rfl⟩ := h
        obtain ⟨va, h1, h2⟩ := part_ok hx ha
        obtain ⟨vb, h3, h4⟩ := part_ok hy hb
        have h5 := ih hq h2 h4 k hk
        have h6 := eqF_ok ih hz hx hy k hk
        simp only [Op.eqFields, ne_eq, hn, not_false_eq_true, if_true, Sem.run_bind, h1, h3, h5, Result.andThen_ok]
        cases q
        · simp
        · simpa using h6
      · simp at h


theorem eq_ok : ∀ (d : Nat) {t : TypeId} {x y : PV} {r : Bool} {v u : Value}, eqD P d t x y = some r → PVR s x v → PVR s y u → ∀ k, d ≤ k → (Op.equalIn k t v u).run P s.w = .ok r s.w
  | 0, _, _, _, _, _, _, h, _, _ => by simp [eqD] at h
  | d + 1, t, x, y, r, v, u, h, hv, hu => by
    intro k hk
    obtain ⟨k, rfl⟩ : ∃ m, k = m + 1 := ⟨k - 1, by omega⟩
    unfold eqD at h
    split at h
    · have := bool_inv hv; have := bool_inv hu; subst_vars
      split at h
      · rename_i hty; simp at h; subst h
        exact run_equalIn_bool' s.w k t _ _ hty
      · simp at h
    · have := int_inv hv; have := int_inv hu; subst_vars
      split at h
      · rename_i kk hty
        split at h
        · rename_i hkk; subst hkk; simp at h; subst h
          exact run_equalIn_int s.w k t _ _ _ _ hty
        · simp at h
      · simp at h
    · have := str_inv hv; have := str_inv hu; subst_vars
      split at h
      · rename_i hty; simp at h; subst h
        simp [Op.equalIn, under_of s.w hty]
      · simp at h
    · simp only [Option.bind_eq_some_iff] at h
      obtain ⟨l, hl, hf⟩ := h
      obtain ⟨fs, hfs, hst, rfl⟩ := tfields_run hl
      obtain ⟨xs, rfl, hx⟩ := agg_inv hv
      obtain ⟨ys, rfl, hy⟩ := agg_inv hu
      have hfo : P.fieldsOf t = fs := by simp [Program.fieldsOf, hfs]
      rw [run_equalIn_struct (P := P) s.w k t xs ys (by rw [hfo]; exact hfs) hst, hfo]
      exact eqF_ok (fun h1 h2 h3 => eq_ok d h1 h2 h3) hf hx hy k (by omega)
    · simp at h
theorem intBin_ok {op : BinOp} {k : IntKind} {x y : Int} {r : FV} (h : intBin op k x y = some r) (t : TypeId) :
    ∃ u, (∀ w, (binOp op t (.int k x) (.int k y)).run P w = .ok u w) ∧ PVR s (.v r) u := by
  unfold intBin at h
  split at h
  case h_4 =>
    by_cases hy : y = 0
    · rw [if_pos hy] at h; cases h
    · rw [if_neg hy] at h; cases h
      refine ⟨_, fun w => ?_, .v (.int _ _)⟩
      simp [binOp, Op.intDiv, hy]
  case h_5 =>
    by_cases hy : y = 0
    · rw [if_pos hy] at h; cases h
    · rw [if_neg hy] at h; cases h
      refine ⟨_, fun w => ?_, .v (.int _ _)⟩
      simp [binOp, Op.intDiv, hy]
  case h_1 => cases h; refine ⟨_, fun w => ?_, .v (.int _ _)⟩; simp [binOp, Op.intArith]
  case h_2 => cases h; refine ⟨_, fun w => ?_, .v (.int _ _)⟩; simp [binOp, Op.intArith]
  case h_3 => cases h; refine ⟨_, fun w => ?_, .v (.int _ _)⟩; simp [binOp, Op.intArith]
  case h_6 => cases h; refine ⟨_, fun w => ?_, .v (.int _ _)⟩; simp [binOp, Op.intBits]
  case h_7 => cases h; refine ⟨_, fun w => ?_, .v (.int _ _)⟩; simp [binOp, Op.intBits]
  case h_8 => cases h; refine ⟨_, fun w => ?_, .v (.int _ _)⟩; simp [binOp, Op.intBits]
  case h_9 => cases h; refine ⟨_, fun w => ?_, .v (.int _ _)⟩; simp [binOp, Op.intBits]
  case h_10 => cases h; refine ⟨_, fun w => ?_, .v (.bool _)⟩; simp [binOp, Op.intCmp]
  case h_11 => cases h; refine ⟨_, fun w => ?_, .v (.bool _)⟩; simp [binOp, Op.intCmp]
  case h_12 => cases h; refine ⟨_, fun w => ?_, .v (.bool _)⟩; simp [binOp, Op.intCmp]
  case h_13 => cases h; refine ⟨_, fun w => ?_, .v (.bool _)⟩; simp [binOp, Op.intCmp]
  case h_14 => cases h; refine ⟨_, fun w => ?_, .v (.bool _)⟩; simp [binOp, Op.intCmp]
  case h_15 => cases h; refine ⟨_, fun w => ?_, .v (.bool _)⟩; simp [binOp, Op.intCmp]
  all_goals cases h

theorem eqNil (d : Nat) {t el : TypeId} (hu : P.underlying t = some (.slice el)) (o : Option Addr) (l c : Nat) (w : World) :
    (Op.equalIn (d + 1) t (.slice o l c) (.slice none 0 0)).run P w = .ok o.isNone w := by
  cases o <;> simp [Op.equalIn, under_of w hu]

theorem run_eql_of {t : TypeId} {v u : Value} {r : Bool} {w : World} (h : (Op.equalIn 10000 t v u).run P w = .ok r w)
    (hv : (∃ a b, v = .bool a ∧ u = .bool b) ∨ (∃ a b, v = .agg a ∧ u = .agg b) ∨ (∃ o l c o' l' c', v = .slice o l c ∧ u = .slice o' l' c')) :
    (binOp .eql t v u).run P w = .ok (.bool r) w ∧ (binOp .neq t v u).run P w = .ok (.bool (!r)) w := by
  have h' : (Op.equal t v u).run P w = .ok r w := h
  rcases hv with ⟨a, b, rfl, rfl⟩ | ⟨a, b, rfl, rfl⟩ | ⟨o, l, c, o', l', c', rfl, rfl⟩ <;> simp only [binOp, Sem.run_bind, h', Result.andThen_ok, Sem.run_pure, and_self]

theorem bin_ok {op : BinOp} {t : TypeId} {x y : PV} {r : FV} {v u : Value} (hx : PVR s x v) (hy : PVR s y u) (h : binD P s.σ op t x y = some r) (o1 o2 : Operand) :
    ∃ z, (do eqGuard op t o1 o2 v u; binOp op t v u : Sem Value).run P s.w = .ok z s.w ∧ PVR s (.v r) z := by
  unfold binD at h
  split at h
  · rename_i k a k' b
    have := int_inv hx; have := int_inv hy; subst_vars
    have hg : (eqGuard op t o1 o2 (.int k a) (.int k' b)).run P s.w = .ok () s.w := by cases op <;> simp [eqGuard]
    simp only [Sem.run_bind, hg, Result.andThen_ok]
    split at h
    · by_cases hb : b < 0
      · rw [if_pos hb] at h; cases h
      · rw [if_neg hb] at h; cases h
        refine ⟨_, ?_, .v (.int _ _)⟩
        simp [binOp, Op.shift, hb]
    · by_cases hb : b < 0
      · rw [if_pos hb] at h; cases h
      · rw [if_neg hb] at h; cases h
        refine ⟨_, ?_, .v (.int _ _)⟩
        simp [binOp, Op.shift, hb]
    · by_cases hk : k = k'
      · subst hk
        rw [if_pos rfl] at h
        obtain ⟨z, h1, h2⟩ := intBin_ok (s := s) (P := P) h t
        exact ⟨z, h1 s.w, h2⟩
      · rw [if_neg hk] at h; cases h
  · rename_i a b
    have := str_inv hx; have := str_inv hy; subst_vars
    have hg : (eqGuard op t o1 o2 (.string a) (.string b)).run P s.w = .ok () s.w := by cases op <;> simp [eqGuard]
    simp only [Sem.run_bind, hg, Result.andThen_ok]
    split at h
    · cases h; refine ⟨_, ?_, .v (.bool _)⟩; simp [binOp, Op.stringOp]
    · cases h; refine ⟨_, ?_, .v (.bool _)⟩; simp [binOp, Op.stringOp]
    · cases h
  · have := nils_inv hy; subst_vars
    have key : ∀ b, isNil s.σ x = some b → ∃ o l c, v = .slice o l c ∧ o.isNone = b := by
      intro b hb
      unfold isNil at hb
      split at hb
      · cases hb; exact ⟨_, _, _, nils_inv hx, rfl⟩
      · cases hb
        cases hx with
        | v hx => cases hx with | sl => exact ⟨_, _, _, rfl, rfl⟩
      · rename_i id len sz
        by_cases hc : s.σ.cur id (len * sz) = true
        · rw [if_pos hc] at hb; cases hb
          obtain ⟨cap, _, _, _, h1, _⟩ := buf_inv hx hc
          exact ⟨_, _, _, h1, rfl⟩
        · rw [if_neg hc] at hb; cases hb
      · cases hb
    split at h
    · rename_i el hel
      simp only [Option.map_eq_some_iff] at h
      obtain ⟨b, hb, rfl⟩ := h
      obtain ⟨o, l, c, rfl, rfl⟩ := key b hb
      have hg : (eqGuard .eql t o1 o2 (.slice o l c) (.slice none 0 0)).run P s.w = .ok () s.w := by simp [eqGuard]
      refine ⟨_, ?_, .v (.bool _)⟩
      simp only [Sem.run_bind, hg, Result.andThen_ok]
      exact (run_eql_of (eqNil 9999 (tslice_run hel) o l c s.w) (.inr (.inr ⟨_, _, _, _, _, _, rfl, rfl⟩))).1
    · rename_i el hel
      simp only [Option.map_eq_some_iff] at h
      obtain ⟨b, hb, rfl⟩ := h
      obtain ⟨o, l, c, rfl, rfl⟩ := key b hb
      have hg : (eqGuard .neq t o1 o2 (.slice o l c) (.slice none 0 0)).run P s.w = .ok () s.w := by simp [eqGuard]
      refine ⟨_, ?_, .v (.bool _)⟩
      simp only [Sem.run_bind, hg, Result.andThen_ok]
      exact (run_eql_of (eqNil 9999 (tslice_run hel) o l c s.w) (.inr (.inr ⟨_, _, _, _, _, _, rfl, rfl⟩))).2
    · cases h
  · rename_i x' y' hn1 hn2 hn3
    by_cases hgf : guardFree P t x = true
    · rw [if_pos hgf] at h
      have main : ∀ r0, eqD P 6 t x y = some r0 → (∃ a b, x = .v (.bool a) ∧ y = .v (.bool b)) ∨ (∃ a b, x = .agg a ∧ y = .agg b) := by
        intro r0 h0
        unfold eqD at h0
        split at h0
        · exact .inl ⟨_, _, rfl, rfl⟩
        · first | exact (hn1 _ _ _ _ rfl rfl).elim | exact (hn2 _ _ _ _ rfl rfl).elim | exact (hn3 _ _ _ _ rfl rfl).elim | exact (x' _ _ _ _ rfl rfl).elim | exact (y' _ _ _ _ rfl rfl).elim
        · first | exact (hn1 _ _ rfl rfl).elim | exact (hn2 _ _ rfl rfl).elim | exact (hn3 _ _ rfl rfl).elim | exact (x' _ _ rfl rfl).elim | exact (y' _ _ rfl rfl).elim
        · exact .inr ⟨_, _, rfl, rfl⟩
        · cases h0
      have fin : ∀ r0, eqD P 6 t x y = some r0 → (op = .eql ∨ op = .neq) → (eqGuard op t o1 o2 v u).run P s.w = .ok () s.w ∧ (binOp .eql t v u).run P s.w = .ok (.bool r0) s.w ∧ (binOp .neq t v u).run P s.w = .ok (.bool (!r0)) s.w := by
        intro r0 h0 hop
        have heq := eq_ok 6 h0 hx hy 10000 (by omega)
        rcases main r0 h0 with ⟨a, b, rfl, rfl⟩ | ⟨a, b, rfl, rfl⟩
        · have := bool_inv hx; have := bool_inv hy; subst_vars
          exact ⟨by rcases hop with rfl | rfl <;> simp [eqGuard], run_eql_of heq (.inl ⟨_, _, rfl, rfl⟩)⟩
        · obtain ⟨xs, rfl, hx'⟩ := agg_inv hx
          obtain ⟨ys, rfl, hy'⟩ := agg_inv hy
          have hg : P.eqGuardType P.depth t = false := by simpa [guardFree] using hgf
          exact ⟨run_eqGuard_agg s.w _ t o1 o2 xs ys hg, run_eql_of heq (.inr (.inl ⟨_, _, rfl, rfl⟩))⟩
      split at h
      · simp only [Option.map_eq_some_iff] at h
        obtain ⟨b, hb, rfl⟩ := h
        obtain ⟨f1, f2, f3⟩ := fin b hb (.inl rfl)
        exact ⟨_, by simp only [Sem.run_bind, f1, Result.andThen_ok]; exact f2, .v (.bool _)⟩
      · simp only [Option.map_eq_some_iff] at h
        obtain ⟨b, hb, rfl⟩ := h
        obtain ⟨f1, f2, f3⟩ := fin b hb (.inr rfl)
        exact ⟨_, by simp only [Sem.run_bind, f1, Result.andThen_ok]; exact f3, .v (.bool _)⟩
      · cases h
    · rw [if_neg hgf] at h; cases h

theorem un_ok {op : UnOp} {x : PV} {r : FV} {v : Value} (hx : PVR s x v) (h : unD op x = some r) : ∃ z, (Op.unary op v).run P s.w = .ok z s.w ∧ PVR s (.v r) z := by
  unfold unD at h
  split at h
  · have := int_inv hx; subst_vars
    cases h; refine ⟨_, ?_, .v (.int _ _)⟩; simp [Op.unary, Op.intArith]
  · have := bool_inv hx; subst_vars
    cases h; refine ⟨_, ?_, .v (.bool _)⟩; simp [Op.unary]
  · cases h

theorem tint_run {t : TypeId} {k : IntKind} (h : tint P t = some k) : P.underlying t = some (.int k) := by
  unfold tint at h
  split at h
  · cases h; assumption
  · cases h

theorem conv_ok {src dst : TypeId} {x : PV} {r : FV} {v : Value} (hx : PVR s x v) (h : convD P src dst x = some r) : ∃ z, (convert src dst v).run P s.w = .ok z s.w ∧ PVR s (.v r) z := by
  unfold convD at h
  split at h
  · have := int_inv hx; subst_vars
    split at h
    · rename_i d k hs hd
      cases h; refine ⟨_, ?_, .v (.int _ _)⟩
      simp only [convert, Sem.run_bind, under_of s.w hs, under_of s.w (tint_run hd), Result.andThen_ok, Conv.intToInt, Sem.run_pure]
    · cases h
  · cases h

theorem len_ok {t ty : TypeId} {ts : Array TypeId} (hts : ts[0]? = some t) {x : PV} {r : FV} {v : Value} (hx : PVR s x v) (h : lenD P s.σ t x = some r) :
    ∃ z, (Builtin.len_ ts ty #[v]).run P s.w = .ok z s.w ∧ PVR s (.v r) z := by
  unfold lenD at h
  split at h
  · rename_i el hel
    have hu := tslice_run hel
    have main : ∀ (o : Option Addr) (l c : Nat), (Builtin.len_ ts ty #[.slice o l c]).run P s.w = .ok (.int .i64 l) s.w := fun o l c => by
      simp [Builtin.len_, hts, under_of s.w hu, goInt]
    split at h
    · cases h
      cases hx with
      | v hx => cases hx with
        | nil => exact ⟨_, main _ _ _, .v (.int _ _)⟩
        | empty => exact ⟨_, main _ _ _, .v (.int _ _)⟩
        | sl => exact ⟨_, main _ _ _, .v (.int _ _)⟩
    · cases h
      cases hx with
      | full => exact ⟨_, main _ _ _, .v (.int _ _)⟩
    · cases h
      have := nils_inv hx; subst_vars
      exact ⟨_, main _ _ _, .v (.int _ _)⟩
    · rename_i id k sz
      by_cases hc : s.σ.cur id (k * sz) = true
      · rw [if_pos hc] at h; cases h
        obtain ⟨cap, _, _, _, rfl, _⟩ := buf_inv hx hc
        exact ⟨_, main _ _ _, .v (.int _ _)⟩
      · rw [if_neg hc] at h; cases h
    · cases h
  · split at h
    · rename_i b
      by_cases hc : tstr P t = true
      · rw [if_pos hc] at h; cases h
        have := str_inv hx; subst_vars
        refine ⟨_, ?_, .v (.int _ _)⟩
        simp [Builtin.len_, hts, under_of s.w (tstr_run hc), goInt]
      · rw [if_neg hc] at h; cases h
    · cases h

/-- An element's address. -/
theorem indexAt_slice {t el : TypeId} {k : IntKind} {b off len cap i sz : Nat} (hu : P.underlying t = some (.slice el)) (hs : tsize P el = some sz) (hi : i < len) (w : World) :
    (Instr.indexAt t (.slice (some ⟨b, off, none⟩) len cap) (.int k (i : Int))).run P w = .ok (.pointer (some ⟨b, off + i * sz, none⟩)) w := by
  have h1 : (0 : Int) ≤ (i : Int) ∧ (i : Int) < (len : Int) := by omega
  have h2 : ¬ len ≤ i := by omega
  simp [Instr.indexAt, asIntOf, under_of w hu, tsize_run w hs, h1, h2, addr_add]

theorem indexAt_array {t el : TypeId} {k : IntKind} {b off len i sz : Nat} (hu : P.underlying t = some (.array len el)) (hs : tsize P el = some sz) (hi : i < len) (w : World) :
    (Instr.indexAt t (.pointer (some ⟨b, off, none⟩)) (.int k (i : Int))).run P w = .ok (.pointer (some ⟨b, off + i * sz, none⟩)) w := by
  have h1 : (0 : Int) ≤ (i : Int) ∧ (i : Int) < (len : Int) := by omega
  have h2 : ¬ len ≤ i := by omega
  simp [Instr.indexAt, asIntOf, under_of w hu, tsize_run w hs, h1, h2, addr_add, Instr.sureAddr]

/-- An immutable slice's element. -/
theorem sl_elem {xs : List (List FV)} {v : Value} (h : FVR s.w s.imm (.sl xs) v) {i : Nat} {e : List FV} (he : xs[i]? = some e) :
    ∃ b off cap sz, v = .slice (some ⟨b, off, none⟩) xs.length cap ∧ e.length = sz ∧ (∀ e ∈ xs, e.length = sz) ∧ PVR s (.fptr e) (.pointer (some ⟨b, off + i * sz, none⟩)) := by
  cases h with
  | nil => simp at he
  | empty a cap => simp at he
  | sl xs b off cap sz vals himm hcap hsz hcell hval =>
    have hlt := (List.getElem?_eq_some_iff.1 he).1
    have hm : e ∈ xs := List.mem_of_getElem? he
    refine ⟨b, off, cap, sz, rfl, hsz e hm, hsz, .fptr himm fun j x hj => ?_⟩
    have hj' : j < sz := by rw [← hsz e hm]; exact (List.getElem?_eq_some_iff.1 hj).1
    exact ⟨_, hcell i j hlt hj', hval i j e x he hj⟩

end Go.Dn
