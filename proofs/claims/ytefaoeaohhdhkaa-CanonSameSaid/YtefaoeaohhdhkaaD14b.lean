/- Regions that draw their order: the text's order tells of every order. -/
import Derived.Test.YtefaoeaohhdhkaaD14
import Derived.CheckFast
set_option linter.unusedVariables false
set_option linter.unusedSimpArgs false
namespace Go.Dn
open Go

/-! ### What comes before -/
theorem one_bits {look : Nat → Nat} {o : Oper} {j : Nat} (h : (CheckFast.one look o).testBit j = true) :
    ∃ e ∈ o.after, Region.binds .any e = true ∧ (e.on = j ∨ (look e.on).testBit j = true) := by
  have key : ∀ (l : List Edge) (s : Nat), (l.foldl (fun s e => if Region.binds .any e then s ||| 2 ^ e.on ||| look e.on else s) s).testBit j = true →
      s.testBit j = true ∨ ∃ e ∈ l, Region.binds .any e = true ∧ (e.on = j ∨ (look e.on).testBit j = true) := by
    intro l
    induction l with
    | nil => intro s h; exact .inl h
    | cons e l ih =>
      intro s h
      rcases ih _ h with h | ⟨e', h1, h2⟩
      · simp only at h
        split at h
        · rename_i hb
          rw [Nat.testBit_or, Nat.testBit_or, Bool.or_eq_true, Bool.or_eq_true] at h
          rcases h with (h | h) | h
          · exact .inl h
          · rw [Nat.testBit_two_pow] at h
            exact .inr ⟨e, by simp, hb, .inl (by simpa using h)⟩
          · exact .inr ⟨e, by simp, hb, .inr h⟩
        · exact .inl h
      · exact .inr ⟨e', by simp [h1], h2⟩
  unfold CheckFast.one at h
  rw [← Array.foldl_toList] at h
  rcases key _ _ h with h | ⟨e, h1, h2⟩
  · simp at h
  · exact ⟨e, by simpa using h1, h2⟩

def befL (l : List Oper) (A : Array Nat) : Array Nat := l.foldl (fun acc o => acc.push (CheckFast.one (fun i => acc.getD i 0) o)) A

theorem befL_old : ∀ (l : List Oper) (A : Array Nat) (k : Nat), k < A.size → (befL l A).getD k 0 = A.getD k 0
  | [], _, _, _ => rfl
  | o :: l, A, k, hk => by
    have := befL_old l (A.push (CheckFast.one (fun i => A.getD i 0) o)) k (by simp; omega)
    have h2 : befL (o :: l) A = befL l (A.push (CheckFast.one (fun i => A.getD i 0) o)) := rfl
    rw [h2, this]
    simp [Array.getD_eq_getD_getElem?, Array.getElem?_push, Nat.ne_of_lt hk]

theorem befL_bits {j : Nat} : ∀ (l : List Oper) (A : Array Nat) (k : Nat) (o : Oper), l[k]? = some o → ((befL l A).getD (A.size + k) 0).testBit j = true →
    ∃ e ∈ o.after, Region.binds .any e = true ∧ (e.on = j ∨ ((befL l A).getD e.on 0).testBit j = true)
  | [], _, _, _, h, _ => by simp at h
  | o :: l, A, 0, o', h, hb => by
    simp at h
    subst h
    have h2 : befL (o :: l) A = befL l (A.push (CheckFast.one (fun i => A.getD i 0) o)) := rfl
    rw [h2, Nat.add_zero, befL_old _ _ _ (by simp)] at hb
    have h3 : (A.push (CheckFast.one (fun i => A.getD i 0) o)).getD A.size 0 = CheckFast.one (fun i => A.getD i 0) o := by simp [Array.getD_eq_getD_getElem?]
    rw [h3] at hb
    obtain ⟨e, h4, h5, h6⟩ := one_bits hb
    refine ⟨e, h4, h5, h6.imp id fun h6 => ?_⟩
    have hlt : e.on < A.size := by
      rcases Nat.lt_or_ge e.on A.size with h | h
      · exact h
      · simp [Array.getD_eq_getD_getElem?, Array.getElem?_eq_none h] at h6
    rw [befL_old _ _ _ hlt]
    exact h6
  | o :: l, A, k + 1, o', h, hb => by
    have h2 : befL (o :: l) A = befL l (A.push (CheckFast.one (fun i => A.getD i 0) o)) := rfl
    rw [h2] at hb ⊢
    refine befL_bits l _ k o' (by simpa using h) ?_
    have : (A.push (CheckFast.one (fun i => A.getD i 0) o)).size + k = A.size + (k + 1) := by simp; omega
    rw [this]
    exact hb

theorem before_eq (ops : Array Oper) : Region.before ops = befL ops.toList #[] := by
  unfold Region.before befL
  rw [← Array.foldl_toList]
  rfl

theorem before_bits {ops : Array Oper} {i j : Nat} {o : Oper} (ho : ops[i]? = some o) (h : ((Region.before ops).getD i 0).testBit j = true) :
    ∃ e ∈ o.after, Region.binds .any e = true ∧ (e.on = j ∨ ((Region.before ops).getD e.on 0).testBit j = true) := by
  rw [before_eq] at h ⊢
  exact befL_bits ops.toList #[] i o (by simpa using ho) (by simpa using h)

section
variable {X : Ctx} {n : Nat} {ops : Array Oper}

theorem drawOK_spec (h : drawOK ops = true) : Region.lexB .any ops = true ∧
    (∀ i o, ops[i]? = some o → isW o.op = true → oldOnly (Region.before ops) ops i = false) ∧
    ∀ i o, ops[i]? = some o → ∀ e ∈ o.after, Region.binds .any e = true → e.on < i := by
  unfold drawOK at h
  simp only [Bool.and_eq_true, List.all_eq_true, List.mem_range] at h
  obtain ⟨⟨h1, h2⟩, h3⟩ := h
  refine ⟨h1, fun i o ho hw => ?_, fun i o ho e he hb => ?_⟩
  · have := h3 i (Array.getElem?_eq_some_iff.1 ho).1
    rw [ho] at this
    simp only [hw, if_true, Bool.and_eq_true, Bool.not_eq_true'] at this
    exact this.1
  · have := h3 i (Array.getElem?_eq_some_iff.1 ho).1
    rw [ho] at this
    simp only [Bool.and_eq_true] at this
    have := Array.all_eq_true_iff_forall_mem.1 this.2 e he
    simpa [hb] using this

theorem bits_lt (ha : ∀ i o, ops[i]? = some o → ∀ e ∈ o.after, Region.binds .any e = true → e.on < i) {j : Nat} : ∀ (i : Nat), ((Region.before ops).getD i 0).testBit j = true → j < i := by
  intro i
  induction i using Nat.strongRecOn with
  | _ i ih =>
    intro h
    cases ho : ops[i]? with
    | none =>
      exfalso
      have hsz : (Region.before ops).size = ops.size := by
        rw [before_eq]
        have key : ∀ (l : List Oper) (A : Array Nat), (befL l A).size = A.size + l.length := by
          intro l
          induction l with
          | nil => intro A; rfl
          | cons o l ih =>
            intro A
            have h2 : befL (o :: l) A = befL l (A.push (CheckFast.one (fun i => A.getD i 0) o)) := rfl
            rw [h2, ih]
            simp
            omega
        rw [key]
        simp
      have : (Region.before ops)[i]? = none := Array.getElem?_eq_none (by rw [hsz]; exact Array.getElem?_eq_none_iff.1 ho)
      simp [Array.getD_eq_getD_getElem?, this] at h
    | some o =>
      obtain ⟨e, he, hb, h1⟩ := before_bits ho h
      have hlt := ha i o ho e he hb
      rcases h1 with h1 | h1
      · omega
      · have := ih e.on hlt h1
        omega

theorem lex_free : ∀ (fuel k : Nat) (L : Array Bool), Region.lexFrom .any ops fuel k L = true → ∀ j, k ≤ j → j < k + fuel →
    ∃ L' : Array Bool, (∀ m, j ≤ m → L'.getD m true = L.getD m true) ∧ Region.free .any ops L' j = true
  | 0, k, L, _, j, h1, h2 => by omega
  | fuel + 1, k, L, h, j, h1, h2 => by
    simp only [Region.lexFrom, Bool.and_eq_true] at h
    rcases Nat.eq_or_lt_of_le h1 with rfl | hlt
    · exact ⟨L, fun _ _ => rfl, h.1.2⟩
    · obtain ⟨L', h3, h4⟩ := lex_free fuel (k + 1) _ h.2 j hlt (by omega)
      exact ⟨L', fun m hm => by rw [h3 m hm, getD_set_ne true (by omega)], h4⟩

theorem apart_of (h : Region.lexB .any ops = true) {i j : Nat} {oi oj : Oper} (hi : ops[i]? = some oi) (hj : ops[j]? = some oj) (hlt : j < i) (hno : ∀ e ∈ oi.after, Region.binds .any e = true → e.on ≠ j) : oj.apart ops oi = true := by
  simp only [Region.lexB, Bool.and_eq_true] at h
  have hjs := (Array.getElem?_eq_some_iff.1 hj).1
  have his := (Array.getElem?_eq_some_iff.1 hi).1
  obtain ⟨L', h1, h2⟩ := lex_free _ _ _ h.2 j (Nat.zero_le _) (by omega)
  refine Region.free_spec hj h2 i oi hi (by omega) ?_ hno
  rw [h1 i (by omega)]
  simp [Array.getD_eq_getD_getElem?, his]

/-! ### One operation, and two that may come up either way -/
theorem sees_look {o : Oper} {e e' : Env} (h : ∀ t ∈ o.looksAt ops, e t = e' t) : sees e e' o.op.operands.toList := fun t ht => h t (by
  unfold Oper.looksAt
  rw [List.mem_append]
  exact .inl (List.mem_filterMap.2 ⟨.tmp t, ht, rfl⟩))

theorem wantedD_env {o : Oper} {e e' : Env} (h : ∀ t ∈ o.looksAt ops, e t = e' t) : wantedD ops e o = wantedD ops e' o := by
  unfold wantedD
  cases hg : o.guard with
  | none => rfl
  | some g =>
    obtain ⟨g, want⟩ := g
    simp only
    cases hd : (ops[g]?).bind (·.dst) with
    | none => rfl
    | some d =>
      simp only
      rw [h d (by unfold Oper.looksAt; rw [List.mem_append, hg]; simp [hd])]

theorem stepW_local {call : Call0} (hcp : CallPure X call) {base i : Nat} {o : Oper} {e e' : Env} {σ σ' : Heap} (h : stepW X call n ops base i o e σ = some (e', σ')) :
    ∃ x δ, e' = putD n e o.dst x ∧ σ' = appl σ δ ∧ (wantedD ops e o = some true → drawAsk X ops base i o e = true) ∧
      (∀ k en, δ = some (k, en) → wantedD ops e o = some true ∧ (k = base + i ∨ (isW o.op = true ∧ k ∈ touched X e o.op))) ∧
      ∀ e2 σ2, (∀ t ∈ o.looksAt ops, e t = e2 t) → (wantedD ops e o = some true → isRW o.op = true → ∀ k ∈ touched X e o.op, σ2.ent k = σ.ent k) →
        stepW X call n ops base i o e2 σ2 = some (putD n e2 o.dst x, appl σ2 δ) := by
  unfold stepW at h
  split at h
  · cases h
  · rename_i hn
    unfold stepO at h
    split at h
    · rename_i hw
      have hask : drawAsk X ops base i o e = true := by
        cases hd : drawAsk X ops base i o e with
        | true => rfl
        | false => exact absurd ⟨hw, hd⟩ hn
      simp only [Option.bind_eq_some_iff, Option.some.injEq, Prod.mk.injEq] at h
      obtain ⟨⟨x, σ1⟩, h1, rfl, rfl⟩ := h
      obtain ⟨δ, rfl, hk, hl⟩ := stepOp_local hcp hask h1
      refine ⟨x, δ, rfl, rfl, fun _ => hask, fun k en hkk => ⟨hw, hk k en hkk⟩, fun e2 σ2 he hσ => ?_⟩
      have hs := sees_look (ops := ops) he
      unfold stepW
      rw [← wantedD_env he, ← drawAsk_env hs, if_neg (by rw [hask]; simp)]
      unfold stepO
      rw [← wantedD_env he, hw]
      simp only
      rw [← stepOp_env hs, hl σ2 (hσ hw)]
      rfl
    · rename_i hw
      cases h
      refine ⟨.undef, none, rfl, rfl, fun h => (by rw [hw] at h; cases h), by simp, fun e2 σ2 he _ => ?_⟩
      unfold stepW
      rw [← wantedD_env he, if_neg (by rw [hw]; simp)]
      unfold stepO
      rw [← wantedD_env he, hw]
      rfl
    · cases h

theorem isW_isRW {op : Op} (h : isW op = true) : isRW op = true := by
  unfold isW at h
  unfold isRW
  split at h <;> simp_all

theorem isRW_cases {op : Op} (h : isRW op = true) : opKind op = .read ∨ opKind op = .write := by
  unfold isRW at h
  split at h <;> simp_all

theorem isW_kind {op : Op} : isW op = true ↔ opKind op = .write := by
  unfold isW
  split <;> simp_all

theorem unord_any {ops : Array Oper} {i j : Nat} {o : Oper} {p : Op → Bool} (hj : ops[j]? = some o) (hu : unord (Region.before ops) i j = true) (hp : p o.op = true) :
    ((List.range ops.size).any fun j => unord (Region.before ops) i j && (match ops[j]? with | some o => p o.op | none => false)) = true := by
  rw [List.any_eq_true]
  refine ⟨j, List.mem_range.2 (Array.getElem?_eq_some_iff.1 hj).1, ?_⟩
  rw [hj]
  simp [hu, hp]

theorem oldOnly_of {i j : Nat} {o : Oper} (hi : ops[i]? = some o) (hu : unord (Region.before ops) i j = true) (hp : isW o.op = true) : oldOnly (Region.before ops) ops j = true := by
  unfold oldOnly
  rw [List.any_eq_true]
  refine ⟨i, List.mem_range.2 (Array.getElem?_eq_some_iff.1 hi).1, ?_⟩
  rw [hi]
  simp [hu, hp]

theorem freshOnly_of {i j : Nat} {o : Oper} (hj : ops[j]? = some o) (hu : unord (Region.before ops) i j = true) (hp : isRW o.op = true) : freshOnly (Region.before ops) ops i = true := by
  unfold freshOnly
  rw [List.any_eq_true]
  refine ⟨j, List.mem_range.2 (Array.getElem?_eq_some_iff.1 hj).1, ?_⟩
  rw [hj]
  simp [hu, hp]

theorem unord_symm {bef : Array Nat} {i j : Nat} (h : unord bef i j = true) : unord bef j i = true := by
  unfold unord at h ⊢
  rw [Nat.max_comm, Nat.min_comm, bne_comm]
  exact h

theorem ask_read {base i : Nat} {o : Oper} {e : Env} (h : drawAsk X ops base i o e = true) (hr : opKind o.op = .read) {k : Nat} (hk : k ∈ touched X e o.op) :
    k < base ∨ (oldOnly (Region.before ops) ops i = false ∧ ((Region.before ops).getD i 0).testBit (k - base) = true) := by
  unfold drawAsk at h
  rw [hr] at h
  simp only [List.all_eq_true] at h
  have := h k hk
  simp only [Bool.or_eq_true, decide_eq_true_eq, Bool.and_eq_true, Bool.not_eq_true'] at this
  exact this.imp id fun h => h.1

theorem ask_write {base i : Nat} {o : Oper} {e : Env} (h : drawAsk X ops base i o e = true) (hr : opKind o.op = .write) {k : Nat} (hk : k ∈ touched X e o.op) :
    (k < base ∧ freshOnly (Region.before ops) ops i = false) ∨ (base ≤ k ∧ ((Region.before ops).getD i 0).testBit (k - base) = true) := by
  unfold drawAsk at h
  rw [hr] at h
  simp only [List.all_eq_true] at h
  have := h k hk
  simp only [Bool.or_eq_true, decide_eq_true_eq, Bool.and_eq_true, Bool.not_eq_true'] at this
  exact this.imp id fun h => h.1

/-- What one operation writes no other that may come up ahead of it looks at. -/
theorem key_read (hd : drawOK ops = true) {base i j : Nat} {oi oj : Oper} {ei ej : Env} (hi : ops[i]? = some oi) (hj : ops[j]? = some oj) (hu : unord (Region.before ops) i j = true)
    (hb : ((Region.before ops).getD i 0).testBit j = false) (hai : drawAsk X ops base i oi ei = true) (haj : drawAsk X ops base j oj ej = true) {k : Nat}
    (hk : k = base + j ∨ (isW oj.op = true ∧ k ∈ touched X ej oj.op)) (hri : isRW oi.op = true) (hki : k ∈ touched X ei oi.op) : False := by
  obtain ⟨_, hww, _⟩ := drawOK_spec hd
  rcases hk with rfl | ⟨hw, hk⟩
  · rcases isRW_cases hri with h | h
    · rcases ask_read hai h hki with h | ⟨_, h⟩
      · omega
      · rw [Nat.add_sub_cancel_left, hb] at h; cases h
    · rcases ask_write hai h hki with ⟨h, _⟩ | ⟨_, h⟩
      · omega
      · rw [Nat.add_sub_cancel_left, hb] at h; cases h
  · rcases ask_write haj (isW_kind.1 hw) hk with ⟨_, h⟩ | ⟨hge, _⟩
    · rw [freshOnly_of hi (unord_symm hu) hri] at h; cases h
    · rcases isRW_cases hri with h | h
      · rcases ask_read hai h hki with h | ⟨h, _⟩
        · omega
        · rw [oldOnly_of hj (unord_symm hu) hw] at h; cases h
      · have := hww i oi hi (isW_kind.2 h)
        rw [oldOnly_of hj (unord_symm hu) hw] at this
        cases this

theorem putD_ne {e : Env} {dst : Option Tmp} {x : PV} {t : Nat} (h : dst ≠ some t) : putD n e dst x t = e t := by
  unfold putD
  cases dst with
  | none => rfl
  | some d =>
    simp only
    split
    · simp only [upd]
      rw [if_neg (fun hh => h (by rw [hh]))]
    · rfl

theorem upd_comm {α : Type} (f : Nat → α) {i j : Nat} (x y : α) (h : i ≠ j) : upd (upd f i x) j y = upd (upd f j y) i x := by
  funext k
  simp only [upd]
  by_cases h1 : k = j
  · subst h1
    rw [if_pos rfl, if_neg (fun hh => h hh.symm), if_pos rfl]
  · rw [if_neg h1]
    by_cases h2 : k = i
    · rw [if_pos h2, if_pos h2]
    · rw [if_neg h2, if_neg h2, if_neg h1]

theorem putD_comm {e : Env} {d d' : Option Tmp} {x y : PV} (h : ∀ t, d = some t → d' ≠ some t) : putD n (putD n e d x) d' y = putD n (putD n e d' y) d x := by
  cases d with
  | none => rfl
  | some t =>
    cases d' with
    | none => rfl
    | some t' =>
      have hne : t ≠ t' := fun hh => h t rfl (by rw [hh])
      simp only [putD]
      by_cases h1 : t < n
      · by_cases h2 : t' < n
        · simp only [if_pos h1, if_pos h2]; exact upd_comm _ _ _ hne
        · simp only [if_pos h1, if_neg h2]
      · by_cases h2 : t' < n
        · simp only [if_neg h1, if_pos h2]
        · simp only [if_neg h1, if_neg h2]

theorem appl_ne {σ : Heap} {δ : Option (Nat × Ent)} {k : Nat} (h : ∀ k' en, δ = some (k', en) → k' ≠ k) : (appl σ δ).ent k = σ.ent k := by
  cases δ with
  | none => rfl
  | some p =>
    obtain ⟨k', en⟩ := p
    simp only [appl, Heap.put, upd]
    rw [if_neg (fun hh => h k' en rfl hh.symm)]

theorem appl_comm {σ : Heap} {δ δ' : Option (Nat × Ent)} (h : ∀ k en k' en', δ = some (k, en) → δ' = some (k', en') → k ≠ k') : appl (appl σ δ) δ' = appl (appl σ δ') δ := by
  cases δ with
  | none => rfl
  | some p =>
    cases δ' with
    | none => rfl
    | some p' =>
      obtain ⟨k, en⟩ := p
      obtain ⟨k', en'⟩ := p'
      simp only [appl, Heap.put]
      rw [upd_comm _ _ _ (h k en k' en' rfl rfl)]

theorem swap {call : Call0} (hcp : CallPure X call) (hd : drawOK ops = true) {base i j : Nat} {oi oj : Oper} (hi : ops[i]? = some oi) (hj : ops[j]? = some oj) (hlt : j < i)
    (hno : ∀ e ∈ oi.after, Region.binds .any e = true → e.on ≠ j) (hb : ((Region.before ops).getD i 0).testBit j = false)
    {e e1 e2 : Env} {σ σ1 σ2 : Heap} (h1 : stepW X call n ops base j oj e σ = some (e1, σ1)) (h2 : stepW X call n ops base i oi e1 σ1 = some (e2, σ2)) :
    ∃ e1' σ1', stepW X call n ops base i oi e σ = some (e1', σ1') ∧ stepW X call n ops base j oj e1' σ1' = some (e2, σ2) := by
  obtain ⟨hlex, _, ha⟩ := drawOK_spec hd
  obtain ⟨p1, p2, p3⟩ := Oper.apart_spec (apart_of hlex hi hj hlt hno)
  have hb' : ((Region.before ops).getD j 0).testBit i = false := by
    cases h : ((Region.before ops).getD j 0).testBit i with
    | false => rfl
    | true => have := bits_lt ha j h; omega
  have hu : unord (Region.before ops) i j = true := by
    unfold unord
    rw [Nat.max_eq_left (Nat.le_of_lt hlt), Nat.min_eq_right (Nat.le_of_lt hlt), hb]
    simp
    omega
  obtain ⟨xj, δj, rfl, rfl, aj, kj, lj⟩ := stepW_local hcp h1
  obtain ⟨xi, δi, rfl, rfl, ai, ki, li⟩ := stepW_local hcp h2
  have hei : ∀ t ∈ oi.looksAt ops, putD n e oj.dst xj t = e t := fun t ht => putD_ne fun hh => p1 t hh ht
  have hej : ∀ t ∈ oj.looksAt ops, e t = putD n e oi.dst xi t := fun t ht => (putD_ne fun hh => p3 t hh ht).symm
  have hij : ∀ k en, δj = some (k, en) → wantedD ops (putD n e oj.dst xj) oi = some true → isRW oi.op = true → k ∈ touched X (putD n e oj.dst xj) oi.op → False := fun k en hk hw hr hm => by
    obtain ⟨w, hk⟩ := kj k en hk
    exact key_read hd hi hj hu hb (ai hw) (aj w) hk hr hm
  have hji : ∀ k en, δi = some (k, en) → wantedD ops e oj = some true → isRW oj.op = true → k ∈ touched X e oj.op → False := fun k en hk hw hr hm => by
    obtain ⟨w, hk⟩ := ki k en hk
    exact key_read hd hj hi (unord_symm hu) hb' (aj hw) (ai w) hk hr hm
  have s1 := li e σ hei (fun hw hr k hk => (appl_ne fun k' en hh hke => hij k' en hh hw hr (hke ▸ hk)).symm)
  have s2 := lj (putD n e oi.dst xi) (appl σ δi) hej (fun hw hr k hk => appl_ne fun k' en hh hke => hji k' en hh hw hr (hke ▸ hk))
  refine ⟨_, _, s1, ?_⟩
  rw [s2, putD_comm (fun t ht hh => p2 t hh ht), appl_comm]
  intro k en k' en' hk hk' hkk
  subst hkk
  obtain ⟨wi, hki⟩ := ki k en hk
  obtain ⟨wj, hkj⟩ := kj k en' hk'
  rcases hki with hki | ⟨w1, w2⟩
  · rcases hkj with hkj | ⟨w3, w4⟩
    · omega
    · exact hji k en hk wj (isW_isRW w3) w4
  · exact hij k en' hk' wi (isW_isRW w1) w2

/-! ### Any order -/
def runs (X : Ctx) (call : Call0) (n : Nat) (ops : Array Oper) (base : Nat) : List (Nat × Oper) → Env → Heap → Option (Env × Heap)
  | [], e, σ => some (e, σ)
  | (i, o) :: l, e, σ => (stepW X call n ops base i o e σ).bind fun r => runs X call n ops base l r.1 r.2

theorem runDraw_runs {call : Call0} {base : Nat} : ∀ (l : List Oper) (i : Nat) (e : Env) (σ : Heap), runDraw X call n ops base i l e σ = runs X call n ops base (l.zipIdx i |>.map fun p => (p.2, p.1)) e σ
  | [], _, _, _ => rfl
  | o :: l, i, e, σ => by
    simp only [runDraw, List.zipIdx_cons, List.map_cons, runs]
    congr 1
    funext r
    exact runDraw_runs l (i + 1) r.1 r.2

def Closed (ops : Array Oper) (listed : Array Bool) : Prop := ∀ k, listed.getD k false = true → ∀ j, ((Region.before ops).getD k 0).testBit j = true → listed.getD j false = true

theorem getD_tf {listed : Array Bool} {i : Nat} (h : listed.getD i true = false) : listed.getD i false = false := by
  rcases Nat.lt_or_ge i listed.size with h' | h'
  · simpa [Array.getD_eq_getD_getElem?, h'] using h
  · simp [Array.getD_eq_getD_getElem?, Array.getElem?_eq_none h']

theorem bubble {call : Call0} (hcp : CallPure X call) (hd : drawOK ops = true) {base i : Nat} {oi : Oper} {post : List (Nat × Oper)} {r : Env × Heap} (hi : ops[i]? = some oi) :
    ∀ (pre : List (Nat × Oper)) (e : Env) (σ : Heap), (∀ p ∈ pre, ops[p.1]? = some p.2 ∧ p.1 < i ∧ (∀ e ∈ oi.after, Region.binds .any e = true → e.on ≠ p.1) ∧ ((Region.before ops).getD i 0).testBit p.1 = false) →
      runs X call n ops base (pre ++ (i, oi) :: post) e σ = some r → runs X call n ops base ((i, oi) :: (pre ++ post)) e σ = some r
  | [], _, _, _, h => h
  | (j, oj) :: pre, e, σ, hp, h => by
    simp only [List.cons_append, runs, Option.bind_eq_some_iff] at h
    obtain ⟨⟨e1, σ1⟩, h1, h2⟩ := h
    have := bubble hcp hd hi pre e1 σ1 (fun p hm => hp p (by simp [hm])) h2
    simp only [runs, Option.bind_eq_some_iff] at this
    obtain ⟨⟨e2, σ2⟩, h3, h4⟩ := this
    obtain ⟨q1, q2, q3, q4⟩ := hp (j, oj) (by simp)
    obtain ⟨e1', σ1', s1, s2⟩ := swap hcp hd hi q1 q2 q3 q4 h1 h3
    simp only [List.cons_append, runs, s1, s2, Option.bind_some]
    exact h4

theorem stepW_stepO {call : Call0} {base i : Nat} {o : Oper} {e : Env} {σ : Heap} {r : Env × Heap} (h : stepW X call n ops base i o e σ = some r) : stepO X call n ops base i o e σ = some r := by
  unfold stepW at h
  split at h
  · cases h
  · exact h

variable {Q : Exit → Act → World → Prop} {m : Nat}

theorem draw_any {call : Call0} (hcall : CallOK X call) (htame : CallTame call) (hcp : CallPure X call) (hd : drawOK ops = true) {rd : Option Nat} {base : Nat} {e' : Env} {σ' : Heap} :
    ∀ (len : Nat) (rem : List (Nat × Oper)) (listed : Array Bool) (s : St) (e : Env) (a : Act), rem.length = len → GlobOK X s → Inv s → EnvR s n e a →
      listed.size = ops.size → (∀ p ∈ rem, ops[p.1]? = some p.2 ∧ listed.getD p.1 true = false) → (∀ i, i < ops.size → listed.getD i true = false → ∃ p ∈ rem, p.1 = i) →
      rem.Pairwise (fun p q => p.1 < q.1) → Closed ops listed → (∀ p ∈ rem, s.σ.ent (base + p.1) = .none ∧ base + p.1 < s.σ.nx) →
      runs X call n ops base rem e s.σ = some (e', σ') → (∀ a' w' ι', Then s n a e' σ' a' w' ι' → Q .normal a' w') →
      wpAnyIn (Fw rd) m X.P .any ops Q len listed a s.w := by
  obtain ⟨hlex, hww, ha⟩ := drawOK_spec hd
  intro len
  induction len with
  | zero =>
    intro rem listed s e a hl hG hi he hsz hr1 hr2 _ _ _ h hQ
    have : rem = [] := List.length_eq_zero_iff.1 hl
    subst this
    refine ⟨?_, ?_⟩
    · refine List.eq_nil_iff_forall_not_mem.2 fun j hj => ?_
      obtain ⟨q1, o, q2, _⟩ := mem_ready.1 hj
      obtain ⟨p, hp, _⟩ := hr2 j (Array.getElem?_eq_some_iff.1 q2).1 q1
      cases hp
    · simp [runs] at h
      obtain ⟨rfl, rfl⟩ := h
      exact hQ a s.w s.ι ⟨hi, Ev.refl s, he, rfl⟩
  | succ len ih =>
    intro rem listed s e a hl hG hi he hsz hr1 hr2 hp hcl hf h hQ
    refine ⟨fun h0 => ?_, fun i hir => ?_⟩
    · exfalso
      cases rem with
      | nil => simp at hl
      | cons p rem =>
        obtain ⟨q1, q2⟩ := hr1 p (by simp)
        have : p.1 ∈ Region.ready .any ops listed := by
          refine mem_ready.2 ⟨q2, p.2, q1, fun e he hb => ?_⟩
          have hlt := ha _ _ q1 e he hb
          cases hc : listed.getD e.on false with
          | true => rfl
          | false =>
            exfalso
            have hes : e.on < ops.size := Nat.lt_trans hlt (Array.getElem?_eq_some_iff.1 q1).1
            have : listed.getD e.on true = false := by
              have h' : e.on < listed.size := by omega
              simpa [Array.getD_eq_getD_getElem?, h'] using hc
            obtain ⟨p', hp', he'⟩ := hr2 _ hes this
            rcases List.mem_cons.1 hp' with rfl | hp'
            · omega
            · have := List.rel_of_pairwise_cons hp hp'
              omega
        rw [h0] at this
        cases this
    · obtain ⟨q1, oi, q2, q3⟩ := mem_ready.1 hir
      obtain ⟨p, hpm, hpi⟩ := hr2 i (Array.getElem?_eq_some_iff.1 q2).1 q1
      obtain ⟨pre, post, rfl⟩ := List.append_of_mem hpm
      have hpo : p = (i, oi) := by
        obtain ⟨h1, _⟩ := hr1 p hpm
        rw [hpi, q2] at h1
        exact Prod.ext hpi (Option.some.inj h1).symm
      subst hpo
      have hlast : ∀ p ∈ pre, p.1 < i := fun p hp' => (List.pairwise_append.1 hp).2.2 p hp' (i, oi) (by simp)
      have hbits : ∀ j, ((Region.before ops).getD i 0).testBit j = true → listed.getD j false = true := fun j hj => by
        obtain ⟨ed, he1, he2, he3⟩ := before_bits q2 hj
        have := q3 ed he1 he2
        rcases he3 with rfl | he3
        · exact this
        · exact hcl _ this j he3
      have hb := bubble hcp hd q2 pre e s.σ (fun p hp' => by
        obtain ⟨w1, w2⟩ := hr1 p (by simp [hp'])
        have w3 := getD_tf w2
        refine ⟨w1, hlast p hp', fun e he1 he2 he3 => ?_, ?_⟩
        · have := q3 e he1 he2
          rw [he3, w3] at this
          cases this
        · cases hbb : ((Region.before ops).getD i 0).testBit p.1 with
          | false => rfl
          | true => rw [hbits _ hbb] at w3; cases w3) h
      simp only [runs, Option.bind_eq_some_iff] at hb
      obtain ⟨⟨e1, σ1⟩, h1, h2⟩ := hb
      have h1 := stepW_stepO h1
      have hT := stepO_tame htame h1
      obtain ⟨f1, f2⟩ := hf (i, oi) (by simp)
      have hne : ∀ p ∈ pre ++ post, p.1 ≠ i := fun p hp' => by
        rcases List.mem_append.1 hp' with h | h
        · exact Nat.ne_of_lt (hlast p h)
        · have := List.rel_of_pairwise_cons ((List.pairwise_append.1 hp).2.1) h
          exact Nat.ne_of_gt this
      have hmem : ∀ p ∈ pre ++ post, p ∈ pre ++ (i, oi) :: post := fun p hp' => by
        rcases List.mem_append.1 hp' with h | h <;> simp [h]
      have := stepO_ok (m := m) (Q := Q) (rd := rd) hcall hG hi he f1 f2 h1 (K := wpAnyIn (Fw rd) m X.P .any ops Q len (listed.setIfInBounds i true)) (fun a1 w1 ι1 ht => by
        refine ih (pre ++ post) _ ⟨w1, s.Y, σ1, ι1⟩ e1 a1 (by simp at hl ⊢; omega) (hG.mono ht.ev) ht.inv ht.env (by simpa using hsz) (fun p hp' => ?_) (fun k hk hkl => ?_) ?_ ?_ (fun p hp' => ?_) h2
          (fun a' w' ι' ht2 => hQ a' w' ι' ⟨ht2.inv, ht.ev.trans ht2.ev, ht2.env, ht2.defers.trans ht.defers⟩)
        · obtain ⟨w1, w2⟩ := hr1 p (hmem p hp')
          exact ⟨w1, by rw [getD_set_ne true (Ne.symm (hne p hp'))]; exact w2⟩
        · have hki : k ≠ i := by
            rintro rfl
            have : k < listed.size := by omega
            simp [Array.getD_eq_getD_getElem?, this] at hkl
          rw [getD_set_ne true (Ne.symm hki)] at hkl
          obtain ⟨p, hp1, hp2⟩ := hr2 k hk hkl
          refine ⟨p, ?_, hp2⟩
          rcases List.mem_append.1 hp1 with h | h
          · exact List.mem_append_left _ h
          · rcases List.mem_cons.1 h with rfl | h
            · exact absurd hp2.symm hki
            · exact List.mem_append_right _ h
        · rw [List.pairwise_append] at hp ⊢
          exact ⟨hp.1, (List.pairwise_cons.1 hp.2.1).2, fun a ha b hb => hp.2.2 a ha b (by simp [hb])⟩
        · intro k hk j hj
          by_cases hki : k = i
          · subst hki
            exact getD_set_true (hbits j hj)
          · rw [getD_set_ne false (Ne.symm hki)] at hk
            exact getD_set_true (hcl k hk j hj)
        · obtain ⟨g1, g2⟩ := hf p (hmem p hp')
          exact ⟨hT.2 _ g2 (by have := hne p hp'; simp; omega) g1, Nat.lt_of_lt_of_le g2 hT.1⟩)
      unfold wpOpIn
      rw [q2]
      exact this

def St.drawn (s : St) : St := ⟨{ s.w with drawn := s.w.drawn + 1 }, s.Y, s.σ, s.ι⟩

theorem drawn_ev (s : St) : Ev s s.drawn where
  Y := rfl
  size := Nat.le_refl _
  keep := fun _ _ _ => rfl
  live := fun id h _ => ⟨id, h, rfl⟩
  blk := fun id el cells lv h => ⟨cells, lv, h, Nat.le_refl _, fun _ => ⟨rfl, fun cs e fr h => ⟨cs, fr, h, rfl⟩⟩⟩
  loop := fun id fn e n ps as_ bo st pend h => ⟨⟨st, pend, h⟩, rfl⟩
  os := rfl
  tape := rfl
  output := rfl

theorem drawn_inv {s : St} (hi : Inv s) : Inv s.drawn :=
  ⟨fun id => entOK_mono (drawn_ev s) rfl rfl (hi.ent id), hi.inj, hi.notY, fun id el c h => ((drawn_ev s).imm _ (hi.fz id el c h)).1, hi.nx, hi.Ylt⟩

/-- **A region that draws its order.** -/
theorem draw_ok {s : St} {e : Env} {a : Act} {call : Call0} (hm : X.P.follows .mixedOrders = true) (hcall : CallOK X call) (htame : CallTame call) (hcp : CallPure X call) {rd : Option Nat} {id : Nat} {e' : Env} {σ' : Heap} (hd : drawOK ops = true) (hG : GlobOK X s) (hi : Inv s) (he : EnvR s n e a)
    (h : runDraw X call n ops s.σ.nx 0 ops.toList e ⟨s.σ.nx + ops.size, s.σ.ent⟩ = some (e', σ')) (hQ : ∀ a' w' ι', Then s n a e' σ' a' w' ι' → Q .normal a' w') :
    (Code.region id ops true).wpIn (Fw rd) m X.P Q a s.w := by
  refine wpIn_region_any hm ?_
  have ev : Ev s (s.more ops.size).drawn := (more_ev _).trans (drawn_ev _)
  rw [runDraw_runs] at h
  have := draw_any (m := m) (Q := Q) (rd := rd) hcall htame hcp hd (base := s.σ.nx) ops.size (ops.toList.zipIdx 0 |>.map fun p => (p.2, p.1)) (Array.replicate ops.size false) (s.more ops.size).drawn e a (by simp)
    (hG.mono ev) (drawn_inv (more_inv hi _)) (he.mono ev) (by simp)
    (fun p hp => by
      obtain ⟨q, hq, rfl⟩ := List.mem_map.1 hp
      have hq := List.mem_zipIdx_iff_getElem?.1 hq
      have hlt : q.2 < ops.size := by
        have := (List.getElem?_eq_some_iff.1 hq).1
        simpa using this
      exact ⟨by simpa using hq, by simp [Array.getD_eq_getD_getElem?, hlt]⟩)
    (fun i hi _ => ⟨(i, ops[i]), List.mem_map.2 ⟨(ops[i], i), List.mem_zipIdx_iff_getElem?.2 (by simp [hi]), rfl⟩, rfl⟩)
    (by
      rw [List.pairwise_map]
      have key : ∀ (l : List Oper) (k : Nat), (l.zipIdx k).Pairwise (fun p q => p.2 < q.2) := by
        intro l
        induction l with
        | nil => intro k; simp
        | cons o l ih =>
          intro k
          rw [List.zipIdx_cons, List.pairwise_cons]
          refine ⟨fun p hp => ?_, ih _⟩
          have := List.le_snd_of_mem_zipIdx hp
          simp only
          omega
      exact key _ _)
    (fun k hk => by
      exfalso
      simp only [Array.getD_eq_getD_getElem?] at hk
      rcases Nat.lt_or_ge k ops.size with h | h
      · simp [h] at hk
      · rw [Array.getElem?_eq_none (by simpa using h)] at hk; cases hk)
    (fun p hp => by
      obtain ⟨q, hq, rfl⟩ := List.mem_map.1 hp
      have hq := List.mem_zipIdx_iff_getElem?.1 hq
      have hlt : q.2 < ops.size := by
        have := (List.getElem?_eq_some_iff.1 hq).1
        simpa using this
      exact ⟨hi.nx _ (by simp only; omega), by simp only [St.drawn, St.more]; omega⟩)
    h (fun a' w' ι' ht => hQ a' w' ι' ⟨ht.inv, ev.trans ht.ev, ht.env, ht.defers⟩)
  exact this
end
end Go.Dn
