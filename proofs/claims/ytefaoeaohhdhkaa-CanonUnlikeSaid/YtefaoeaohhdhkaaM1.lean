/- Part 1 of what the row stands on. -/
import Derived.CheckFast
import Derived.RangeFuncRecord
import Derived.LoopNIn
import Derived.Below
import Derived.ChangeArms
import Derived.ChangeOld
import Derived.SizedLaws
import Derived.KernelRfl
import Derived.Test.YtefaoeaohhdhkaaM0
set_option linter.unusedVariables false
set_option linter.unusedSimpArgs false
namespace Go.Dn
open Go
theorem one_bits {look : Nat → Nat} {o : Oper} {j : Nat} (h : (CheckFast.one look o).testBit j = true) :
  ∃ e ∈ o.after, Region.binds .any e = true ∧ (e.on = j ∨ (look e.on).testBit j = true) := by
 have key : ∀ (l : List Edge) (s : Nat), (l.foldl (fun s e => if Region.binds .any e then s ||| 2 ^ e.on ||| look e.on else s) s).testBit j = true →
   s.testBit j = true ∨ ∃ e ∈ l, Region.binds .any e = true ∧ (e.on = j ∨ (look e.on).testBit j = true) := by
  intro l
  induction l with
  | nil => intro s h; exact .inl h
  | cons e l ih =>
   intro s h
   rcases ih _ h with h | ⟨e', h1, h2⟩
   ·simp only at h
    split at h
    ·rename_i hb;rw [Nat.testBit_or, Nat.testBit_or, Ym, Ym] at h
     rcases h with (h | h) | h
     ·exact .inl h
     ·rw [Nat.testBit_two_pow] at h;exact .inr ⟨e, by simp, hb, .inl (by simpa using h)⟩
     ·exact .inr ⟨e, by simp, hb, .inr h⟩
    ·exact .inl h
   ·exact .inr ⟨e', by simp [h1], h2⟩
 unfold CheckFast.one at h
 rw [← Y0Y] at h
 rcases key _ _ h with h | ⟨e, h1, h2⟩
 ·simp at h
 ·exact ⟨e, by simpa using h1, h2⟩
def befL (l : List Oper) (A : Array Nat) : Array Nat := l.foldl (fun acc o => acc.push (CheckFast.one (fun i => acc.getD i 0) o)) A
theorem befL_old : ∀ (l : List Oper) (A : Array Nat) (k : Nat), k < A.size → (befL l A).getD k 0 = A.getD k 0
 | [], _, _, _ => rfl
 | o :: l, A, k, hk => by
  have := befL_old l (A.push (CheckFast.one (fun i => A.getD i 0) o)) k (by simp; omega)
  have h2 : befL (o :: l) A = befL l (A.push (CheckFast.one (fun i => A.getD i 0) o)) := rfl
  rw [h2, this];simp [Y6, Array.getElem?_push, Nat.ne_of_lt hk]
theorem befL_bits {j : Nat} : ∀ (l : List Oper) (A : Array Nat) (k : Nat) (o : Oper), l[k]? = some o → ((befL l A).getD (A.size + k) 0).testBit j = true →
  ∃ e ∈ o.after, Region.binds .any e = true ∧ (e.on = j ∨ ((befL l A).getD e.on 0).testBit j = true)
 | [], _, _, _, h, _ => by simp at h
 | o :: l, A, 0, o', h, hb => by
  simp at h;subst h;have h2 : befL (o :: l) A = befL l (A.push (CheckFast.one (fun i => A.getD i 0) o)) := rfl
  rw [h2, Nat.add_zero, befL_old _ _ _ (by simp)] at hb
  have h3 : (A.push (CheckFast.one (fun i => A.getD i 0) o)).getD A.size 0 = CheckFast.one (fun i => A.getD i 0) o := by simp [Y6]
  rw [h3] at hb;obtain ⟨e, h4, h5, h6⟩ := one_bits hb
  refine ⟨e, h4, h5, h6.imp id fun h6 => ?_⟩
  have hlt : e.on < A.size := by
   rcases YD e.on A.size with h | h
   ·exact h
   ·simp [Y6, Yo h] at h6
  rw [befL_old _ _ _ hlt];exact h6
 | o :: l, A, k + 1, o', h, hb => by
  have h2 : befL (o :: l) A = befL l (A.push (CheckFast.one (fun i => A.getD i 0) o)) := rfl
  rw [h2] at hb ⊢;refine befL_bits l _ k o' (by simpa using h) ?_
  have : (A.push (CheckFast.one (fun i => A.getD i 0) o)).size + k = A.size + (k + 1) := by simp; omega
  rw [this];exact hb
theorem before_eq (ops : Array Oper) : Region.before ops = befL ops.toList #[] := by
 unfold Region.before befL
 rw [← Y0Y]
 rfl
theorem Z6U {ops : Array Oper} {i j : Nat} {o : Oper} (ho : ops[i]? = some o) (h : ((Region.before ops).getD i 0).testBit j = true) :
  ∃ e ∈ o.after, Region.binds .any e = true ∧ (e.on = j ∨ ((Region.before ops).getD e.on 0).testBit j = true) := by
 rw [before_eq] at h ⊢
 exact befL_bits ops.toList #[] i o (by simpa using ho) (by simpa using h)
section
variable {X : Ctx} {n : Nat} {ops : Array Oper}
theorem Z4N (h : Z24 ops = true) : Region.lexB .any ops = true ∧
  (∀ i o, ops[i]? = some o → isW o.op = true → Z2b (Region.before ops) ops i = false) ∧
  ∀ i o, ops[i]? = some o → ∀ e ∈ o.after, Region.binds .any e = true → e.on < i := by
 unfold Z24 at h
 simp only [Y9, YI, List.mem_range] at h
 obtain ⟨⟨h1, h2⟩, h3⟩ := h
 refine ⟨h1, fun i o ho hw => ?_, fun i o ho e he hb => ?_⟩
 ·have := h3 i (Array.getElem?_eq_some_iff.1 ho).1
  rw [ho] at this;simp only [hw, if_true, Y9, YT] at this;exact this.1
 ·have := h3 i (Array.getElem?_eq_some_iff.1 ho).1
  rw [ho] at this;simp only [Y9] at this;have := Array.all_eq_true_iff_forall_mem.1 this.2 e he
  simpa [hb] using this
theorem bits_lt (ha : ∀ i o, ops[i]? = some o → ∀ e ∈ o.after, Region.binds .any e = true → e.on < i) {j : Nat} : ∀ (i : Nat), ((Region.before ops).getD i 0).testBit j = true → j < i := by
 intro i
 induction i using Nat.strongRecOn with
 | _ i ih =>
  intro h;cases ho : ops[i]? with
  | none =>
   exfalso
   have hsz : (Region.before ops).size = ops.size := by
    rw [before_eq];have key : ∀ (l : List Oper) (A : Array Nat), (befL l A).size = A.size + l.length := by
     intro l
     induction l with
     | nil => intro A; rfl
     | cons o l ih =>
      intro A;have h2 : befL (o :: l) A = befL l (A.push (CheckFast.one (fun i => A.getD i 0) o)) := rfl
      rw [h2, ih]
      simp
      omega
    rw [key]
    simp
   have : (Region.before ops)[i]? = none := Yo (by rw [hsz]; exact Array.getElem?_eq_none_iff.1 ho)
   simp [Y6, this] at h
  | some o =>
   obtain ⟨e, he, hb, h1⟩ := Z6U ho h
   have hlt := ha i o ho e he hb
   rcases h1 with h1 | h1
   ·omega
   ·have := ih e.on hlt h1
    omega
theorem lex_free : ∀ (fuel k : Nat) (L : Array Bool), Region.lexFrom .any ops fuel k L = true → ∀ j, k ≤ j → j < k + fuel →
  ∃ L' : Array Bool, (∀ m, j ≤ m → L'.getD m true = L.getD m true) ∧ Region.free .any ops L' j = true
 | 0, k, L, _, j, h1, h2 => by omega
 | fuel + 1, k, L, h, j, h1, h2 => by
  simp only [Region.lexFrom, Y9] at h
  rcases Nat.eq_or_lt_of_le h1 with rfl | hlt
  ·exact ⟨L, fun _ _ => rfl, h.1.2⟩
  ·obtain ⟨L', h3, h4⟩ := lex_free fuel (k + 1) _ h.2 j hlt (by omega)
   exact ⟨L', fun m hm => by rw [h3 m hm, getD_set_ne true (by omega)], h4⟩
theorem apart_of (h : Region.lexB .any ops = true) {i j : Nat} {oi oj : Oper} (hi : ops[i]? = some oi) (hj : ops[j]? = some oj) (hlt : j < i) (hno : ∀ e ∈ oi.after, Region.binds .any e = true → e.on ≠ j) : oj.apart ops oi = true := by
 simp only [Region.lexB, Y9] at h
 have hjs := (Array.getElem?_eq_some_iff.1 hj).1
 have his := (Array.getElem?_eq_some_iff.1 hi).1
 obtain ⟨L', h1, h2⟩ := lex_free _ _ _ h.2 j (Yd _) (by omega)
 refine Region.free_spec hj h2 i oi hi (by omega) ?_ hno
 rw [h1 i (by omega)]
 simp [Y6, his]
theorem Z5v {o : Oper} {e e' : Env} (h : ∀ t ∈ o.looksAt ops, e t = e' t) : sees e e' o.op.operands.toList := fun t ht => h t (by
 unfold Oper.looksAt
 rw [Yq]
 exact .inl (List.mem_filterMap.2 ⟨.tmp t, ht, rfl⟩))
theorem Z0X {o : Oper} {e e' : Env} (h : ∀ t ∈ o.looksAt ops, e t = e' t) : Zg ops e o = Zg ops e' o := by
 unfold Zg
 cases hg : o.guard with
 | none => rfl
 | some g =>
  obtain ⟨g, want⟩ := g
  simp only;cases hd : (ops[g]?).bind (·.dst) with
  | none => rfl
  | some d =>
   simp only;rw [h d (by unfold Oper.looksAt; rw [Yq, hg]; simp [hd])]
def lookIds (X : Ctx) (e : Env) (op : Op) (k : Nat) : Prop := (isRW op = true ∧ k ∈ touched X e op) ∨ k ∈ frozen X e op
theorem Z4A {call : Zh} (hcp : Z1W X call) {base i : Nat} {o : Oper} {e e' : Env} {σ σ' : Heap} (hna : Z1h (Region.before ops) ops i = false) (hns : ¬(Zg ops e o = some true ∧ ZZ X ops base i o e = false)) (h : Z0B X call n ops base i o e σ = some (e', σ')) :
  ∃ x δ, e' = putD n e o.dst x ∧ σ' = appl σ δ ∧ (Zg ops e o = some true → ZU X ops base i o e = true) ∧
   (∀ k en, (k, en) ∈ δ → Zg ops e o = some true ∧ (k = base + i ∨ (isW o.op = true ∧ k ∈ touched X e o.op) ∨ k ∈ frozen X e o.op)) ∧
   ∀ e2 σ2, Stable ops e e2 → (∀ t ∈ o.looksAt ops, e t = e2 t) → (Zg ops e o = some true → ∀ k, lookIds X e o.op k → σ2.ent k = σ.ent k) →
    Z0B X call n ops base i o e2 σ2 = some (putD n e2 o.dst x, appl σ2 δ) := by
 unfold Z0B at h
 rw [if_neg hns] at h
 unfold Z0G at h
 split at h
 ·rename_i hw;have hask : ZZ X ops base i o e = true := by
   cases hd : ZZ X ops base i o e with
   | true => rfl
   | false => exact absurd ⟨hw, hd⟩ hns
  have hask0 : ZU X ops base i o e = true := by
   unfold ZZ at hask;rw [hna, Y0V] at hask;exact hask
  simp only [Y4, Y5, Y3] at h;obtain ⟨⟨x, σ1⟩, h1, rfl, rfl⟩ := h
  obtain ⟨δ, rfl, hk, hl⟩ := stepOp_local hcp hask0 h1
  refine ⟨x, δ, rfl, rfl, fun _ => hask0, fun k en hkk => ⟨hw, hk k en hkk⟩, fun e2 σ2 hst he hσ => ?_⟩
  have hs := Z5v (ops := ops) he
  unfold Z0B;rw [← Z0X he, ← Z44 hst hs, if_neg (by rw [hask]; simp)]
  unfold Z0G;rw [← Z0X he, hw];simp only;rw [← Z3t hs, hl σ2 (fun hr k hk => hσ hw k (.inl ⟨hr, hk⟩)) (fun k hk => hσ hw k (.inr hk))]
  rfl
 ·rename_i hw;cases h;refine ⟨.undef, [], rfl, rfl, fun h => (by rw [hw] at h; cases h), by simp, fun e2 σ2 _ he _ => ?_⟩
  unfold Z0B;rw [← Z0X he, if_neg (by rw [hw]; simp)]
  unfold Z0G;rw [← Z0X he, hw]
  rfl
 ·cases h
theorem isW_isRW {op : Op} (h : isW op = true) : isRW op = true := by
 unfold isW at h
 unfold isRW
 split at h <;> simp_all
theorem Z2n {op : Op} (h : isRW op = true) : Zd op = .read ∨ Zd op = .write := by
 unfold isRW at h
 split at h <;> simp_all
theorem Z5m {op : Op} : isW op = true ↔ Zd op = .write := by
 unfold isW
 split <;> simp_all
theorem Z5I {i j : Nat} {o : Oper} (hi : ops[i]? = some o) (hu : unord (Region.before ops) i j = true) (hp : isW o.op = true) : Z2b (Region.before ops) ops j = true := by
 unfold Z2b
 rw [List.any_eq_true]
 refine ⟨i, List.mem_range.2 (Array.getElem?_eq_some_iff.1 hi).1, ?_⟩
 rw [hi]
 simp [hu, hp]
theorem freshAt_of {i j : Nat} {o : Oper} {e : Env} {k : Nat} (hj : ops[j]? = some o) (hu : unord (Region.before ops) i j = true) (hp : isRW o.op = true) (h : Z1c X e (Region.before ops) ops i k = false) : rootOp ops o.op = true ∧ k ∉ Z1M X ops e o.op := by
 unfold Z1c at h
 rw [List.any_eq_false] at h
 have := h j (List.mem_range.2 (Array.getElem?_eq_some_iff.1 hj).1)
 rw [hj] at this
 simpa [hu, hp] using this
theorem Z13 {bef : Array Nat} {i j : Nat} (h : unord bef i j = true) : unord bef j i = true := by
 unfold unord at h ⊢
 rw [Nat.max_comm, Nat.min_comm, bne_comm]
 exact h
theorem ask_read {base i : Nat} {o : Oper} {e : Env} (h : ZU X ops base i o e = true) (hr : Zd o.op = .read) {k : Nat} (hk : k ∈ touched X e o.op) :
  k < base ∨ (Z2b (Region.before ops) ops i = false ∧ ((Region.before ops).getD i 0).testBit (k - base) = true) := by
 unfold ZU at h
 rw [hr] at h
 simp only [Y9, YI] at h
 have := h.1 k hk
 simp only [Ym, decide_eq_true_eq, Y9, YT] at this
 exact this.imp id fun h => h.1
theorem ask_root {base i : Nat} {o : Oper} {e : Env} (hi : ops[i]? = some o) (h : ZU X ops base i o e = true) (hr : Zd o.op = .read) (ho : Z2b (Region.before ops) ops i = true) (hro : rootOp ops o.op = true) {k : Nat} (hk : k ∈ touched X e o.op) :
  k ∈ Z1M X ops e o.op := by
 unfold ZU at h
 rw [hr] at h
 simp only [Y9, Ym, YT, hro, YI, List.contains_iff_mem, Bool.true_eq_false, or_false] at h
 rcases h.2 with h | h
 ·unfold Z47 at h;rw [hi] at h;simp only [ho, hro, Yx, Y0V, Bool.or_false] at h;rw [Z6u h];exact hk
 ·exact h k hk
theorem Z6M {base i : Nat} {o : Oper} {e : Env} (h : ZU X ops base i o e = true) (hr : Zd o.op = .write) {k : Nat} (hk : k ∈ touched X e o.op) :
  (k < base ∧ Z1c X e (Region.before ops) ops i k = false) ∨ (base ≤ k ∧ ((Region.before ops).getD i 0).testBit (k - base) = true) := by
 unfold ZU at h
 rw [hr] at h
 simp only [YI] at h
 have := h k hk
 simp only [Ym, decide_eq_true_eq, Y9, YT] at this
 exact this.imp id fun h => h.1
theorem key_read (hd : Z24 ops = true) {base i j : Nat} {oi oj : Oper} {ei ej : Env} (hst : Stable ops ej ei) (hi : ops[i]? = some oi) (hj : ops[j]? = some oj) (hu : unord (Region.before ops) i j = true)
  (hb : ((Region.before ops).getD i 0).testBit j = false) (hai : ZU X ops base i oi ei = true) (haj : ZU X ops base j oj ej = true) {k : Nat}
  (hk : k = base + j ∨ (isW oj.op = true ∧ k ∈ touched X ej oj.op)) (hri : isRW oi.op = true) (hki : k ∈ touched X ei oi.op) : False := by
 obtain ⟨_, hww, _⟩ := Z4N hd
 rcases hk with rfl | ⟨hw, hk⟩
 ·rcases Z2n hri with h | h
  ·rcases ask_read hai h hki with h | ⟨_, h⟩
   ·omega
   ·rw [Ye, hb] at h; cases h
  ·rcases Z6M hai h hki with ⟨h, _⟩ | ⟨_, h⟩
   ·omega
   ·rw [Ye, hb] at h; cases h
 ·rcases Z6M haj (Z5m.1 hw) hk with ⟨_, h⟩ | ⟨hge, _⟩
  ·obtain ⟨h1, h2⟩ := freshAt_of hi (Z13 hu) hri h
   rw [Z45 hst] at h2;have hold := Z5I hj (Z13 hu) hw
   rcases Z2n hri with h | h
   ·exact h2 (ask_root hi hai h hold h1 hki)
   ·have := hww i oi hi (Z5m.2 h)
    rw [hold] at this;cases this
  ·rcases Z2n hri with h | h
   ·rcases ask_read hai h hki with h | ⟨h, _⟩
    ·omega
    ·rw [Z5I hj (Z13 hu) hw] at h; cases h
   ·have := hww i oi hi (Z5m.2 h)
    rw [Z5I hj (Z13 hu) hw] at this;cases this
theorem Z54 {base i : Nat} {o : Oper} {e : Env} (h : ZU X ops base i o e = true) {k : Nat} (hk : k ∈ frozen X e o.op) :
  base ≤ k ∧ ((Region.before ops).getD i 0).testBit (k - base) = true ∧ ∀ j, j < ops.size → unord (Region.before ops) i j = true → ((Region.before ops).getD j 0).testBit (k - base) = false := by
 cases hop : o.op with
 | buildSlice t len parts =>
  unfold ZU at h;simp only [hop, Zd, YI] at h;rw [hop] at hk;have := h k hk
  simp only [Y9, decide_eq_true_eq, YI, List.mem_range, YT, Y0G] at this;obtain ⟨⟨⟨h1, h2⟩, h3⟩, h4⟩ := this
  refine ⟨h1, h3, fun j hj hu => ?_⟩
  rcases h4 j hj with h | h
  ·rw [hu] at h; cases h
  ·exact h
 | _ => rw [hop] at hk; simp [frozen] at hk
theorem ask_rw {base i : Nat} {o : Oper} {e : Env} (h : ZU X ops base i o e = true) (hr : isRW o.op = true) {k : Nat} (hk : k ∈ touched X e o.op) : k < base ∨ ((Region.before ops).getD i 0).testBit (k - base) = true := by
 rcases Z2n hr with h' | h'
 ·exact (ask_read h h' hk).imp id fun h => h.2
 ·exact (Z6M h h' hk).imp (fun h => h.1) fun h => h.2
theorem key_look (hd : Z24 ops = true) {base i j : Nat} {oi oj : Oper} {ei ej : Env} (hst : Stable ops ej ei) (hi : ops[i]? = some oi) (hj : ops[j]? = some oj) (hu : unord (Region.before ops) i j = true)
  (hb : ((Region.before ops).getD i 0).testBit j = false) (hai : ZU X ops base i oi ei = true) (haj : ZU X ops base j oj ej = true) {k : Nat}
  (hk : k = base + j ∨ (isW oj.op = true ∧ k ∈ touched X ej oj.op) ∨ k ∈ frozen X ej oj.op) (hl : lookIds X ei oi.op k) : False := by
 have hil := (Array.getElem?_eq_some_iff.1 hi).1
 have hjl := (Array.getElem?_eq_some_iff.1 hj).1
 rcases hl with ⟨hr, ht⟩ | hf
 ·rcases hk with hk | hk | hk
  ·exact key_read hd hst hi hj hu hb hai haj (.inl hk) hr ht
  ·exact key_read hd hst hi hj hu hb hai haj (.inr hk) hr ht
  ·obtain ⟨h1, h2, h3⟩ := Z54 haj hk
   rcases ask_rw hai hr ht with h | h
   ·omega
   ·rw [h3 i hil (Z13 hu)] at h; cases h
 ·obtain ⟨h1, h2, h3⟩ := Z54 hai hf
  rcases hk with rfl | ⟨hw, hk⟩ | hk
  ·rw [Ye, hb] at h2; cases h2
  ·rcases ask_rw haj (isW_isRW hw) hk with h | h
   ·omega
   ·rw [h3 j hjl hu] at h; cases h
  ·obtain ⟨_, h4, h5⟩ := Z54 haj hk
   rw [h5 i hil (Z13 hu)] at h2; cases h2
theorem Z6v {i j : Nat} (hj : j < ops.size) (hu : unord (Region.before ops) i j = true) : Z1h (Region.before ops) ops i = false := by
 cases h : Z1h (Region.before ops) ops i with
 | false => rfl
 | true =>
  unfold Z1h at h;rw [YI] at h;have := h j (List.mem_range.2 hj)
  rw [hu] at this;cases this
theorem Z1d {e : Env} {dst : Option Tmp} {x : PV} {t : Nat} (h : dst ≠ some t) : putD n e dst x t = e t := by
 unfold putD
 cases dst with
 | none => rfl
 | some d =>
  simp only
  split
  ·simp only [upd];rw [if_neg (fun hh => h (by rw [hh]))]
  ·rfl
theorem upd_comm {α : Type} (f : Nat → α) {i j : Nat} (x y : α) (h : i ≠ j) : upd (upd f i x) j y = upd (upd f j y) i x := by
 funext k
 simp only [upd]
 by_cases h1 : k = j
 ·subst h1;rw [if_pos rfl, if_neg (fun hh => h hh.symm), if_pos rfl]
 ·rw [if_neg h1]
  by_cases h2 : k = i
  ·rw [if_pos h2, if_pos h2]
  ·rw [if_neg h2, if_neg h2, if_neg h1]
theorem Z6E {e : Env} {d d' : Option Tmp} {x y : PV} (h : ∀ t, d = some t → d' ≠ some t) : putD n (putD n e d x) d' y = putD n (putD n e d' y) d x := by
 cases d with
 | none => rfl
 | some t =>
  cases d' with
  | none => rfl
  | some t' =>
   have hne : t ≠ t' := fun hh => h t rfl (by rw [hh])
   simp only [putD]
   by_cases h1 : t < n
   ·by_cases h2 : t' < n
    ·simp only [if_pos h1, if_pos h2]; exact upd_comm _ _ _ hne
    ·simp only [if_pos h1, if_neg h2]
   ·by_cases h2 : t' < n
    ·simp only [if_neg h1, if_pos h2]
    ·simp only [if_neg h1, if_neg h2]
theorem appl_ne : ∀ {δ : List (Nat × Ent)} {σ : Heap} {k : Nat}, (∀ k' en, (k', en) ∈ δ → k' ≠ k) → (appl σ δ).ent k = σ.ent k
 | [], _, _, _ => rfl
 | (j, en) :: δ, σ, k, h => by
  show (appl (σ.put j en) δ).ent k = σ.ent k
  rw [appl_ne fun k' en' hm => h k' en' (YJ _ hm)]
  simp only [Heap.put, upd];rw [if_neg fun hh => h j en YV hh.symm]
theorem put_comm {σ : Heap} {j k : Nat} {en en' : Ent} (h : j ≠ k) : (σ.put j en).put k en' = (σ.put k en').put j en := by
 simp only [Heap.put]
 rw [upd_comm _ _ _ h]
theorem appl_put : ∀ {δ : List (Nat × Ent)} {σ : Heap} {j : Nat} {en : Ent}, (∀ k en', (k, en') ∈ δ → k ≠ j) → appl (σ.put j en) δ = (appl σ δ).put j en
 | [], _, _, _, _ => rfl
 | (k, en') :: δ, σ, j, en, h => by
  show appl ((σ.put j en).put k en') δ = (appl (σ.put k en') δ).put j en
  rw [put_comm fun hh => h k en' YV hh.symm, appl_put fun k' en' hm => h k' en' (YJ _ hm)]
theorem appl_comm : ∀ {δ δ' : List (Nat × Ent)} {σ : Heap}, (∀ k en k' en', (k, en) ∈ δ → (k', en') ∈ δ' → k ≠ k') → appl (appl σ δ) δ' = appl (appl σ δ') δ
 | [], _, _, _ => rfl
 | (j, en) :: δ, δ', σ, h => by
  show appl (appl (σ.put j en) δ) δ' = appl ((appl σ δ').put j en) δ
  rw [appl_comm fun k en k' en' h1 h2 => h k en k' en' (YJ _ h1) h2, appl_put fun k en' hm hh => h j en k en' YV hm hh.symm]
theorem quiet_ask {call : Zh} {base i : Nat} {o : Oper} {e e' : Env} {σ σ' : Heap} (hq : quiet o.op = true) (h : Z0B X call n ops base i o e σ = some (e', σ')) : ¬(Zg ops e o = some true ∧ ZZ X ops base i o e = false) := by
 intro c
 unfold Z0B at h
 rw [if_pos c] at h
 split at h
 ·rename_i hs;exact (quiet_noW hq).2 hs.1
 ·cases h
theorem Z6x {call : Zh} {base i : Nat} {o : Oper} {e e' : Env} {σ σ' : Heap} (hq : quiet o.op = true) (h : Z0B X call n ops base i o e σ = some (e', σ')) : σ' = σ := by
 have hns := quiet_ask hq h
 unfold Z0B at h
 rw [if_neg hns] at h
 unfold Z0G at h
 split at h
 ·simp only [Y4, Y5, Y3] at h;obtain ⟨⟨x, σ1⟩, h1, _, rfl⟩ := h
  exact Z7W hq h1
 ·cases h; rfl
 ·cases h
theorem ask_lt {base i : Nat} {o : Oper} {e : Env} (h : ZU X ops base i o e = true) (hr : Zd o.op = .read) {k : Nat} (hk : k ∈ touched X e o.op) : k < base + ops.size := by
 unfold ZU at h
 rw [hr] at h
 simp only [Y9, YI] at h
 have := h.1 k hk
 simp only [Ym, decide_eq_true_eq, Y9, YT] at this
 rcases this with h | h
 ·omega
 ·exact h.2
theorem Z75 {call : Zh} {base i : Nat} {o : Oper} {e e2 e' : Env} {σ σ2 σ' : Heap} (hq : quiet o.op = true) (hna : Z1h (Region.before ops) ops i = false) (h : Z0B X call n ops base i o e σ = some (e', σ'))
  (hst : Stable ops e e2) (he : ∀ t ∈ o.looksAt ops, e t = e2 t) (hσ : ∀ k, k < base + ops.size → Alike (σ.ent k) (σ2.ent k)) : σ' = σ ∧ ∃ x, e' = putD n e o.dst x ∧ Z0B X call n ops base i o e2 σ2 = some (putD n e2 o.dst x, σ2) := by
 refine ⟨Z6x hq h, ?_⟩
 have hns := quiet_ask hq h
 have hse := Z5v (ops := ops) he
 unfold Z0B at h
 rw [if_neg hns] at h
 unfold Z0G at h
 split at h
 ·rename_i hw;have hask : ZZ X ops base i o e = true := by
   cases hd : ZZ X ops base i o e with
   | true => rfl
   | false => exact absurd ⟨hw, hd⟩ hns
  have hask0 : ZU X ops base i o e = true := by
   have h1 := hask
   unfold ZZ at h1;rw [hna, Y0V] at h1;exact h1
  simp only [Y4, Y5, Y3] at h;obtain ⟨⟨x, σ1⟩, h1, rfl, rfl⟩ := h
  have hs1 := Z7W hq h1
  subst hs1;refine ⟨x, rfl, ?_⟩;have h2 := quiet_alike (σ2 := σ2) hq h1 (fun hrw k hk => hσ k (by
   rcases Z2n hrw with h1 | h1
   ·exact ask_lt hask0 h1 hk
   ·have := (quiet_noW hq).1
    rw [Z5m.2 h1] at this;cases this))
  unfold Z0B;rw [← Z0X he, ← Z44 hst hse, if_neg (by rw [hask]; simp)]
  unfold Z0G;rw [← Z0X he, hw];simp only;rw [← Z3t hse, h2]
  rfl
 ·rename_i hw;cases h;refine ⟨.undef, rfl, ?_⟩;unfold Z0B;rw [← Z0X he, if_neg (by rw [hw]; simp)]
  unfold Z0G;rw [← Z0X he, hw]
 ·cases h
theorem Z7G {call : Zh} {base i : Nat} {o : Oper} {e e' : Env} {σ σ' : Heap} (c : Zg ops e o = some true ∧ ZZ X ops base i o e = false) (h : Z0B X call n ops base i o e σ = some (e', σ')) :
  Z23 X call ops base i o e σ ∧ ∃ x, e' = putD n e o.dst x ∧ Z4 X call e σ (base + i) o.op = some (x, σ') ∧ ∀ e2, Stable ops e e2 → (∀ t ∈ o.looksAt ops, e t = e2 t) → Z0B X call n ops base i o e2 σ = some (putD n e2 o.dst x, σ') := by
 unfold Z0B at h
 rw [if_pos c] at h
 split at h
 ·rename_i hs;unfold Z0G at h;rw [c.1] at h;simp only [Y4, Y5, Y3] at h;obtain ⟨⟨x, σ1⟩, h1, rfl, rfl⟩ := h
  refine ⟨hs, x, rfl, h1, fun e2 hst he => ?_⟩
  have hse := Z5v (ops := ops) he
  unfold Z0B;rw [← Z0X he, ← Z44 hst hse, if_pos c, if_pos ((still_env hse).1 hs)];unfold Z0G;rw [← Z0X he, c.1];simp only;rw [← Z3t hse, h1]
  rfl
 ·cases h
theorem Z6Q {i j : Nat} {oj : Oper} (h : Z2q ops i = true) (hj : ops[j]? = some oj) (hu : unord (Region.before ops) i j = true) : quiet oj.op = true := by
 unfold Z2q at h
 rw [YI] at h
 have := h j (List.mem_range.2 (Array.getElem?_eq_some_iff.1 hj).1)
 rw [hj, hu] at this
 simpa using this
theorem swap {call : Zh} (hcp : Z1W X call) (hd : Z24 ops = true) {base i j : Nat} {oi oj : Oper} (hi : ops[i]? = some oi) (hj : ops[j]? = some oj) (hlt : j < i)
  (hno : ∀ e ∈ oi.after, Region.binds .any e = true → e.on ≠ j) (hb : ((Region.before ops).getD i 0).testBit j = false)
  {e e1 e2 : Env} {σ σ1 σ2 : Heap} (h1 : Z0B X call n ops base j oj e σ = some (e1, σ1)) (h2 : Z0B X call n ops base i oi e1 σ1 = some (e2, σ2)) :
  ∃ e1' σ1', Z0B X call n ops base i oi e σ = some (e1', σ1') ∧ Z0B X call n ops base j oj e1' σ1' = some (e2, σ2) := by
 obtain ⟨hlex, _, ha⟩ := Z4N hd
 obtain ⟨p1, p2, p3⟩ := Oper.apart_spec (apart_of hlex hi hj hlt hno)
 have hb' : ((Region.before ops).getD j 0).testBit i = false := by
  cases h : ((Region.before ops).getD j 0).testBit i with
  | false => rfl
  | true => have := bits_lt ha j h; omega
 have hu : unord (Region.before ops) i j = true := by
  unfold unord;rw [Nat.max_eq_left (Nat.le_of_lt hlt), Nat.min_eq_right (Nat.le_of_lt hlt), hb]
  simp
  omega
 have hjl := (Array.getElem?_eq_some_iff.1 hj).1
 have hil := (Array.getElem?_eq_some_iff.1 hi).1
 have hdst : ∀ {k : Nat} {o : Oper} {t : Nat}, ops[k]? = some o → (ops.any fun o => o.dst == some t) = false → o.dst ≠ some t := fun {k o t} hk h hh => by
  rw [Array.any_eq_false] at h;obtain ⟨hk1, hk2⟩ := Array.getElem?_eq_some_iff.1 hk
  have := h k hk1
  rw [hk2, hh] at this;simp at this
 have naj := Z6v hil (Z13 hu)
 have nai := Z6v hjl hu
 by_cases cj : Zg ops e oj = some true ∧ ZZ X ops base j oj e = false
 ·obtain ⟨hs, xj, rfl, q1, lj⟩ := Z7G cj h1
  have hqi := Z6Q hs.2.1 hi (Z13 hu)
  have st1 : Stable ops (putD n e oj.dst xj) e := fun t ht => Z1d (hdst hj ht)
  have hei : ∀ t ∈ oi.looksAt ops, putD n e oj.dst xj t = e t := fun t ht => Z1d fun hh => p1 t hh ht
  obtain ⟨rfl, xi, rfl, s1⟩ := Z75 hqi nai h2 st1 hei (fun k hk => (hs.2.2 _ _ _ q1 k hk).symm)
  refine ⟨_, _, s1, ?_⟩;rw [lj (putD n e oi.dst xi) (fun t ht => (Z1d (hdst hi ht)).symm) (fun t ht => (Z1d fun hh => p3 t hh ht).symm), Z6E (fun t ht hh => p2 t hh ht)]
 by_cases ci : Zg ops e1 oi = some true ∧ ZZ X ops base i oi e1 = false
 ·obtain ⟨hs, xi, rfl, q1, li⟩ := Z7G ci h2
  have hqj := Z6Q hs.2.1 hj hu
  have hσ1 := Z6x hqj h1
  subst hσ1;obtain ⟨xj, δj, rfl, _, _⟩ := Z4A hcp naj cj h1
  have s1 := li e (fun t ht => Z1d (hdst hj ht)) (fun t ht => Z1d fun hh => p1 t hh ht)
  refine ⟨_, _, s1, ?_⟩;obtain ⟨_, x', hx', s2⟩ := Z75 (σ2 := σ2) (e2 := putD n e oi.dst xi) hqj naj h1 (fun t ht => (Z1d (hdst hi ht)).symm) (fun t ht => (Z1d fun hh => p3 t hh ht).symm) (fun k hk => hs.2.2 _ _ _ q1 k hk)
  rw [s2, Z6E (fun t ht hh => p2 t hh ht), ← hx']
 obtain ⟨xj, δj, rfl, rfl, aj, kj, lj⟩ := Z4A hcp naj cj h1
 obtain ⟨xi, δi, rfl, rfl, ai, ki, li⟩ := Z4A hcp nai ci h2
 have st1 : Stable ops (putD n e oj.dst xj) e := fun t ht => Z1d (hdst hj ht)
 have st2 : Stable ops e (putD n e oj.dst xj) := fun t ht => (st1 t ht).symm
 have st3 : Stable ops e (putD n e oi.dst xi) := fun t ht => (Z1d (hdst hi ht)).symm
 have hei : ∀ t ∈ oi.looksAt ops, putD n e oj.dst xj t = e t := fun t ht => Z1d fun hh => p1 t hh ht
 have hej : ∀ t ∈ oj.looksAt ops, e t = putD n e oi.dst xi t := fun t ht => (Z1d fun hh => p3 t hh ht).symm
 have hij : ∀ k en, (k, en) ∈ δj → Zg ops (putD n e oj.dst xj) oi = some true → lookIds X (putD n e oj.dst xj) oi.op k → False := fun k en hk hw hm => by
  obtain ⟨w, hk⟩ := kj k en hk
  exact key_look hd st2 hi hj hu hb (ai hw) (aj w) hk hm
 have hji : ∀ k en, (k, en) ∈ δi → Zg ops e oj = some true → lookIds X e oj.op k → False := fun k en hk hw hm => by
  obtain ⟨w, hk⟩ := ki k en hk
  exact key_look hd st1 hj hi (Z13 hu) hb' (aj hw) (ai w) hk hm
 have s1 := li e σ st1 hei (fun hw k hk => (appl_ne fun k' en hh hke => hij k' en hh hw (hke ▸ hk)).symm)
 have s2 := lj (putD n e oi.dst xi) (appl σ δi) st3 hej (fun hw k hk => appl_ne fun k' en hh hke => hji k' en hh hw (hke ▸ hk))
 refine ⟨_, _, s1, ?_⟩
 rw [s2, Z6E (fun t ht hh => p2 t hh ht), appl_comm]
 intro k en k' en' hk hk' hkk
 subst hkk
 obtain ⟨wi, hki⟩ := ki k en hk
 obtain ⟨wj, hkj⟩ := kj k en' hk'
 rcases hki with hki | ⟨w1, w2⟩ | hf
 ·rcases hkj with hkj | ⟨w3, w4⟩ | hf
  ·omega
  ·exact hji k en hk wj (.inl ⟨isW_isRW w3, w4⟩)
  ·exact hji k en hk wj (.inr hf)
 ·exact hij k en' hk' wi (.inl ⟨isW_isRW w1, w2⟩)
 ·exact hij k en' hk' wi (.inr hf)
noncomputable def runs (X : Ctx) (call : Zh) (n : Nat) (ops : Array Oper) (base : Nat) : List (Nat × Oper) → Env → Heap → Option (Env × Heap)
 | [], e, σ => some (e, σ)
 | (i, o) :: l, e, σ => (Z0B X call n ops base i o e σ).bind fun r => runs X call n ops base l r.1 r.2
theorem Z5T {call : Zh} {base : Nat} : ∀ (l : List Oper) (i : Nat) (e : Env) (σ : Heap), Z0Q X call n ops base i l e σ = runs X call n ops base (l.zipIdx i |>.map fun p => (p.2, p.1)) e σ
 | [], _, _, _ => rfl
 | o :: l, i, e, σ => by
  simp only [Z0Q, List.zipIdx_cons, List.map_cons, runs]
  congr 1
  funext r
  exact Z5T l (i + 1) r.1 r.2
def Closed (ops : Array Oper) (listed : Array Bool) : Prop := ∀ k, listed.getD k false = true → ∀ j, ((Region.before ops).getD k 0).testBit j = true → listed.getD j false = true
theorem getD_tf {listed : Array Bool} {i : Nat} (h : listed.getD i true = false) : listed.getD i false = false := by
 rcases YD i listed.size with h' | h'
 ·simpa [Y6, h'] using h
 ·simp [Y6, Yo h']
theorem bubble {call : Zh} (hcp : Z1W X call) (hd : Z24 ops = true) {base i : Nat} {oi : Oper} {post : List (Nat × Oper)} {r : Env × Heap} (hi : ops[i]? = some oi) :
  ∀ (pre : List (Nat × Oper)) (e : Env) (σ : Heap), (∀ p ∈ pre, ops[p.1]? = some p.2 ∧ p.1 < i ∧ (∀ e ∈ oi.after, Region.binds .any e = true → e.on ≠ p.1) ∧ ((Region.before ops).getD i 0).testBit p.1 = false) →
   runs X call n ops base (pre ++ (i, oi) :: post) e σ = some r → runs X call n ops base ((i, oi) :: (pre ++ post)) e σ = some r
 | [], _, _, _, h => h
 | (j, oj) :: pre, e, σ, hp, h => by
  simp only [Y0C, runs, Y4] at h;obtain ⟨⟨e1, σ1⟩, h1, h2⟩ := h
  have := bubble hcp hd hi pre e1 σ1 (fun p hm => hp p (by simp [hm])) h2
  simp only [runs, Y4] at this;obtain ⟨⟨e2, σ2⟩, h3, h4⟩ := this
  obtain ⟨q1, q2, q3, q4⟩ := hp (j, oj) (by simp)
  obtain ⟨e1', σ1', s1, s2⟩ := swap hcp hd hi q1 q2 q3 q4 h1 h3
  simp only [Y0C, runs, s1, s2, Y0];exact h4
theorem Z6e {call : Zh} {base i : Nat} {o : Oper} {e : Env} {σ : Heap} {r : Env × Heap} (h : Z0B X call n ops base i o e σ = some r) : Z0G X call n ops base i o e σ = some r := by
 unfold Z0B at h
 split at h
 ·split at h
  ·exact h
  ·cases h
 ·exact h
variable {Q : Exit → Act → World → Prop} {m : Nat}
theorem draw_any {call : Zh} (hcall : Z2T X call) (htame : Z0a call) (hcp : Z1W X call) (hd : Z24 ops = true) {rd : Option Nat} {base : Nat} {e' : Env} {σ' : Heap} :
  ∀ (len : Nat) (rem : List (Nat × Oper)) (listed : Array Bool) (s : St) (e : Env) (a : Act), rem.length = len → Z0A X s → Inv s → EnvR s n e a →
   listed.size = ops.size → (∀ p ∈ rem, ops[p.1]? = some p.2 ∧ listed.getD p.1 true = false) → (∀ i, i < ops.size → listed.getD i true = false → ∃ p ∈ rem, p.1 = i) →
   rem.Pairwise (fun p q => p.1 < q.1) → Closed ops listed → (∀ p ∈ rem, s.σ.ent (base + p.1) = .none ∧ base + p.1 < s.σ.nx) →
   runs X call n ops base rem e s.σ = some (e', σ') → (∀ a' w' ι', Then s n a e' σ' a' w' ι' → Q .normal a' w') →
   wpAnyIn (Fw rd) m X.P .any ops Q len listed a s.w := by
 obtain ⟨hlex, hww, ha⟩ := Z4N hd
 intro len
 induction len with
 | zero =>
  intro rem listed s e a hl hG hi he hsz hr1 hr2 _ _ _ h hQ;have : rem = [] := List.length_eq_zero_iff.1 hl
  subst this;refine ⟨?_, ?_⟩
  ·refine List.eq_nil_iff_forall_not_mem.2 fun j hj => ?_
   obtain ⟨q1, o, q2, _⟩ := mem_ready.1 hj
   obtain ⟨p, hp, _⟩ := hr2 j (Array.getElem?_eq_some_iff.1 q2).1 q1
   cases hp
  ·simp [runs] at h;obtain ⟨rfl, rfl⟩ := h
   exact hQ a s.w s.ι ⟨hi, Ev.refl s, he, rfl⟩
 | succ len ih =>
  intro rem listed s e a hl hG hi he hsz hr1 hr2 hp hcl hf h hQ;refine ⟨fun h0 => ?_, fun i hir => ?_⟩
  ·exfalso
   cases rem with
   | nil => simp at hl
   | cons p rem =>
    obtain ⟨q1, q2⟩ := hr1 p (by simp)
    have : p.1 ∈ Region.ready .any ops listed := by
     refine mem_ready.2 ⟨q2, p.2, q1, fun e he hb => ?_⟩
     have hlt := ha _ _ q1 e he hb
     cases hc : listed.getD e.on false with
     | true => rfl
     | false =>
      exfalso
      have hes : e.on < ops.size := Nat.lt_trans hlt (Array.getElem?_eq_some_iff.1 q1).1
      have : listed.getD e.on true = false := by
       have h' : e.on < listed.size := by omega
       simpa [Y6, h'] using hc
      obtain ⟨p', hp', he'⟩ := hr2 _ hes this
      rcases List.mem_cons.1 hp' with rfl | hp'
      ·omega
      ·have := List.rel_of_pairwise_cons hp hp'
       omega
    rw [h0] at this;cases this
  ·obtain ⟨q1, oi, q2, q3⟩ := mem_ready.1 hir
   obtain ⟨p, hpm, hpi⟩ := hr2 i (Array.getElem?_eq_some_iff.1 q2).1 q1
   obtain ⟨pre, post, rfl⟩ := List.append_of_mem hpm
   have hpo : p = (i, oi) := by
    obtain ⟨h1, _⟩ := hr1 p hpm
    rw [hpi, q2] at h1;exact Prod.ext hpi (Option.some.inj h1).symm
   subst hpo;have hlast : ∀ p ∈ pre, p.1 < i := fun p hp' => (List.pairwise_append.1 hp).2.2 p hp' (i, oi) (by simp)
   have hbits : ∀ j, ((Region.before ops).getD i 0).testBit j = true → listed.getD j false = true := fun j hj => by
    obtain ⟨ed, he1, he2, he3⟩ := Z6U q2 hj
    have := q3 ed he1 he2
    rcases he3 with rfl | he3
    ·exact this
    ·exact hcl _ this j he3
   have hb := bubble hcp hd q2 pre e s.σ (fun p hp' => by
    obtain ⟨w1, w2⟩ := hr1 p (by simp [hp'])
    have w3 := getD_tf w2
    refine ⟨w1, hlast p hp', fun e he1 he2 he3 => ?_, ?_⟩
    ·have := q3 e he1 he2
     rw [he3, w3] at this;cases this
    ·cases hbb : ((Region.before ops).getD i 0).testBit p.1 with
     | false => rfl
     | true => rw [hbits _ hbb] at w3; cases w3) h
   simp only [runs, Y4] at hb;obtain ⟨⟨e1, σ1⟩, h1, h2⟩ := hb
   have h1 := Z6e h1
   have hT := Z3x htame h1
   obtain ⟨f1, f2⟩ := hf (i, oi) (by simp)
   have hne : ∀ p ∈ pre ++ post, p.1 ≠ i := fun p hp' => by
    rcases List.mem_append.1 hp' with h | h
    ·exact Nat.ne_of_lt (hlast p h)
    ·have := List.rel_of_pairwise_cons ((List.pairwise_append.1 hp).2.1) h
     exact Nat.ne_of_gt this
   have hmem : ∀ p ∈ pre ++ post, p ∈ pre ++ (i, oi) :: post := fun p hp' => by
    rcases List.mem_append.1 hp' with h | h <;> simp [h]
   have := stepO_ok (m := m) (Q := Q) (rd := rd) hcall hG hi he f1 f2 h1 (K := wpAnyIn (Fw rd) m X.P .any ops Q len (listed.setIfInBounds i true)) (fun a1 w1 ι1 ht => by
    refine ih (pre ++ post) _ ⟨w1, s.Y, σ1, ι1⟩ e1 a1 (by simp at hl ⊢; omega) (hG.mono ht.ev) ht.inv ht.env (by simpa using hsz) (fun p hp' => ?_) (fun k hk hkl => ?_) ?_ ?_ (fun p hp' => ?_) h2
     (fun a' w' ι' ht2 => hQ a' w' ι' ⟨ht2.inv, ht.ev.trans ht2.ev, ht2.env, ht2.defers.trans ht.defers⟩)
    ·obtain ⟨w1, w2⟩ := hr1 p (hmem p hp')
     exact ⟨w1, by rw [getD_set_ne true (Ne.symm (hne p hp'))]; exact w2⟩
    ·have hki : k ≠ i := by
      rintro rfl;have : k < listed.size := by omega
      simp [Y6, this] at hkl
     rw [getD_set_ne true (Ne.symm hki)] at hkl;obtain ⟨p, hp1, hp2⟩ := hr2 k hk hkl
     refine ⟨p, ?_, hp2⟩
     rcases List.mem_append.1 hp1 with h | h
     ·exact Yn _ h
     ·rcases List.mem_cons.1 h with rfl | h
      ·exact absurd hp2.symm hki
      ·exact Yu _ h
    ·rw [List.pairwise_append] at hp ⊢;exact ⟨hp.1, (List.pairwise_cons.1 hp.2.1).2, fun a ha b hb => hp.2.2 a ha b (by simp [hb])⟩
    ·intro k hk j hj
     by_cases hki : k = i
     ·subst hki;exact getD_set_true (hbits j hj)
     ·rw [getD_set_ne false (Ne.symm hki)] at hk;exact getD_set_true (hcl k hk j hj)
    ·obtain ⟨g1, g2⟩ := hf p (hmem p hp')
     exact ⟨hT.2 _ g2 (by have := hne p hp'; simp; omega) g1, YM g2 hT.1⟩)
   unfold wpOpIn;rw [q2];exact this
def St.drawn (s : St) : St := ⟨{ s.w with drawn := s.w.drawn + 1 }, s.Y, s.σ, s.ι⟩
theorem drawn_ev (s : St) : Ev s s.drawn where
 Y := rfl
 size := YB _
 keep := fun _ _ _ => rfl
 live := fun id h _ => ⟨id, h, rfl⟩
 blk := fun id el cells lv h => ⟨cells, lv, h, YB _, fun _ => ⟨rfl, fun cs e fr h => ⟨cs, fr, h, rfl⟩⟩⟩
 loop := fun id fn e n ps as_ bo st pend h => ⟨⟨st, pend, h⟩, rfl⟩
 map := fun id kv h => ⟨⟨kv, h⟩, rfl⟩
 os := rfl
 tape := rfl
 output := rfl
theorem drawn_inv {s : St} (hi : Inv s) : Inv s.drawn :=
 ⟨fun id => Z7S (drawn_ev s) rfl rfl (hi.ent id), hi.inj, hi.notY, fun id el c h => ((drawn_ev s).imm _ (hi.fz id el c h)).1, hi.nx, hi.Ylt⟩
theorem draw_ok {s : St} {e : Env} {a : Act} {call : Zh} (hm : X.P.follows .mixedOrders = true) (hcall : Z2T X call) (htame : Z0a call) (hcp : Z1W X call) {rd : Option Nat} {id : Nat} {e' : Env} {σ' : Heap} (hd : Z24 ops = true) (hG : Z0A X s) (hi : Inv s) (he : EnvR s n e a)
  (h : Z0Q X call n ops s.σ.nx 0 ops.toList e ⟨s.σ.nx + ops.size, s.σ.ent⟩ = some (e', σ')) (hQ : ∀ a' w' ι', Then s n a e' σ' a' w' ι' → Q .normal a' w') :
  (Code.region id ops true).wpIn (Fw rd) m X.P Q a s.w := by
 refine wpIn_region_any hm ?_
 have ev : Ev s (s.more ops.size).drawn := (Z1O _).trans (drawn_ev _)
 rw [Z5T] at h
 have := draw_any (m := m) (Q := Q) (rd := rd) hcall htame hcp hd (base := s.σ.nx) ops.size (ops.toList.zipIdx 0 |>.map fun p => (p.2, p.1)) (Array.replicate ops.size false) (s.more ops.size).drawn e a (by simp)
  (hG.mono ev) (drawn_inv (Z4I hi _)) (he.mono ev) (by simp)
  (fun p hp => by
   obtain ⟨q, hq, rfl⟩ := List.mem_map.1 hp
   have hq := List.mem_zipIdx_iff_getElem?.1 hq
   have hlt : q.2 < ops.size := by
    have := (List.getElem?_eq_some_iff.1 hq).1
    simpa using this
   exact ⟨by simpa using hq, by simp [Y6, hlt]⟩)
  (fun i hi _ => ⟨(i, ops[i]), List.mem_map.2 ⟨(ops[i], i), List.mem_zipIdx_iff_getElem?.2 (by simp [hi]), rfl⟩, rfl⟩)
  (by
   rw [List.pairwise_map];have key : ∀ (l : List Oper) (k : Nat), (l.zipIdx k).Pairwise (fun p q => p.2 < q.2) := by
    intro l
    induction l with
    | nil => intro k; simp
    | cons o l ih =>
     intro k;rw [List.zipIdx_cons, List.pairwise_cons];refine ⟨fun p hp => ?_, ih _⟩
     have := List.le_snd_of_mem_zipIdx hp
     simp only;omega
   exact key _ _)
  (fun k hk => by
   exfalso
   simp only [Y6] at hk
   rcases YD k ops.size with h | h
   ·simp [h] at hk
   ·rw [Yo (by simpa using h)] at hk; cases hk)
  (fun p hp => by
   obtain ⟨q, hq, rfl⟩ := List.mem_map.1 hp
   have hq := List.mem_zipIdx_iff_getElem?.1 hq
   have hlt : q.2 < ops.size := by
    have := (List.getElem?_eq_some_iff.1 hq).1
    simpa using this
   exact ⟨hi.nx _ (by simp only; omega), by simp only [St.drawn, St.more]; omega⟩)
  h (fun a' w' ι' ht => hQ a' w' ι' ⟨ht.inv, ev.trans ht.ev, ht.env, ht.defers⟩)
 exact this
end
end Go.Dn

namespace Go.Dn
open Go
structure LPut (s : St) (id : Nat) (fn : FuncId) (e : Env) (n : Nat) (ps : List Nat) (as_ bo : Code) (st : LoopState) (pend : Option Code) (g : Nat) (w' : World) : Prop where
 old : (s.σ.ent id = .none ∧ s.w.heap.size ≤ g) ∨ ((∃ st0 pend0, s.σ.ent id = .loop fn e n ps as_ bo st0 pend0) ∧ g = s.ι id)
 size : s.w.heap.size ≤ w'.heap.size
 others : ∀ b, b < s.w.heap.size → b ≠ g → w'.heap[b]? = s.w.heap[b]?
 here : ∃ fn' tmps defers, w'.heap[g]? = some (.loop { state := st, pending := pend, fn := fn', tmps := tmps, params := ps.toArray, assign := as_, body := bo, defers := defers }) ∧
  tmps.size = n ∧ ∀ t, PVR s (e t) (tmps.getD t Go.undef)
 nx : id < s.σ.nx
 os : w'.os = s.w.os
 tape : w'.tape = s.w.tape
 output : w'.output = s.w.output
def St.lput (s : St) (id : Nat) (en : Ent) (g : Nat) (w' : World) : St := ⟨w', s.Y, s.σ.put id en, upd s.ι id g⟩
section
variable {s : St} {id : Nat} {fn : FuncId} {e : Env} {n : Nat} {ps : List Nat} {as_ bo : Code} {st : LoopState} {pend : Option Code} {g : Nat} {w' : World}
theorem LPut.old_rec (hi : Inv s) {st0 : LoopState} {pend0 : Option Code} (h : s.σ.ent id = .loop fn e n ps as_ bo st0 pend0) : ∃ fn' tmps defers, s.w.heap[s.ι id]? = some (.loop { state := st0, pending := pend0, fn := fn', tmps := tmps, params := ps.toArray, assign := as_, body := bo, defers := defers }) ∧
  tmps.size = n ∧ ∀ t, PVR s (e t) (tmps.getD t Go.undef) := by
 have := hi.ent id
 rw [h] at this
 exact this
theorem LPut.ne (hi : Inv s) (h : LPut s id fn e n ps as_ bo st pend g w') {id' : Nat} (hne : id' ≠ id) (hl : Live s.σ id') : s.ι id' ≠ g := by
 intro e
 rcases h.old with ⟨_, hp⟩ | ⟨⟨s0, p0, ho⟩, hp⟩
 ·have := hl.lt hi; omega
 ·exact hne (hi.inj id' id hl (.inr (.inl ⟨_, _, _, _, _, _, _, _, ho⟩)) (e.trans hp))
theorem LPut.blk_ne (hi : Inv s) (h : LPut s id fn e n ps as_ bo st pend g w') {b : Nat} {cs : Array Value} {el : TypeId} {fr : Nat × Nat} (hb : s.w.heap[b]? = some (.cells cs el fr)) : b ≠ g := by
 intro hg
 subst hg
 rcases h.old with ⟨_, hp⟩ | ⟨⟨s0, p0, ho⟩, hp⟩
 ·have := (Array.getElem?_eq_some_iff.1 hb).1; omega
 ·obtain ⟨f, t, d, q, _⟩ := LPut.old_rec hi ho
  rw [← hp, hb] at q;cases q
theorem LPut.ev (hi : Inv s) (h : LPut s id fn e n ps as_ bo st pend g w') : Ev s (s.lput id (.loop fn e n ps as_ bo st pend) g w') where
 Y := rfl
 size := h.size
 keep := fun b hb hl => by
  refine h.others b hb fun e => ?_
  rcases h.old with ⟨_, hp⟩ | ⟨⟨s0, p0, ho⟩, hp⟩
  ·omega
  ·exact hl id (.inr (.inl ⟨_, _, _, _, _, _, _, _, ho⟩)) (by rw [e, hp])
 live := fun id' hid hlt => by
  by_cases e : id' = id
  ·subst e;simp only [St.lput, Z8] at hlt ⊢
   rcases h.old with ⟨_, hp⟩ | ⟨⟨s0, p0, ho⟩, hp⟩
   ·omega
   ·exact ⟨id', .inr (.inl ⟨_, _, _, _, _, _, _, _, ho⟩), hp.symm⟩
  ·simp only [St.lput, ZG _ _ e] at hlt ⊢;exact ⟨id', (Z09 e).1 hid, rfl⟩
 blk := fun id' el' cells lv hb => by
  have e : id' ≠ id := by
   rintro rfl
   rcases h.old with ⟨ho, _⟩ | ⟨⟨s0, p0, ho⟩, _⟩ <;> rw [ho] at hb <;> cases hb
  refine ⟨cells, lv, by simp [St.lput, Heap.put, ZG _ _ e, hb], YB _, fun _ => ⟨by simp [St.lput, ZG _ _ e], fun cs e' fr hcs => ?_⟩⟩
  refine ⟨cs, fr, ?_, rfl⟩;rw [← hcs];exact h.others _ (Array.getElem?_eq_some_iff.1 hcs).1 (h.blk_ne hi hcs)
 loop := fun id' fn' e1 n' ps' as' bo' st' pend' hl => by
  by_cases e' : id' = id
  ·subst e'
   rcases h.old with ⟨ho, _⟩ | ⟨⟨s0, p0, ho⟩, hp⟩
   ·rw [ho] at hl; cases hl
   ·rw [ho] at hl; cases hl;exact ⟨⟨st, pend, by simp [St.lput, Heap.put, Z8]⟩, by simp [St.lput, Z8, hp]⟩
  ·exact ⟨⟨st', pend', by simp [St.lput, Heap.put, ZG _ _ e', hl]⟩, by simp [St.lput, ZG _ _ e']⟩
 map := fun id' kv hl => by
  have e' : id' ≠ id := by
   rintro rfl
   rcases h.old with ⟨ho, _⟩ | ⟨⟨s0, p0, ho⟩, hp⟩ <;> rw [ho] at hl <;> cases hl
  exact ⟨⟨kv, by simp [St.lput, Heap.put, ZG _ _ e', hl]⟩, by simp [St.lput, ZG _ _ e']⟩
 os := h.os
 tape := h.tape
 output := h.output
theorem LPut.inv (hi : Inv s) (h : LPut s id fn e n ps as_ bo st pend g w') : Inv (s.lput id (.loop fn e n ps as_ bo st pend) g w') := by
 have hev := h.ev hi
 have hsame : (s.lput id (.loop fn e n ps as_ bo st pend) g w').σ.ent id = .loop fn e n ps as_ bo st pend := by simp [St.lput, Heap.put, Z8]
 refine ⟨fun id' => ?_, fun id1 id2 h1 h2 he => ?_, fun id' hl => ?_, fun id' el' c hb => ?_, fun id' hn => ?_, fun b hb => YM (hi.Ylt b hb) h.size⟩
 ·by_cases e1 : id' = id
  ·subst e1;rw [hsame];obtain ⟨f, t, d, q1, q2, q3⟩ := h.here
   exact ⟨f, t, d, by simp only [St.lput, Z8]; exact q1, q2, fun k => hev.pvr (q3 k)⟩
  ·have h1 : (s.lput id (.loop fn e n ps as_ bo st pend) g w').σ.ent id' = s.σ.ent id' := by simp [St.lput, Heap.put, ZG _ _ e1]
   have h2 : (s.lput id (.loop fn e n ps as_ bo st pend) g w').ι id' = s.ι id' := by simp [St.lput, ZG _ _ e1]
   rw [h1];have he := hi.ent id'
   cases hent : s.σ.ent id' with
   | none => trivial
   | blk el' c lv =>
    rw [hent] at he;obtain ⟨cs, fr, q1, q2, q3, q4⟩ := he
    refine ⟨cs, fr, ?_, q2, q3, fun j x hj => ?_⟩
    ·rw [h2, ← q1];exact h.others _ (Array.getElem?_eq_some_iff.1 q1).1 (h.blk_ne hi q1)
    ·obtain ⟨u, hu, hp, ho⟩ := q4 j x hj
     exact ⟨u, hu, hev.pvr hp, ho⟩
   | loop fn' e' n' ps' as' bo' st' pend' =>
    rw [hent] at he;obtain ⟨fn2, tmps, defers, q1, q2, q3⟩ := he
    refine ⟨fn2, tmps, defers, ?_, q2, fun t => hev.pvr (q3 t)⟩
    rw [h2, ← q1];exact h.others _ (Array.getElem?_eq_some_iff.1 q1).1 (h.ne hi e1 (.inr (.inl ⟨_, _, _, _, _, _, _, _, hent⟩)))
   | map kv =>
    rw [hent] at he
    show w'.heap[_]? = _
    rw [h2, ← he];exact h.others _ (Array.getElem?_eq_some_iff.1 he).1 (h.ne hi e1 (.inr (.inr ⟨_, hent⟩)))
 ·by_cases e1 : id1 = id <;> by_cases e2 : id2 = id
  ·rw [e1, e2]
  ·subst e1;simp only [St.lput, Z8, ZG _ _ e2] at he;exact absurd he.symm (h.ne hi e2 ((Z09 e2).1 h2))
  ·subst e2;simp only [St.lput, Z8, ZG _ _ e1] at he;exact absurd he (h.ne hi e1 ((Z09 e1).1 h1))
  ·simp only [St.lput, ZG _ _ e1, ZG _ _ e2] at he;exact hi.inj id1 id2 ((Z09 e1).1 h1) ((Z09 e2).1 h2) he
 ·by_cases e1 : id' = id
  ·subst e1;simp only [St.lput, Z8];intro hy
   rcases h.old with ⟨_, hp⟩ | ⟨⟨s0, p0, ho⟩, hp⟩
   ·have := hi.Ylt _ hy; omega
   ·rw [hp] at hy; exact hi.notY id' (.inr (.inl ⟨_, _, _, _, _, _, _, _, ho⟩)) hy
  ·simp only [St.lput, ZG _ _ e1];exact hi.notY id' ((Z09 e1).1 hl)
 ·by_cases e1 : id' = id
  ·subst e1;rw [hsame] at hb; cases hb
  ·have hb' : s.σ.ent id' = .blk el' c false := by simpa [St.lput, Heap.put, ZG _ _ e1] using hb
   have : (s.lput id (.loop fn e n ps as_ bo st pend) g w').ι id' = s.ι id' := by simp [St.lput, ZG _ _ e1]
   rw [this];exact (hev.imm _ (hi.fz id' el' c hb')).1
 ·have hne : id' ≠ id := by
   intro e; subst e;have := h.nx
   simp only [St.lput, Heap.put] at hn;omega
  simp only [St.lput, Heap.put, ZG _ _ hne];exact hi.nx id' hn
end
def St.push (s : St) (o : Obj) : St := ⟨s.w.alloc o, s.Y, s.σ, s.ι⟩
theorem Z26 {w : World} {o : Obj} {b : Nat} (h : b < w.heap.size) : (w.alloc o).heap[b]? = w.heap[b]? := by
 show (w.heap.push o)[b]? = _
 rw [Array.getElem?_push]
 rw [if_neg (by omega)]
theorem Z3Q (w : World) (o : Obj) : (w.alloc o).heap.size = w.heap.size + 1 := by
 show (w.heap.push o).size = _
 simp
theorem push_ev (s : St) (o : Obj) : Ev s (s.push o) where
 Y := rfl
 size := by rw [St.push, Z3Q]; exact Nat.le_succ _
 keep := fun b hb _ => Z26 hb
 live := fun id h _ => ⟨id, h, rfl⟩
 blk := fun id el cells lv h => ⟨cells, lv, h, YB _, fun _ => ⟨rfl, fun cs e fr h => ⟨cs, fr, by rw [← h]; exact Z26 (Array.getElem?_eq_some_iff.1 h).1, rfl⟩⟩⟩
 loop := fun id fn e n ps as_ bo st pend h => ⟨⟨st, pend, h⟩, rfl⟩
 map := fun id kv h => ⟨⟨kv, h⟩, rfl⟩
 os := rfl
 tape := rfl
 output := rfl
theorem push_inv {s : St} (hi : Inv s) (o : Obj) : Inv (s.push o) := by
 have hev := push_ev s o
 refine ⟨fun id => ?_, hi.inj, hi.notY, fun id el c h => (hev.imm _ (hi.fz id el c h)).1, hi.nx, fun b hb => YM (hi.Ylt b hb) hev.size⟩
 have he := hi.ent id
 change EntOK _ id (s.σ.ent id)
 cases hent : s.σ.ent id with
 | none => trivial
 | blk el' c lv =>
  rw [hent] at he;obtain ⟨cs, fr, q1, q2, q3, q4⟩ := he
  exact ⟨cs, fr, (Z26 (Array.getElem?_eq_some_iff.1 q1).1).trans q1, q2, q3, fun j x hj => by
   obtain ⟨u, hu, hp, ho⟩ := q4 j x hj
   exact ⟨u, hu, hev.pvr hp, ho⟩⟩
 | loop fn' e' n' ps' as' bo' st' pend' =>
  rw [hent] at he;obtain ⟨fn2, tmps, defers, q1, q2, q3⟩ := he
  exact ⟨fn2, tmps, defers, (Z26 (Array.getElem?_eq_some_iff.1 q1).1).trans q1, q2, fun t => hev.pvr (q3 t)⟩
 | map kv => rw [hent] at he; exact (Z26 (Array.getElem?_eq_some_iff.1 he).1).trans he
def mark (r : Nat) : Deferred := { target := .collected r, args := #[] }
def Marks (s : St) (n0 : Nat) (ms : List Nat) : Prop := ms.Nodup ∧ ∀ r ∈ ms, n0 ≤ r ∧ s.imm r ∧ s.w.heap[r]? = some (.deferred (some []))
theorem Marks.nil (s : St) (n0 : Nat) : Marks s n0 [] := ⟨List.nodup_nil, fun r h => by cases h⟩
theorem Marks.mono {s s' : St} {n0 : Nat} {ms : List Nat} (h : Marks s n0 ms) (hev : Ev s s') : Marks s' n0 ms :=
 ⟨h.1, fun r hr => by
  obtain ⟨h1, h2, h3⟩ := h.2 r hr
  obtain ⟨h4, h5⟩ := hev.imm r h2
  exact ⟨h1, h4, h5.trans h3⟩⟩
theorem Marks.append {s s' : St} {n0 : Nat} {ms ms' : List Nat} (h : Marks s n0 ms) (hev : Ev s s') (h' : Marks s' s.w.heap.size ms') (hle : n0 ≤ s.w.heap.size) : Marks s' n0 (ms' ++ ms) := by
 have h1 := h.mono hev
 refine ⟨List.nodup_append.2 ⟨h'.1, h.1, fun r hr r' hr' e => ?_⟩, fun r hr => ?_⟩
 ·subst e;have := (h'.2 r hr).1
  have := (h.2 r hr').2.1.1
  omega
 ·rcases List.mem_append.1 hr with hr | hr
  ·obtain ⟨q1, q2⟩ := h'.2 r hr
   exact ⟨YZ hle q1, q2⟩
  ·exact h1.2 r hr
structure Aft (s : St) (n : Nat) (a : Act) (e' : Env) (σ' : Heap) (a' : Act) (w' : World) (ι' : Nat → Nat) : Prop where
 inv : Inv ⟨w', s.Y, σ', ι'⟩
 ev : Ev s ⟨w', s.Y, σ', ι'⟩
 env : EnvR ⟨w', s.Y, σ', ι'⟩ n e' a'
 marks : ∃ ms, a'.defers = ms.map mark ++ a.defers ∧ Marks ⟨w', s.Y, σ', ι'⟩ s.w.heap.size ms
theorem Then.aft {s : St} {n : Nat} {a : Act} {e' : Env} {σ' : Heap} {a' : Act} {w' : World} {ι' : Nat → Nat} (h : Then s n a e' σ' a' w' ι') : Aft s n a e' σ' a' w' ι' :=
 ⟨h.inv, h.ev, h.env, [], by simp [h.defers], Marks.nil _ _⟩
theorem Aft.refl {s : St} {n : Nat} {e : Env} {a : Act} (hi : Inv s) (he : EnvR s n e a) : Aft s n a e s.σ a s.w s.ι :=
 ⟨hi, Ev.refl s, he, [], rfl, Marks.nil _ _⟩
theorem Aft.trans {s : St} {n : Nat} {a : Act} {e1 e2 : Env} {σ1 σ2 : Heap} {a1 a2 : Act} {w1 w2 : World} {ι1 ι2 : Nat → Nat}
  (h : Aft s n a e1 σ1 a1 w1 ι1) (h' : Aft ⟨w1, s.Y, σ1, ι1⟩ n a1 e2 σ2 a2 w2 ι2) : Aft s n a e2 σ2 a2 w2 ι2 := by
 obtain ⟨ms, q1, q2⟩ := h.marks
 obtain ⟨ms', q1', q2'⟩ := h'.marks
 exact ⟨h'.inv, h.ev.trans h'.ev, h'.env, ms' ++ ms, by rw [q1', q1, Y0F, Yz], q2.append h'.ev q2' h.ev.size⟩
def Ex.out : Ex → Exit
 | .normal => .normal
 | .exit id => .exit id
 | .ret => .ret
def RdOK (rd : Option Nat) (s : St) : Prop := ∀ l, rd = some l → ∃ id, s.σ.isLoop id ∧ s.ι id = l
theorem RdOK.mono {rd : Option Nat} {s s' : St} (h : RdOK rd s) (hev : Ev s s') : RdOK rd s' := fun l hl => by
 obtain ⟨id, ⟨fn, e, n, ps, as_, bo, st, pend, h1⟩, h2⟩ := h l hl
 obtain ⟨⟨st', pend', h3⟩, h4⟩ := hev.loop _ _ _ _ _ _ _ _ _ h1
 exact ⟨id, ⟨_, _, _, _, _, _, _, _, h3⟩, h4.trans h2⟩
variable {X : Ctx} {n : Nat}
theorem enter_ok {s : St} {e : Env} {a : Act} {rd : Option Nat} (hi : Inv s) (he : EnvR s n e a) (hrd : RdOK rd s) (fn fn0 : FuncId) (ps : Array Nat) (as_ bo : Code) :
  ∃ l ms w1 ι1, (Instr.enterLoop fn0 a.tmps ps as_ bo rd).run X.P s.w = .ok (l, ms.map mark) w1 ∧
   Inv ⟨w1, s.Y, ⟨s.σ.nx + 1, upd s.σ.ent s.σ.nx (.loop fn e n ps.toList as_ bo .ready none)⟩, ι1⟩ ∧
   Ev s ⟨w1, s.Y, ⟨s.σ.nx + 1, upd s.σ.ent s.σ.nx (.loop fn e n ps.toList as_ bo .ready none)⟩, ι1⟩ ∧ ι1 s.σ.nx = l ∧
   Marks ⟨w1, s.Y, ⟨s.σ.nx + 1, upd s.σ.ent s.σ.nx (.loop fn e n ps.toList as_ bo .ready none)⟩, ι1⟩ s.w.heap.size ms := by
 cases rd with
 | none =>
  have ev0 : Ev s ((s.push (.deferred (some []))).more 1) := (push_ev _ _).trans (Z1O _)
  have i0 := Z4I (push_inv hi (.deferred (some []))) 1
  have hp : LPut ((s.push (.deferred (some []))).more 1) s.σ.nx fn e n ps.toList as_ bo .ready none (s.w.heap.size + 1)
    ((s.w.alloc (.deferred (some []))).alloc (.loop { state := .ready, pending := none, fn := fn0, tmps := a.tmps, params := ps, assign := as_, body := bo, defers := s.w.heap.size })) := by
   refine ⟨.inl ⟨hi.nx _ (YB _), by simp only [St.push, St.more, Z3Q]; exact YB _⟩, by simp only [St.push, St.more, Z3Q]; omega, fun b hb _ => Z26 hb, ⟨fn0, a.tmps, s.w.heap.size, ?_, he.1, fun t => ev0.pvr (he.2 t)⟩, Nat.lt_succ_self _, rfl, rfl, rfl⟩
   have := World.alloc_heap_new (s.w.alloc (.deferred (some []))) (.loop { state := .ready, pending := none, fn := fn0, tmps := a.tmps, params := ps, assign := as_, body := bo, defers := s.w.heap.size })
   rw [Z3Q] at this;exact this
  have hev := hp.ev i0
  refine ⟨s.w.heap.size + 1, [s.w.heap.size], _, _, run_enterLoop_outer _ _ _ _ _, hp.inv i0, ev0.trans hev, Z8 _ _ _, ?_⟩;have m0 : Marks ((s.push (.deferred (some []))).more 1) s.w.heap.size [s.w.heap.size] := by
   refine ⟨by simp, fun r hr => ?_⟩
   simp only [YQ] at hr;subst hr;refine ⟨YB _, ⟨by simp only [St.push, St.more, Z3Q]; omega, fun hy => ?_, fun id hl hh => ?_⟩, World.alloc_heap_new _ _⟩
   ·exact Nat.lt_irrefl _ (hi.Ylt _ hy)
   ·have := hl.lt hi
    simp only [St.more, St.push] at hh;omega
  exact m0.mono hev
 | some l0 =>
  obtain ⟨id0, ⟨f1, e1, n1, ps1, as1, bo1, st1, pend1, h1⟩, h2⟩ := hrd l0 rfl
  have h3 := hi.ent id0
  rw [h1] at h3;obtain ⟨f2, tm, df, h4, _⟩ := h3
  rw [h2] at h4;have i0 := Z4I hi 1
  have hp : LPut (s.more 1) s.σ.nx fn e n ps.toList as_ bo .ready none s.w.heap.size
    (s.w.alloc (.loop { state := .ready, pending := none, fn := fn0, tmps := a.tmps, params := ps, assign := as_, body := bo, defers := df })) := by
   refine ⟨.inl ⟨hi.nx _ (YB _), YB _⟩, by simp only [St.more, Z3Q]; omega, fun b hb _ => Z26 hb, ⟨fn0, a.tmps, df, World.alloc_heap_new _ _, he.1, fun t => (Z1O 1).pvr (he.2 t)⟩, Nat.lt_succ_self _, rfl, rfl, rfl⟩
  have hev := hp.ev i0
  refine ⟨s.w.heap.size, [], _, _, ?_, hp.inv i0, (Z1O 1).trans hev, Z8 _ _ _, Marks.nil _ _⟩;unfold Instr.enterLoop;simp only [Sem.run_bind, run_getLoop h4, run_newObj_alloc, Result.andThen, Sem.run_pure, List.map_nil]
theorem range_resolve {a : Act} {g : Operand} {l : Nat} {f : FuncId} {fv cv : Array Value} (h : a.eval g = .func (.func f) fv cv) :
  resolve a.eval (rangeCall g l) 0 = pure { target := .fn (.func f) cv, args := fv ++ #[.func (.yield l) #[] #[]] } := by
 simp only [resolve, rangeCall, h, Deferred.ofValue]
 simp [Act.eval]
variable {Q : Exit → Act → World → Prop} {m : Nat}
theorem range_ok {call : Zh} (hcall : Z2T X call) {s : St} {e : Env} {a : Act} {rd : Option Nat} {fn : FuncId} {lf : Nat} {g : Operand} {ps : Array Nat} {as_ bo : Code} {x : Ex} {e' : Env} {σ' : Heap}
  (hG : Z0A X s) (hi : Inv s) (he : EnvR s n e a) (hrd : RdOK rd s) (h : Z7 X call lf n fn (.rangeFunc g ps as_ bo) e s.σ = some (x, e', σ'))
  (hQ : ∀ a' w' ι', Aft s n a e' σ' a' w' ι' → Q x.out a' w') : (Code.rangeFunc g ps as_ bo).wpIn (Fw rd) m X.P Q a s.w := by
 refine wpIn_rangeFunc fun fn0 _ => ?_
 obtain ⟨l, ms, w1, ι1, hent, i1, ev1, hl, hms⟩ := enter_ok (X := X) hi he hrd fn fn0 ps as_ bo
 simp only [Z7] at h
 split at h
 ·rename_i gv hg;have hgv := Z3 hG he hg
  have key : ∀ f (first caps : List PV) fv cv, a.eval g = .func (.func f) fv cv → PVRs s first fv → PVRs s caps cv →
    (∃ r σ2, call (.fn f) (first ++ [PV.yld s.σ.nx] ++ caps) ⟨s.σ.nx + 1, upd s.σ.ent s.σ.nx (.loop fn e n ps.toList as_ bo .ready none)⟩ = some (r, σ2) ∧
     ∃ fn' e2 n' ps' as' bo' st pend, σ2.ent s.σ.nx = .loop fn' e2 n' ps' as' bo' st pend ∧ st ≠ .busy ∧ Z3z pend = some x ∧ e' = e ∧ σ' = σ2.put s.σ.nx (.loop fn' e2 n' ps' as' bo' .exhausted pend)) →
    ∃ (l : Nat) (mark : List Deferred) (w₁ : World) (d : Deferred) (w₁' : World) (f : FuncId) (args : Array Value) (w₂ : World),
     (Instr.enterLoop fn0 a.tmps ps as_ bo (Fw rd).round).run X.P s.w = .ok (l, mark) w₁ ∧
     (resolve a.eval (rangeCall g l) 0).run X.P w₁ = .ok d w₁' ∧
     (∀ f', Target.leads X.P w₁' d.target d.args = some f' → (Fw rd).fn f') ∧
     (invoke d.target d.args).run X.P w₁' = .ok (.enter f args) w₂ ∧
     ((Fw rd).depth.isSome = true → 1 ≤ m) ∧
     CallsIn (Fw rd) (m - 1) X.P f args w₂ (rangePost (Fw rd) m X.P l Q { a with defers := mark ++ a.defers }) := by
   rintro f first caps fv cv hev hf hc ⟨r, σ2, hr, fn', e2, n', ps', as', bo', st, pend, hen, hst, hj, rfl, rfl⟩;have hy : PVR ⟨w1, s.Y, ⟨s.σ.nx + 1, upd s.σ.ent s.σ.nx (.loop fn e' n ps.toList as_ bo .ready none)⟩, ι1⟩ (.yld s.σ.nx) (.func (.yield l) #[] #[]) := by
    rw [← hl];exact .yld (s := ⟨w1, s.Y, ⟨s.σ.nx + 1, upd s.σ.ent s.σ.nx (.loop fn e' n ps.toList as_ bo .ready none)⟩, ι1⟩) ⟨_, _, _, _, _, _, _, _, Z8 _ _ _⟩
   have hys : PVRs ⟨w1, s.Y, ⟨s.σ.nx + 1, upd s.σ.ent s.σ.nx (.loop fn e' n ps.toList as_ bo .ready none)⟩, ι1⟩ [.yld s.σ.nx] #[.func (.yield l) #[] #[]] :=
    ⟨rfl, fun i y hi => by
     cases i with
     | zero => simp at hi; subst hi; exact hy
     | succ i => simp at hi⟩
   obtain ⟨h1, h2⟩ := hcall (.fn f) _ r σ2 ⟨w1, s.Y, _, ι1⟩ hr i1 (hG.mono ev1) (fv ++ #[.func (.yield l) #[] #[]] ++ cv) (Z37 (Z37 (hf.mono ev1) hys) (hc.mono ev1))
   refine ⟨l, ms.map mark, w1, _, w1, f, fv ++ #[.func (.yield l) #[] #[]] ++ cv, w1, hent, by rw [range_resolve hev, Sem.run_pure], fun _ _ => trivial, ?_, Z5r rd m, ?_⟩
   ·simp only [invoke];exact h1
   ·refine (Calls.wide rd h2 (m - 1)).mono fun en w3 hh => ?_
    obtain ⟨v, rfl, ι2, i3, ev3, _⟩ := hh
    have e3 := i3.ent s.σ.nx
    rw [hen] at e3;obtain ⟨fn2, tm, df, q1, q2, q3⟩ := e3
    obtain ⟨⟨_, _, hlo⟩, hι⟩ := ev3.loop s.σ.nx _ _ _ _ _ _ _ _ (Z8 _ _ _)
    simp only at hlo hι;rw [hen] at hlo
    injection hlo with a1 a2 a3 a4 a5 a6 a7 a8
    have hl2 : ι2 s.σ.nx = l := hι.trans hl
    simp only [hl2] at q1;have hp : LPut ⟨w3, s.Y, σ2, ι2⟩ s.σ.nx fn' e2 n' ps' as' bo' .exhausted pend l (w3.putObj l (.loop { state := .exhausted, pending := pend, fn := fn2, tmps := tm, params := ps'.toArray, assign := as', body := bo', defers := df })) := by
     refine ⟨.inr ⟨⟨st, pend, hen⟩, hl2.symm⟩, by simp, fun b _ hb => World.putObj_heap_other hb, ⟨fn2, tm, df, World.putObj_heap_same (Array.getElem?_eq_some_iff.1 q1).1, q2, q3⟩, ?_, rfl, rfl, rfl⟩
     rcases YD s.σ.nx σ2.nx with h | h
     ·exact h
     ·have := i3.nx _ h
      simp only at this;rw [hen] at this;cases this
    have i4 := hp.inv i3
    have ev4 := (ev1.trans ev3).trans (hp.ev i3)
    have hQ' := hQ { a with defers := ms.map mark ++ a.defers } _ _ ⟨i4, ev4, (he.mono ev4), ms, rfl, (hms.mono ev3).mono (hp.ev i3)⟩
    refine ⟨pend, _, run_endLoop q1 hst, ?_⟩;cases pend with
    | none =>
     simp only [Z3z, Y5] at hj;subst hj;exact hQ'
    | some c =>
     cases c <;> simp only [Z3z, Y5] at hj <;> (try (cases hj; done))
     ·subst hj;exact wpIn_exit hQ'
     ·subst hj;exact wpIn_ret hQ'
  have fin : ∀ (r : Option (PV × Heap)), (match r with
    | some (_, σ2) =>
     match σ2.ent s.σ.nx with
     | .loop fn' e' n' ps' as' bo' st pend =>
      if st = LoopState.busy then none else
      match Z3z pend with
      | some x => some (x, e, σ2.put s.σ.nx (.loop fn' e' n' ps' as' bo' .exhausted pend))
      | none => none
     | _ => none
    | none => none) = some (x, e', σ') → ∃ q σ2, r = some (q, σ2) ∧ ∃ fn' e2 n' ps' as' bo' st pend, σ2.ent s.σ.nx = .loop fn' e2 n' ps' as' bo' st pend ∧ st ≠ .busy ∧ Z3z pend = some x ∧ e' = e ∧ σ' = σ2.put s.σ.nx (.loop fn' e2 n' ps' as' bo' .exhausted pend) := by
   intro r hr
   split at hr
   ·rename_i q σ2
    split at hr
    ·rename_i fn' e2 n' ps' as' bo' st pend hen
     split at hr
     ·cases hr
     ·rename_i hst
      split at hr
      ·rename_i x' hj;simp only [Y5, Y3] at hr;obtain ⟨rfl, rfl, rfl⟩ := hr
       exact ⟨q, σ2, rfl, fn', e2, n', ps', as', bo', st, pend, hen, hst, hj, rfl, rfl⟩
      ·cases hr
    ·cases hr
   ·cases hr
  cases gv with
  | v y =>
   cases y with
   | fn f =>
    have hfv := fn_inv hgv
    obtain ⟨q, σ2, h1, h2⟩ := fin _ h
    exact key f [] [] #[] #[] hfv ⟨rfl, fun i y hi => by simp at hi⟩ ⟨rfl, fun i y hi => by simp at hi⟩ ⟨q, σ2, h1, h2⟩
   | _ => simp at h
  | clo f first caps =>
   obtain ⟨fv, cv, hfv, hf1, hf2⟩ := clo_inv hgv
   obtain ⟨q, σ2, h1, h2⟩ := fin _ h
   exact key f first caps fv cv hfv hf1 hf2 ⟨q, σ2, h1, h2⟩
  | _ => simp at h
 ·cases h
theorem Z1l {P : Program} {b : Frame} {a : Act} {k : List Item} {cs : List Frame} {w : World} {c : Code} : step P (lone (b.atR a (.code (.scope c) :: k)) cs w) = .next (lone (b.atR a (.code c :: .inScope c :: k)) cs w) :=
 step_lone_go (by simp [stepG, stepG.exec, Frame.atR])
theorem stepR_inScope {P : Program} {b : Frame} {a : Act} {k : List Item} {cs : List Frame} {w : World} {c : Code} : step P (lone (b.atR a (.inScope c :: k)) cs w) = .next (lone (b.atR a k) cs w) :=
 step_lone_go (by simp [stepG, stepG.exec, Frame.atR])
theorem wpIn_scope {F : Fence} {n : Nat} {P : Program} {Q : Exit → Act → World → Prop} {a : Act} {w : World} {c : Code} (h : c.wpIn F n P (fun e a w => (∀ l, e ≠ .goto l) ∧ Q e a w) a w) : (Code.scope c).wpIn F n P Q a w := by
 intro b k cs hro hb hr
 have h0 : (lone (b.atR a (.code (.scope c) :: k)) cs w).fenced P F := fenced_calm hb hr rfl
 obtain ⟨e, a₁, w₁, hq, harr⟩ := h b (.inScope c :: k) cs hro hb hr
 cases e with
 | normal => exact ⟨.normal, a₁, w₁, hq.2, .head h0 Z1l (StepsIn.trans harr (.one (fenced_calm hb hr rfl) stepR_inScope))⟩
 | exit id =>
  have hx : exitTo id (.inScope c :: k) = exitTo id k := by simp [exitTo]
  exact ⟨.exit id, a₁, w₁, hq.2, fun k' hk => .head h0 Z1l (harr.1 k' (by rw [hx]; exact hk)),
   fun hr' hk => let ⟨k₁, h1, h2⟩ := harr.2 hr' (by rw [hx]; exact hk); ⟨k₁, h1, .head h0 Z1l h2⟩⟩
 | goto l => exact absurd rfl (hq.1 l)
 | ret => exact ⟨_, a₁, w₁, hq.2, .of_steps (.one h0 Z1l) harr⟩
 | panic ch => exact ⟨_, a₁, w₁, hq.2, .of_steps (.one h0 Z1l) harr⟩
 | outgrown => exact ⟨_, a₁, w₁, hq.2, .of_steps (.one h0 Z1l) harr⟩
theorem code_ok {call : Zh} (hm : X.P.follows .mixedOrders = true) (hcall : Z2T X call) (htame : Z0a call) (hcp : Z1W X call) {lf : Nat} {fn : FuncId} {rd : Option Nat} : ∀ (c : Code) {Q : Exit → Act → World → Prop} {s : St} {e : Env} {a : Act} {x : Ex} {e' : Env} {σ' : Heap},
  Z0A X s → Inv s → EnvR s n e a → RdOK rd s → Z7 X call lf n fn c e s.σ = some (x, e', σ') → (∀ a' w' ι', Aft s n a e' σ' a' w' ι' → Q x.out a' w') → c.wpIn (Fw rd) m X.P Q a s.w := by
 intro c
 induction c with
 | label l =>
  intro Q s e a x e' σ' hG hi he hrd h hQ;simp only [Z7, Y5, Y3] at h;obtain ⟨rfl, rfl, rfl⟩ := h
  exact wpIn_label (hQ a s.w s.ι (Aft.refl hi he))
 | scope c ih =>
  intro Q s e a x e' σ' hG hi he hrd h hQ;simp only [Z7] at h;refine wpIn_scope ?_;exact ih hG hi he hrd h fun a' w' ι' ht => ⟨fun l => by cases x <;> simp [Ex.out], hQ a' w' ι' ht⟩
 | skip =>
  intro Q s e a x e' σ' hG hi he hrd h hQ;simp only [Z7, Y5, Y3] at h;obtain ⟨rfl, rfl, rfl⟩ := h
  exact wpIn_skip (hQ a s.w s.ι (Aft.refl hi he))
 | region id ops draw =>
  intro Q s e a x e' σ' hG hi he hrd h hQ;simp only [Z7] at h
  split at h
  ·rename_i hd;subst hd
   split at h
   ·rename_i hok;simp only [Y1, Y3] at h;obtain ⟨⟨e1, σ1⟩, h1, rfl, rfl, rfl⟩ := h
    exact draw_ok hm hcall htame hcp hok hG hi he h1 fun a' w' ι' ht => hQ a' w' ι' ht.aft
   ·cases h
  ·rename_i hd;simp only [Y02] at hd;subst hd;simp only [Y1, Y3] at h;obtain ⟨⟨e1, σ1⟩, h1, rfl, rfl, rfl⟩ := h
   exact region_ok hcall htame hG hi he h1 fun a' w' ι' ht => hQ a' w' ι' ht.aft
 | seq c1 c2 ih1 ih2 =>
  intro Q s e a x e' σ' hG hi he hrd h hQ;simp only [Z7] at h;refine wpIn_seq ?_
  split at h
  ·rename_i e1 σ1 h1;refine ih1 hG hi he hrd h1 fun a1 w1 ι1 ht => ?_
   exact ih2 (s := ⟨w1, s.Y, σ1, ι1⟩) (hG.mono ht.ev) ht.inv ht.env (hrd.mono ht.ev) h fun a' w' ι' ht' => hQ a' w' ι' (ht.trans ht')
  ·rename_i hn;refine ih1 hG hi he hrd h fun a1 w1 ι1 ht => ?_
   cases x with
   | normal => exact absurd h (hn _ _)
   | exit id => exact hQ _ _ _ ht
   | ret => exact hQ _ _ _ ht
 | cond c c1 c2 ih1 ih2 =>
  intro Q s e a x e' σ' hG hi he hrd h hQ;simp only [Z7] at h
  split at h
  ·rename_i hc;exact wpIn_cond_true (Z1H (Z3 hG he hc)) (ih1 hG hi he hrd h hQ)
  ·rename_i hc;exact wpIn_cond_false (Z1H (Z3 hG he hc)) (ih2 hG hi he hrd h hQ)
  ·cases h
 | block id c ih =>
  intro Q s e a x e' σ' hG hi he hrd h hQ;simp only [Z7] at h;refine wpIn_block ?_
  split at h
  ·rename_i id' e1 σ1 h1;refine ih hG hi he hrd h1 fun a1 w1 ι1 ht => ?_
   simp only [Ex.out, Exit.inBlock]
   split at h
   ·rename_i hid;rw [if_pos hid];simp only [Y5, Y3] at h;obtain ⟨rfl, rfl, rfl⟩ := h
    exact hQ _ _ _ ht
   ·rename_i hid;rw [if_neg hid];simp only [Y5, Y3] at h;obtain ⟨rfl, rfl, rfl⟩ := h
    exact hQ _ _ _ ht
  ·rename_i hn;refine ih hG hi he hrd h fun a1 w1 ι1 ht => ?_
   cases x with
   | normal => exact hQ _ _ _ ht
   | exit id => exact absurd h (hn _ _ _)
   | ret => exact hQ _ _ _ ht
 | loop c ih =>
  intro Q s e a x e' σ' hG hi he hrd h hQ;simp only [Z7] at h;refine wpIn_loop_rounds lf ?_;have key : ∀ (k : Nat) {s : St} {e : Env} {a : Act}, Z0A X s → Inv s → EnvR s n e a → RdOK rd s → Z1P (Z7 X call lf n fn c) k e s.σ = some (x, e', σ') →
    (∀ a' w' ι', Aft s n a e' σ' a' w' ι' → Q x.out a' w') → Code.roundsIn (Fw rd) m X.P c Q k a s.w := by
   intro k
   induction k with
   | zero => intro s e a _ _ _ _ h; simp [Z1P] at h
   | succ k ihk =>
    intro s e a hG hi he hrd h hQ;simp only [Z1P] at h;rw [roundsIn_succ]
    split at h
    ·rename_i e1 σ1 h1;refine ih hG hi he hrd h1 fun a1 w1 ι1 ht => ?_
     exact ihk (s := ⟨w1, s.Y, σ1, ι1⟩) (hG.mono ht.ev) ht.inv ht.env (hrd.mono ht.ev) h fun a' w' ι' ht' => hQ a' w' ι' (ht.trans ht')
    ·rename_i hn;refine ih hG hi he hrd h fun a1 w1 ι1 ht => ?_
     cases x with
     | normal => exact absurd h (hn _ _)
     | exit id => exact hQ _ _ _ ht
     | ret => exact hQ _ _ _ ht
  exact key lf hG hi he hrd h hQ
 | exit id =>
  intro Q s e a x e' σ' hG hi he hrd h hQ;simp only [Z7, Y5, Y3] at h;obtain ⟨rfl, rfl, rfl⟩ := h
  exact wpIn_exit (hQ a s.w s.ι (Aft.refl hi he))
 | ret =>
  intro Q s e a x e' σ' hG hi he hrd h hQ;simp only [Z7, Y5, Y3] at h;obtain ⟨rfl, rfl, rfl⟩ := h
  exact wpIn_ret (hQ a s.w s.ι (Aft.refl hi he))
 | rangeFunc g ps as_ bo _ _ =>
  intro Q s e a x e' σ' hG hi he hrd h hQ;exact range_ok hcall hG hi he hrd h hQ
 | _ =>
  intro Q s e a x e' σ' hG hi he hrd h hQ;simp [Z7] at h
end Go.Dn

namespace Go.Dn
open Go
variable {X : Ctx} {s : St} {n : Nat}
def shut (w : World) : List Nat → World
 | [] => w
 | r :: rs => shut (w.putObj r (.deferred none)) rs
theorem Z4y : ∀ (ms : List Nat) (w : World), (shut w ms).heap.size = w.heap.size ∧ (∀ b, b ∉ ms → (shut w ms).heap[b]? = w.heap[b]?) ∧ (shut w ms).os = w.os ∧ (shut w ms).tape = w.tape ∧ (shut w ms).output = w.output
 | [], w => ⟨rfl, fun _ _ => rfl, rfl, rfl, rfl⟩
 | r :: rs, w => by
  obtain ⟨h1, h2, h3, h4, h5⟩ := Z4y rs (w.putObj r (.deferred none))
  refine ⟨by simp only [shut]; rw [h1]; simp, fun b hb => ?_, h3, h4, h5⟩
  simp only [List.mem_cons, not_or] at hb;simp only [shut];rw [h2 b hb.2];exact World.putObj_heap_other hb.1
theorem Z3b {F : Fence} {m : Nat} {P : Program} {fn : Func} {tmps : Array Value} {R : Ending → World → Prop} : ∀ (ms : List Nat) (w : World), ms.Nodup → (∀ r ∈ ms, w.heap[r]? = some (.deferred (some []))) →
  (∃ v, (results fn tmps).run P (shut w ms) = .ok v (shut w ms) ∧ R (.returned v) (shut w ms)) → LeavesInM F m P fn tmps R (ms.map mark) .returning w
 | [], w, _, _, h => h
 | r :: rs, w, hn, hd, h => by
  obtain ⟨hr, hrs⟩ := List.nodup_cons.1 hn
  refine ⟨by simp, .inl ⟨r, _, rfl, run_takeDeferred (hd r (by simp)), ?_⟩⟩
  refine Z3b rs _ hrs (fun r' hr' => ?_) h
  rw [World.putObj_heap_other (fun e : r' = r => hr (e ▸ hr'))]
  exact hd r' (by simp [hr'])
section shut
variable {ms : List Nat} {w2 : World}
theorem shut_cell (hkeep : ∀ b, b ∉ ms → w2.heap[b]? = s.w.heap[b]?) (hms : ∀ r ∈ ms, s.w.heap[r]? = some (.deferred (some []))) {b i : Nat} {u : Value} (h : s.w.cell? ⟨b, i, none⟩ = some u) : w2.cell? ⟨b, i, none⟩ = some u := by
 have : b ∉ ms := fun hb => by
  simp only [World.cell?, hms b hb] at h;cases h
 rw [← h]
 simp only [World.cell?, hkeep b this]
theorem Z7X (hkeep : ∀ b, b ∉ ms → w2.heap[b]? = s.w.heap[b]?) (hms : ∀ r ∈ ms, s.w.heap[r]? = some (.deferred (some []))) {b : Nat} {cs : Array Value} {el : TypeId} {fr : Nat × Nat} (h : s.w.heap[b]? = some (.cells cs el fr)) : w2.heap[b]? = some (.cells cs el fr) := by
 have : b ∉ ms := fun hb => by
  rw [hms b hb] at h;cases h
 rw [hkeep b this, h]
theorem shut_imm (hsz : w2.heap.size = s.w.heap.size) (b : Nat) : s.imm b ↔ (⟨w2, s.Y, s.σ, s.ι⟩ : St).imm b := by
 simp only [St.imm, Imm, hsz]
theorem shut_fvr (hsz : w2.heap.size = s.w.heap.size) (hkeep : ∀ b, b ∉ ms → w2.heap[b]? = s.w.heap[b]?) (hms : ∀ r ∈ ms, s.w.heap[r]? = some (.deferred (some []))) {x : FV} {v : Value} (h : FVR s.w s.imm x v) : FVR w2 (⟨w2, s.Y, s.σ, s.ι⟩ : St).imm x v := by
 induction h with
 | bool b => exact .bool b
 | int k n => exact .int k n
 | str s => exact .str s
 | nilp => exact .nilp
 | nilf => exact .nilf
 | fn f => exact .fn f
 | nil => exact .nil
 | empty a cap => exact .empty a cap
 | sl xs b off cap sz vals himm hcap hsz' hcell hval ih =>
  exact .sl xs b off cap sz vals ((shut_imm hsz b).1 himm) hcap hsz' (fun i j hi hj => shut_cell hkeep hms (hcell i j hi hj)) ih
theorem Z5i (hsz : w2.heap.size = s.w.heap.size) (hkeep : ∀ b, b ∉ ms → w2.heap[b]? = s.w.heap[b]?) (hms : ∀ r ∈ ms, s.w.heap[r]? = some (.deferred (some []))) {x : PV} {v : Value} (h : PVR s x v) : PVR ⟨w2, s.Y, s.σ, s.ι⟩ x v := by
 induction h with
 | undef => exact .undef
 | v hx => exact .v (shut_fvr hsz hkeep hms hx)
 | nils => exact .nils
 | full hx => exact .full (shut_fvr hsz hkeep hms hx)
 | buf hb hv ho hk =>
  refine .buf (s := ⟨w2, s.Y, s.σ, s.ι⟩) hb hv ho fun e => ?_
  obtain ⟨cap, cs, el, fr, q1, q2, q3, q4⟩ := hk e
  exact ⟨cap, cs, el, fr, q1, q2, Z7X hkeep hms q3, q4⟩
 | ptr hb hv ho hk => exact .ptr (s := ⟨w2, s.Y, s.σ, s.ι⟩) hb hv ho hk
 | fptr himm hcell =>
  refine .fptr ((shut_imm hsz _).1 himm) fun j x hj => ?_
  obtain ⟨u, h1, h2⟩ := hcell j x hj
  exact ⟨u, shut_cell hkeep hms h1, shut_fvr hsz hkeep hms h2⟩
 | clo hf hc _ _ ih1 ih2 => exact .clo hf hc ih1 ih2
 | yld hl => exact .yld (s := ⟨w2, s.Y, s.σ, s.ι⟩) hl
 | agg hs _ ho ih => exact .agg hs ih ho
 | tup hs _ ih => exact .tup hs ih
 | mp hm => exact .mp (s := ⟨w2, s.Y, s.σ, s.ι⟩) hm
theorem shut_inv (hsz : w2.heap.size = s.w.heap.size) (hkeep : ∀ b, b ∉ ms → w2.heap[b]? = s.w.heap[b]?) (hms : ∀ r ∈ ms, s.w.heap[r]? = some (.deferred (some []))) (hi : Inv s) : Inv ⟨w2, s.Y, s.σ, s.ι⟩ := by
 refine ⟨fun id => ?_, hi.inj, hi.notY, fun id el c h => (shut_imm hsz _).1 (hi.fz id el c h), hi.nx, fun b hb => by simp only [hsz]; exact hi.Ylt b hb⟩
 have he := hi.ent id
 simp only
 cases hent : s.σ.ent id with
 | none => trivial
 | blk el' c lv =>
  rw [hent] at he;obtain ⟨cs, fr, q1, q2, q3, q4⟩ := he
  exact ⟨cs, fr, Z7X hkeep hms q1, q2, q3, fun j x hj => by
   obtain ⟨u, hu, hp, ho⟩ := q4 j x hj
   exact ⟨u, hu, Z5i hsz hkeep hms hp, ho⟩⟩
 | loop fn' e' n' ps' as' bo' st' pend' =>
  rw [hent] at he;obtain ⟨fn2, tmps, defers, q1, q2, q3⟩ := he
  have : s.ι id ∉ ms := fun hb => by
   rw [hms _ hb] at q1;cases q1
  exact ⟨fn2, tmps, defers, (hkeep _ this).trans q1, q2, fun t => Z5i hsz hkeep hms (q3 t)⟩
 | map kv =>
  rw [hent] at he;have : s.ι id ∉ ms := fun hb => by
   have q1 : s.w.heap[s.ι id]? = some (mobj kv) := he
   rw [hms _ hb] at q1;cases q1
  exact (hkeep _ this).trans he
end shut
theorem shut_ev {s0 : St} {ms : List Nat} {w2 : World} (hev : Ev s0 s) (hsz : w2.heap.size = s.w.heap.size) (hkeep : ∀ b, b ∉ ms → w2.heap[b]? = s.w.heap[b]?) (hms : ∀ r ∈ ms, s0.w.heap.size ≤ r)
  (ho : w2.os = s.w.os) (ht : w2.tape = s.w.tape) (hp : w2.output = s.w.output) : Ev s0 ⟨w2, s.Y, s.σ, s.ι⟩ where
 Y := hev.Y
 size := by simp only [hsz]; exact hev.size
 keep := fun b hb hl => by
  rw [← hev.keep b hb hl];exact hkeep b fun hm => by have := hms b hm; omega
 live := hev.live
 blk := fun id el cells lv h => by
  obtain ⟨c', l', e', hle, hk⟩ := hev.blk id el cells lv h
  refine ⟨c', l', e', hle, fun heq => ?_⟩
  obtain ⟨h1, h2⟩ := hk heq
  refine ⟨h1, fun cs e fr hc => ?_⟩
  obtain ⟨cs', fr', h3, h4⟩ := h2 cs e fr hc
  exact ⟨cs', fr', by rw [← h3]; exact hkeep _ fun hm => by have := hms _ hm; have := (Array.getElem?_eq_some_iff.1 hc).1; omega, h4⟩
 loop := hev.loop
 map := hev.map
 os := ho.trans hev.os
 tape := ht.trans hev.tape
 output := hp.trans hev.output
theorem grow_ev {w' : World} (hi : Inv s) (hsz : s.w.heap.size ≤ w'.heap.size) (hk : ∀ b, b < s.w.heap.size → w'.heap[b]? = s.w.heap[b]?) (ho : w'.os = s.w.os) (ht : w'.tape = s.w.tape) (hp : w'.output = s.w.output) :
  Ev s ⟨w', s.Y, s.σ, s.ι⟩ ∧ Inv ⟨w', s.Y, s.σ, s.ι⟩ := by
 have hev : Ev s ⟨w', s.Y, s.σ, s.ι⟩ :=
  { Y := rfl, size := hsz, keep := fun b hb _ => hk b hb, live := fun id h _ => ⟨id, h, rfl⟩, blk := fun id el cells lv h => ⟨cells, lv, h, YB _, fun _ => ⟨rfl, fun cs e fr h => ⟨cs, fr, by rw [← h]; exact hk _ (Array.getElem?_eq_some_iff.1 h).1, rfl⟩⟩⟩, loop := fun id fn e n ps as_ bo st pend h => ⟨⟨st, pend, h⟩, rfl⟩, map := fun id kv h => ⟨⟨kv, h⟩, rfl⟩, os := ho, tape := ht, output := hp }
 refine ⟨hev, fun id => ?_, hi.inj, hi.notY, fun id el c h => (hev.imm _ (hi.fz id el c h)).1, hi.nx, fun b hb => YM (hi.Ylt b hb) hsz⟩
 have he := hi.ent id
 simp only
 cases hent : s.σ.ent id with
 | none => trivial
 | blk el' c lv =>
  rw [hent] at he;obtain ⟨cs, fr, q1, q2, q3, q4⟩ := he
  exact ⟨cs, fr, (hk _ (Array.getElem?_eq_some_iff.1 q1).1).trans q1, q2, q3, fun j x hj => by
   obtain ⟨u, hu, hp, ho⟩ := q4 j x hj
   exact ⟨u, hu, hev.pvr hp, ho⟩⟩
 | loop fn' e' n' ps' as' bo' st' pend' =>
  rw [hent] at he;obtain ⟨fn2, tmps, defers, q1, q2, q3⟩ := he
  exact ⟨fn2, tmps, defers, (hk _ (Array.getElem?_eq_some_iff.1 q1).1).trans q1, q2, fun t => hev.pvr (q3 t)⟩
 | map kv => rw [hent] at he; exact (hk _ (Array.getElem?_eq_some_iff.1 he).1).trans he
def Z4n : PV → Bool
 | .undef | .v _ | .fptr _ => true
 | .agg cs => cs.all PV.isV
 | _ => false
def flat : PV → Bool
 | .tup xs => xs.all Z4n
 | x => Z4n x
theorem Z62 {s' : St} {x : PV} {v : Value} (hm : ∀ b, s.imm b → s'.imm b ∧ s'.w.heap[b]? = s.w.heap[b]?) (hf : Z4n x = true) (h : PVR s x v) : PVR s' x v := by
 cases h with
 | undef => exact .undef
 | v hx => exact .v (hx.mono hm)
 | fptr himm hcell =>
  refine .fptr (hm _ himm).1 fun j x hj => ?_
  obtain ⟨u, h1, h2⟩ := hcell j x hj
  refine ⟨u, ?_, h2.mono hm⟩;rw [← h1];simp only [World.cell?, (hm _ himm).2]
 | @agg cells cs hs h ho =>
  refine .agg hs (fun i x hi => ?_) ho
  simp only [Z4n, YI] at hf;have h1 := hf x (Y7 hi)
  have h2 := h i x hi
  cases x <;> simp [PV.isV] at h1
  generalize cs.getD i Go.undef = u at h2;cases h2 with
  | v hx => exact .v (hx.mono hm)
 | _ => simp [Z4n] at hf
theorem flat_pvr {s' : St} {x : PV} {v : Value} (hm : ∀ b, s.imm b → s'.imm b ∧ s'.w.heap[b]? = s.w.heap[b]?) (hf : flat x = true) (h : PVR s x v) : PVR s' x v := by
 cases x with
 | tup xs =>
  cases h with
  | tup hs h =>
   refine .tup hs fun i x hi => ?_
   simp only [flat, YI] at hf;exact Z62 hm (hf x (Y7 hi)) (h i x hi)
 | _ => exact Z62 hm hf h
theorem pure_flat {x : PV} (h : x.pure = true) : flat x = true ∧ Z4n x = true := by
 cases x <;> simp [PV.pure] at h <;> simp [flat, Z4n]
 ·exact h
theorem vs_all (xs : List FV) : (vs xs).all PV.isV = true := by
 rw [YI]
 intro x hx
 simp only [vs, List.mem_map] at hx
 obtain ⟨y, _, rfl⟩ := hx
 rfl
theorem Z6g {σ σ' : Heap} {x y : PV} (h : Z07 σ x = some (y, σ')) : Z4n y = true ∧ ∀ ts, y ≠ .tup ts := by
 have one : ∀ {x : PV}, (ZY 6 σ x).bind (fun r => some (PV.v r.1, r.2)) = some (y, σ') → Z4n y = true ∧ ∀ ts, y ≠ .tup ts := by
  intro x h;simp only [Y4, Y5, Y3] at h;obtain ⟨⟨z, σ1⟩, h1, rfl, rfl⟩ := h
  exact ⟨rfl, by simp⟩
 unfold Z07 at h
 split at h
 ·simp only [Y4, Y5, Y3] at h;obtain ⟨⟨z, σ1⟩, h1, rfl, rfl⟩ := h
  exact ⟨vs_all _, by simp⟩
 ·cases h; exact ⟨rfl, by simp⟩
 ·cases h; exact ⟨rfl, by simp⟩
 ·cases h
 ·exact one h
theorem Z5S : ∀ {xs ys : List PV} {σ σ' : Heap}, Z12 σ xs = some (ys, σ') → ys.all Z4n = true
 | [], ys, σ, σ', h => by simp [Z12] at h; rw [h.1]; rfl
 | x :: xs, ys, σ, σ', h => by
  simp only [Z12, Y4, Y5, Y3] at h;obtain ⟨⟨y, σ1⟩, h1, ⟨zs, σ2⟩, h2, rfl, rfl⟩ := h
  simp only [Yi, Y9];exact ⟨(Z6g h1).1, Z5S h2⟩
theorem expRes_flat {σ σ' : Heap} {x y : PV} (h : Z0e σ x = some (y, σ')) : flat y = true := by
 unfold Z0e at h
 split at h
 ·simp only [Y4, Y5, Y3] at h;obtain ⟨⟨z, σ1⟩, h1, rfl, rfl⟩ := h
  exact Z5S h1
 ·obtain ⟨h1, h2⟩ := Z6g h
  cases y <;> first | exact h1 | exact absurd rfl (h2 _)
theorem expCell_v {σ : Heap} {y : FV} : ZY 6 σ (.v y) = some (y, σ) := rfl
theorem Z4p {σ : Heap} : ∀ (cs : List PV), cs.all PV.isV = true → ∃ ys, Zl (ZY 6) σ cs = some (ys, σ) ∧ vs ys = cs
 | [], _ => ⟨[], rfl, rfl⟩
 | x :: cs, h => by
  simp only [Yi, Y9] at h;obtain ⟨ys, h1, h2⟩ := Z4p (σ := σ) cs h.2
  cases x <;> simp [PV.isV] at h
  rename_i y;exact ⟨y :: ys, by simp only [Zl, expCell_v, Y0, h1], by simp only [vs, List.map_cons] at h2 ⊢; rw [h2]⟩
theorem Z2z {σ : Heap} {x : PV} (h : x.pure = true) : Z0s σ x = some (x, σ) := by
 cases x <;> simp [PV.pure] at h
 ·rfl
 ·rfl
 ·rename_i cs;obtain ⟨ys, h1, h2⟩ := Z4p (σ := σ) cs (by simpa using h)
  simp [Z0s, Z07, Z32, h1, h2]
theorem Z1L {σ : Heap} : ∀ {xs : List PV}, xs.all PV.pure = true → Z06 σ xs = some (xs, σ)
 | [], _ => rfl
 | x :: xs, h => by
  simp only [Yi, Y9] at h;simp [Z06, Z2z h.1, Z1L h.2]
theorem pure_calm {xs : List PV} (h : xs.all PV.pure = true) : xs.all PV.calm = true := by
 rw [YI] at h ⊢
 intro x hx
 have := h x hx
 cases x <;> simp only [PV.pure, PV.calm, YA] at this ⊢
 rw [YI] at this ⊢
 intro y hy
 have := this y hy
 cases y <;> simp only [PV.isV, PV.isN, YA] at this ⊢
theorem Z4j : ∀ (cs : List PV), cs.all PV.isN = true → ∃ ys, ∀ σ, Zl (ZY 6) σ cs = some (ys, σ)
 | [], _ => ⟨[], fun _ => rfl⟩
 | x :: cs, h => by
  simp only [Yi, Y9] at h;obtain ⟨ys, h1⟩ := Z4j cs h.2
  have h0 : ∃ y, ∀ σ, ZY 6 σ x = some (y, σ) := by
   cases x <;> simp only [PV.isN, YA, false_and] at h
   ·exact ⟨_, fun _ => rfl⟩
   ·exact ⟨_, fun _ => rfl⟩
   ·exact ⟨_, fun _ => rfl⟩
  obtain ⟨y, hy⟩ := h0
  exact ⟨y :: ys, fun σ => by simp only [Zl, hy, Y0, h1]⟩
theorem expArg_calm {x : PV} (h : x.calm = true) : ∃ y : PV, y.pure = true ∧ ∀ σ, Z0s σ x = some (y, σ) := by
 have one : ∀ {y : FV}, (∀ σ, Z0s σ x = some (.v y, σ)) → ∃ y : PV, y.pure = true ∧ ∀ σ, Z0s σ x = some (y, σ) := fun {y} h => ⟨.v y, rfl, h⟩
 cases x with
 | v y => exact one (y := y) fun _ => rfl
 | nils => exact one (y := .sl []) fun _ => rfl
 | full xs => exact one (y := .sl xs) fun _ => rfl
 | fptr cs => exact ⟨.fptr cs, rfl, fun _ => rfl⟩
 | agg cs =>
  obtain ⟨ys, h1⟩ := Z4j cs h
  refine ⟨.agg (vs ys), ?_, fun σ => ?_⟩
  ·simp [PV.pure, vs, PV.isV]
  ·simp only [Z0s, Z07, Z32, h1, Y0]
 | _ => simp only [PV.calm, YA] at h
theorem Z5R : ∀ {xs : List PV}, xs.all PV.calm = true → ∃ ys : List PV, ys.all PV.pure = true ∧ ∀ σ, Z06 σ xs = some (ys, σ)
 | [], _ => ⟨[], rfl, fun _ => rfl⟩
 | x :: xs, h => by
  simp only [Yi, Y9] at h;obtain ⟨y, h1, h2⟩ := expArg_calm h.1
  obtain ⟨ys, h3, h4⟩ := Z5R h.2
  exact ⟨y :: ys, by simp only [Yi, h1, h3, Y07], fun σ => by simp only [Z06, h2, Y0, h4]⟩
theorem Z6w (hi : Inv s) {fn : Func} {e : Env} {a : Act} (he : EnvR s n e a) {xs : List PV} (h : Zq X.P e s.σ fn.results.toList = some xs) :
  ∃ v, (results fn a.tmps).run X.P s.w = .ok v s.w ∧ PVR s (Z0w xs) v := by
 let q : ResultVar → Sem Value := fun
  | .tmp t => pure (a.tmps.getD t undef)
  | .cell ad t => do loadVar t (← asAddr (a.tmps.getD ad undef))
 have key : ∀ (rs : List ResultVar) (xs : List PV), Zq X.P e s.σ rs = some xs → ∃ us : List Value, (rs.mapM q).run X.P s.w = .ok us s.w ∧ us.length = xs.length ∧ ∀ (i : Nat) (x : PV), xs[i]? = some x → PVR s x ((us[i]?).getD Go.undef) := by
  intro rs
  induction rs with
  | nil => intro xs h; simp [Zq] at h; subst h; exact ⟨[], by simp, rfl, by simp⟩
  | cons r rs ih =>
   intro xs h;have one : ∃ x ys u, (q r).run X.P s.w = .ok u s.w ∧ PVR s x u ∧ Zq X.P e s.σ rs = some ys ∧ xs = x :: ys := by
    cases r with
    | tmp t =>
     simp only [Zq, Y1] at h;obtain ⟨ys, h1, rfl⟩ := h
     exact ⟨e t, ys, _, by simp [q], he.2 t, h1, rfl⟩
    | cell ad t =>
     simp only [Zq, Y4, Y1] at h;obtain ⟨x, h1, ys, h2, rfl⟩ := h
     obtain ⟨addr, u, h3, h4, h5⟩ := load_ok (P := X.P) hi (he.2 ad) h1
     refine ⟨x, ys, u, ?_, h5, h2, rfl⟩
     show ((do loadVar t (← asAddr (a.tmps.getD ad undef)) : Sem Value)).run X.P s.w = _
     rw [h3];simp [asAddr, h4]
   obtain ⟨x, ys, u, h1, h2, h3, rfl⟩ := one
   obtain ⟨us, h4, h5, h6⟩ := ih ys h3
   refine ⟨u :: us, by simp [List.mapM_cons, h1, h4], by simp [h5], fun i y hi => ?_⟩
   cases i with
   | zero => simp at hi; subst hi; exact h2
   | succ i => exact h6 i y (by simpa using hi)
 obtain ⟨us, h1, h2, h3⟩ := key _ _ h
 have hr : (results fn a.tmps).run X.P s.w = .ok (if h : us.toArray.size = 1 then us.toArray[0] else .tuple us.toArray) s.w := by
  have : results fn a.tmps = (do let vs ← fn.results.mapM q; pure (if h : vs.size = 1 then vs[0] else .tuple vs)) := rfl
  rw [this, Array.mapM_eq_mapM_toList];simp [Sem.run_bind, h1]
 refine ⟨_, hr, ?_⟩
 cases xs with
 | nil =>
  have : us = [] := List.length_eq_zero_iff.1 h2
  subst this;exact .tup rfl (fun i x hi => by simp at hi)
 | cons x xs =>
  cases xs with
  | nil =>
   cases us with
   | nil => simp at h2
   | cons u us =>
    have : us = [] := List.length_eq_zero_iff.1 (by simpa using h2)
    subst this;have := h3 0 x (by simp)
    simpa [Z0w] using this
  | cons y ys =>
   have hne : us.toArray.size ≠ 1 := by simp [h2]
   rw [dif_neg hne];refine .tup (by simp [h2]) fun i z hz => ?_
   have := h3 i z hz
   simpa [Y6] using this
theorem env_of {args : List PV} {vs : Array Value} {k : Nat} (h : PVRs s args vs) : EnvR s (max k args.length) (Z40 args) { tmps := vs ++ Array.replicate (k - vs.size) undef, defers := [] } := by
 refine ⟨by simp [h.1]; omega, fun t => ?_⟩
 unfold Z40
 rw [YS]
 simp only [Y6, Array.getElem?_append]
 by_cases ht : t < args.length
 ·have h1 := h.2 t args[t] (by simp [ht])
  have ht' : t < vs.size := by rw [← h.1]; exact ht
  simpa [ht, ht', Y6] using h1
 ·have ht' : ¬ t < vs.size := by rw [← h.1]; exact ht
  rw [if_neg ht', YU (by omega)]
  simp only [Option.getD_none]
  by_cases h2 : t - vs.size < k - vs.size
  ·simp [h2]; exact .undef
  ·simp [h2]; exact .undef
theorem body_ok {call : Zh} (hm : X.P.follows .mixedOrders = true) (hnm : ∀ (f : FuncId) (fn : Func), X.P.funcs[f]? = some fn → (fn.name == "runtime.NumGoroutine") = false)
  (hcall : Z2T X call) (htame : Z0a call) (hcp : Z1W X call) {lf : Nat} {f : FuncId} {args : List PV} {vs : Array Value} {r : PV} {σ' : Heap} (hi : Inv s) (hG : Z0A X s) (hv : PVRs s args vs) (h : Z0m X call lf f args s.σ = some (r, σ')) :
  (callFunc f vs).run X.P s.w = .ok (.enter f vs) s.w ∧ Calls X.P f vs s.w fun en w' => ∃ v, en = .returned v ∧ Post s r σ' v w' := by
 unfold Z0m at h
 split at h
 ·cases h
 ·rename_i fn hfn
  split at h
  ·cases h
  ·rename_i c hb;refine ⟨?_, ?_⟩
   ·have hp : (program).run X.P s.w = .ok X.P s.w := rfl
    simp only [callFunc, Sem.run_bind, hp, Result.andThen_ok, hfn, hnm f fn hfn, hb]
    simp
   ·have fin : ∀ (x : Ex) (e1 : Env) (σ1 : Heap), Z7 X call lf (max fn.ntmps args.length) f c (Z40 args) s.σ = some (x, e1, σ1) → (x = .normal ∨ x = .ret) →
      ((Zq X.P e1 σ1 fn.results.toList).map fun xs => (Z0w xs, σ1)) = some (r, σ') → Calls X.P f vs s.w fun en w' => ∃ v, en = .returned v ∧ Post s r σ' v w' := by
     intro x e1 σ1 h1 hx h2;simp only [Y1, Y3] at h2;obtain ⟨xs, h2, rfl, rfl⟩ := h2
     have hw : CallsIn (Fw none) 0 X.P f vs s.w fun en w' => ∃ v, en = .returned v ∧ Post s (Z0w xs) σ1 v w' := by
      refine callsIn_of_wp_marks hfn hb trivial ?_ rfl;refine code_ok hm hcall htame hcp c hG hi (env_of hv) (fun l hl => by cases hl) h1 fun a' w' ι' ht => ?_
      obtain ⟨ms, hd, hmk⟩ := ht.marks
      have hd : a'.defers = ms.map mark := by simpa using hd
      have hml : ∀ r ∈ ms, w'.heap[r]? = some (.deferred (some [])) := fun r hr => (hmk.2 r hr).2.2
      obtain ⟨g1, g2, g3, g4, g5⟩ := Z4y ms w'
      have hi2 := shut_inv (s := ⟨w', s.Y, σ1, ι'⟩) g1 g2 hml ht.inv
      have he2 : EnvR ⟨shut w' ms, s.Y, σ1, ι'⟩ (max fn.ntmps args.length) e1 a' := ⟨ht.env.1, fun t => Z5i (s := ⟨w', s.Y, σ1, ι'⟩) g1 g2 hml (ht.env.2 t)⟩
      have hev2 := shut_ev ht.ev g1 g2 (fun r hr => (hmk.2 r hr).1) g3 g4 g5
      obtain ⟨v, h3, h4⟩ := Z6w (X := X) hi2 he2 h2
      have hl : LeavesInM (Fw none) 0 X.P fn a'.tmps (fun en w' => ∃ v, en = .returned v ∧ Post s (Z0w xs) σ1 v w') a'.defers .returning w' := by
       rw [hd];exact Z3b ms w' hmk.1 hml ⟨v, h3, v, rfl, ι', hi2, hev2, h4⟩
      rcases hx with rfl | rfl
      ·exact hl
      ·exact hl
     exact (callsIn_wide (n := 0)).1 hw
    split at h
    ·rename_i e1 σ1 h1;exact fin .normal e1 σ1 h1 (.inl rfl) h
    ·rename_i e1 σ1 h1;exact fin .ret e1 σ1 h1 (.inr rfl) h
    ·cases h
end Go.Dn

namespace Go.Dn
open Go
variable {X : Ctx} {s : St} {n : Nat}
theorem Z6P {call : Zh} (hc : Z0a call) {ops : Array Oper} {base : Nat} {p : Nat → Prop} (hp : ∀ k, p k → k < base) : ∀ (l : List Oper) (i : Nat) (e : Env) (σ : Heap) (e' : Env) (σ' : Heap),
  base ≤ σ.nx → (∀ k, p k → σ.ent k = .none) → Z0u X call n ops base i l e σ = some (e', σ') → base ≤ σ'.nx ∧ ∀ k, p k → σ'.ent k = .none
 | [], i, e, σ, e', σ', hb, hk, h => by
  simp [Z0u] at h;obtain ⟨_, rfl⟩ := h
  exact ⟨hb, hk⟩
 | o :: l, i, e, σ, e', σ', hb, hk, h => by
  simp only [Z0u, Y4] at h;obtain ⟨⟨e1, σ1⟩, h1, h2⟩ := h
  have ht := Z3x hc h1
  exact Z6P hc hp l (i + 1) e1 σ1 e' σ' (YZ hb ht.1) (fun k hpk => ht.2 k (by have := hp k hpk; omega) (by have := hp k hpk; simp; omega) (hk k hpk)) h2
theorem Z5V {call : Zh} (hc : Z0a call) {ops : Array Oper} {base : Nat} {p : Nat → Prop} (hp : ∀ k, p k → k < base) : ∀ (l : List Oper) (i : Nat) (e : Env) (σ : Heap) (e' : Env) (σ' : Heap),
  base ≤ σ.nx → (∀ k, p k → σ.ent k = .none) → Z0Q X call n ops base i l e σ = some (e', σ') → base ≤ σ'.nx ∧ ∀ k, p k → σ'.ent k = .none
 | [], i, e, σ, e', σ', hb, hk, h => by
  simp [Z0Q] at h;obtain ⟨_, rfl⟩ := h
  exact ⟨hb, hk⟩
 | o :: l, i, e, σ, e', σ', hb, hk, h => by
  simp only [Z0Q, Y4] at h;obtain ⟨⟨e1, σ1⟩, h1, h2⟩ := h
  have ht := Z3x hc (Z6e h1)
  exact Z5V hc hp l (i + 1) e1 σ1 e' σ' (YZ hb ht.1) (fun k hpk => ht.2 k (by have := hp k hpk; omega) (by have := hp k hpk; simp; omega) (hk k hpk)) h2
theorem Z2c {call : Zh} (hc : Z0a call) {lf : Nat} {fn : FuncId} : ∀ (c : Code) (e : Env) (σ : Heap) (x : Ex) (e' : Env) (σ' : Heap), Z7 X call lf n fn c e σ = some (x, e', σ') → Tame σ none σ' := by
 intro c
 induction c with
 | skip => intro e σ x e' σ' h; simp only [Z7, Y5, Y3] at h; rw [← h.2.2]; exact Tame.refl _ _
 | label l => intro e σ x e' σ' h; simp only [Z7, Y5, Y3] at h; rw [← h.2.2]; exact Tame.refl _ _
 | scope c ih => intro e σ x e' σ' h; simp only [Z7] at h; exact ih e σ x e' σ' h
 | region id ops draw =>
  intro e σ x e' σ' h;simp only [Z7] at h
  split at h
  ·split at h
   ·simp only [Y1, Y3] at h;obtain ⟨⟨e1, σ1⟩, h1, _, _, rfl⟩ := h
    obtain ⟨q1, q2⟩ := Z5V hc (p := fun k => k < σ.nx ∧ σ.ent k = .none) (fun k hk => hk.1) ops.toList 0 e ⟨σ.nx + ops.size, σ.ent⟩ e1 σ1 (Y0R _ _) (fun k hk => hk.2) h1
    exact ⟨q1, fun k hk _ hn => q2 k ⟨hk, hn⟩⟩
   ·cases h
  ·simp only [Y1, Y3] at h;obtain ⟨⟨e1, σ1⟩, h1, _, _, rfl⟩ := h
   obtain ⟨q1, q2⟩ := Z6P hc (p := fun k => k < σ.nx ∧ σ.ent k = .none) (fun k hk => hk.1) ops.toList 0 e ⟨σ.nx + ops.size, σ.ent⟩ e1 σ1 (Y0R _ _) (fun k hk => hk.2) h1
   exact ⟨q1, fun k hk _ hn => q2 k ⟨hk, hn⟩⟩
 | seq c1 c2 ih1 ih2 =>
  intro e σ x e' σ' h;simp only [Z7] at h
  split at h
  ·rename_i h1;exact (ih1 _ _ _ _ _ h1).trans (ih2 _ _ _ _ _ h)
  ·exact ih1 _ _ _ _ _ h
 | cond c c1 c2 ih1 ih2 =>
  intro e σ x e' σ' h;simp only [Z7] at h
  split at h
  ·exact ih1 _ _ _ _ _ h
  ·exact ih2 _ _ _ _ _ h
  ·cases h
 | block id c ih =>
  intro e σ x e' σ' h;simp only [Z7] at h
  split at h
  ·rename_i h1;have := ih _ _ _ _ _ h1
   split at h <;> simp only [Y5, Y3] at h <;> rw [← h.2.2] <;> exact this
  ·exact ih _ _ _ _ _ h
 | loop c ih =>
  intro e σ x e' σ' h;simp only [Z7] at h;have key : ∀ (k : Nat) (e : Env) (σ : Heap), Z1P (Z7 X call lf n fn c) k e σ = some (x, e', σ') → Tame σ none σ' := by
   intro k
   induction k with
   | zero => intro e σ h; simp [Z1P] at h
   | succ k ihk =>
    intro e σ h;simp only [Z1P] at h
    split at h
    ·rename_i h1;exact (ih _ _ _ _ _ h1).trans (ihk _ _ h)
    ·exact ih _ _ _ _ _ h
  exact key lf e σ h
 | exit id => intro e σ x e' σ' h; simp only [Z7, Y5, Y3] at h; rw [← h.2.2]; exact Tame.refl _ _
 | ret => intro e σ x e' σ' h; simp only [Z7, Y5, Y3] at h; rw [← h.2.2]; exact Tame.refl _ _
 | rangeFunc g ps as_ bo _ _ =>
  intro e σ x e' σ' h;simp only [Z7] at h
  split at h
  ·rename_i gv hg;have fin : ∀ (r : Option (PV × Heap)), (∀ q σ2, r = some (q, σ2) → Tame ⟨σ.nx + 1, upd σ.ent σ.nx (.loop fn e n ps.toList as_ bo .ready none)⟩ none σ2) → (match r with
    | some (_, σ2) =>
     match σ2.ent σ.nx with
     | .loop fn' e' n' ps' as' bo' st pend =>
      if st = LoopState.busy then none else
      match Z3z pend with
      | some x => some (x, e, σ2.put σ.nx (.loop fn' e' n' ps' as' bo' .exhausted pend))
      | none => none
     | _ => none
    | none => none) = some (x, e', σ') → Tame σ none σ' := by
    intro r ht hr
    split at hr
    ·rename_i q σ2;have ht := ht q σ2 rfl
     split at hr
     ·split at hr
      ·cases hr
      ·split at hr
       ·simp only [Y5, Y3] at hr;obtain ⟨_, _, rfl⟩ := hr
        refine ⟨YZ (Nat.le_succ _) ht.1, fun k hk _ hn => ?_⟩
        simp only [Heap.put, ZG _ _ (Nat.ne_of_lt hk)];exact ht.2 k (Nat.lt_succ_of_lt hk) (by simp) (by simp only [ZG _ _ (Nat.ne_of_lt hk)]; exact hn)
       ·cases hr
     ·cases hr
    ·cases hr
   cases gv with
   | v y =>
    cases y with
    | fn f => exact fin _ (fun q σ2 hq => hc _ _ _ _ _ hq) h
    | _ => simp at h
   | clo f first caps => exact fin _ (fun q σ2 hq => hc _ _ _ _ _ hq) h
   | _ => simp at h
  ·cases h
 | _ =>
  intro e σ x e' σ' h;simp [Z7] at h
theorem Z7b {call : Zh} (hc : Z0a call) {lf : Nat} {f : FuncId} {args : List PV} {σ σ' : Heap} {r : PV} (h : Z0m X call lf f args σ = some (r, σ')) : Tame σ none σ' := by
 unfold Z0m at h
 split at h
 ·cases h
 ·split at h
  ·cases h
  ·split at h
   ·rename_i h1;simp only [Y1, Y3] at h;obtain ⟨_, _, _, rfl⟩ := h
    exact Z2c hc _ _ _ _ _ _ h1
   ·rename_i h1;simp only [Y1, Y3] at h;obtain ⟨_, _, _, rfl⟩ := h
    exact Z2c hc _ _ _ _ _ _ h1
   ·cases h
theorem callD_fn {k : Nat} {f : FuncId} {args : List PV} {σ σ' : Heap} {r : PV} (h : Z0H X (k + 1) (.fn f) args σ = some (r, σ')) :
  (X.intr f args = some r ∧ args.all PV.pure = true ∧ σ' = σ) ∨
  ∃ args' σ1, ((X.keep f = true ∧ args' = args ∧ σ1 = σ) ∨ Z06 σ args = some (args', σ1)) ∧
   ((X.opn f = true ∧ Z0m X (Z0H X k) k f args' σ1 = some (r, σ')) ∨
    (X.opn f = false ∧ args'.all PV.pure = true ∧ σ' = σ1 ∧ ∃ q σ2 σ3, Z0m X (Z0H X k) k f args' Heap.empty = some (q, σ2) ∧ Z0e σ2 q = some (r, σ3)) ∨
    (X.opn f = false ∧ args'.all PV.pure = false ∧ ∃ q σ2, Z0m X (Z0H X k) k f args' σ1 = some (q, σ2) ∧ Z0e σ2 q = some (r, σ'))) := by
 simp only [Z0H] at h
 split at h
 ·rename_i r' hr
  split at h
  ·rename_i hp;simp only [Y5, Y3] at h;obtain ⟨rfl, rfl⟩ := h
   exact .inl ⟨hr, hp, rfl⟩
  ·cases h
 ·split at h
  ·cases h
  ·rename_i args' σ1 ha;refine .inr ⟨args', σ1, ?_, ?_⟩
   ·split at ha
    ·rename_i hk;simp only [Y5, Y3] at ha;exact .inl ⟨hk, ha.1.symm, ha.2.symm⟩
    ·exact .inr ha
   ·split at h
    ·rename_i ho;exact .inl ⟨ho, h⟩
    ·rename_i ho;simp only [Y02] at ho
     split at h
     ·rename_i hp;simp only [Y4, Y1, Y3] at h;obtain ⟨⟨q, σ2⟩, h1, ⟨r', σ3⟩, h2, rfl, rfl⟩ := h
      exact .inr (.inl ⟨ho, hp, rfl, q, σ2, σ3, h1, h2⟩)
     ·rename_i hp;simp only [Y02] at hp;simp only [Y4] at h;obtain ⟨⟨q, σ2⟩, h1, h2⟩ := h
      exact .inr (.inr ⟨ho, hp, q, σ2, h1, h2⟩)
theorem callD_yld {k : Nat} {id : Nat} {args : List PV} {σ σ' : Heap} {r : PV} (h : Z0H X (k + 1) (.yld id) args σ = some (r, σ')) :
  ∃ fn e n ps as_ bo args' σ1 e1 σ2 pend x e3 σ3, σ.ent id = .loop fn e n ps as_ bo .ready none ∧ ps.length = args.length ∧ Z06 σ args = some (args', σ1) ∧
   Z7 X (Z0H X k) k n fn as_ (Z2C e n ps args') σ1 = some (.normal, e1, σ2) ∧ (∃ fn' e' n' ps' as' bo', σ2.ent id = .loop fn' e' n' ps' as' bo' .ready pend) ∧
   Z7 X (Z0H X k) k n fn bo e1 (σ2.put id (.loop fn e n ps as_ bo .busy pend)) = some (x, e3, σ3) ∧
   ((x = .normal ∧ r = .v (.bool true) ∧ σ' = σ3.put id (.loop fn e n ps as_ bo .ready none)) ∨
    (∃ t, x = .exit t ∧ r = .v (.bool false) ∧ σ' = σ3.put id (.loop fn e n ps as_ bo .done (some (.exit t)))) ∨
    (x = .ret ∧ r = .v (.bool false) ∧ σ' = σ3.put id (.loop fn e n ps as_ bo .done (some .ret)))) := by
 simp only [Z0H] at h
 split at h
 ·rename_i fn e n ps as_ bo hen
  split at h
  ·rename_i hlen
   split at h
   ·cases h
   ·rename_i args' σ1 ha
    split at h
    ·rename_i e1 σ2 h1
     split at h
     ·rename_i fn' e' n' ps' as' bo' pend h2
      split at h
      ·rename_i x e3 σ3 h3;refine ⟨fn, e, n, ps, as_, bo, args', σ1, e1, σ2, pend, x, e3, σ3, hen, hlen, ha, h1, ⟨_, _, _, _, _, _, h2⟩, h3, ?_⟩
       split at h <;> simp only [Y5, Y3] at h
       ·exact .inl ⟨rfl, h.1.symm, h.2.symm⟩
       ·exact .inr (.inl ⟨_, rfl, h.1.symm, h.2.symm⟩)
       ·exact .inr (.inr ⟨rfl, h.1.symm, h.2.symm⟩)
      ·cases h
     ·cases h
    ·cases h
  ·cases h
 ·cases h
theorem Z5E : ∀ k, Z0a (Z0H X k)
 | 0 => fun c args σ r σ' h => by cases c <;> simp [Z0H] at h
 | k + 1 => fun c args σ r σ' h => by
  have ih := Z5E k
  cases c with
  | fn f =>
   rcases callD_fn h with ⟨_, _, rfl⟩ | ⟨args', σ1, h1, h2⟩
   ·exact Tame.refl _ _
   ·have t1 : Tame σ none σ1 := by
     rcases h1 with ⟨_, _, rfl⟩ | h1
     ·exact Tame.refl _ _
     ·exact Z3i h1
    rcases h2 with ⟨_, h2⟩ | ⟨_, _, rfl, _⟩ | ⟨_, _, q, σ2, h2, h3⟩
    ·exact t1.trans (Z7b ih h2)
    ·exact t1
    ·exact t1.trans ((Z7b ih h2).trans (expRes_tame h3))
  | yld id =>
   obtain ⟨fn, e, n, ps, as_, bo, args', σ1, e1, σ2, pend, x, e3, σ3, hen, _, ha, h1, _, h3, h4⟩ := callD_yld h
   have t1 := (Z3i ha).trans (Z2c ih _ _ _ _ _ _ h1)
   have t2 := Z2c ih _ _ _ _ _ _ h3
   have t3 : σ.nx ≤ σ3.nx ∧ ∀ k, k < σ.nx → k ≠ id → σ.ent k = .none → σ3.ent k = .none := by
    refine ⟨YZ t1.1 t2.1, fun k hk hne hn => t2.2 k (YM hk t1.1) (by simp) ?_⟩
    simp only [Heap.put, ZG _ _ hne];exact t1.2 k hk (by simp) hn
   have t4 : ∀ en, Tame σ none (σ3.put id en) := fun en => ⟨t3.1, fun k hk _ hn => by
    have hne : k ≠ id := by rintro rfl; rw [hen] at hn; cases hn
    simp only [Heap.put, ZG _ _ hne];exact t3.2 k hk hne hn⟩
   rcases h4 with ⟨_, _, rfl⟩ | ⟨_, _, _, rfl⟩ | ⟨_, _, rfl⟩ <;> exact t4 _
theorem Z7I : ∀ k, Z1W X (Z0H X k)
 | 0 => fun f args σ r σ' h => by simp [Z0H] at h
 | k + 1 => fun f args σ r σ' h hp ho hk => by
  obtain ⟨ys, hy, he⟩ := Z5R hp
  simp only [Z0H, hk, ho, YA, if_false, he, hy, if_true] at h ⊢
  split at h
  ·split at h
   ·rename_i hpu;simp only [Y5, Y3] at h;obtain ⟨rfl, rfl⟩ := h
    exact ⟨rfl, fun σ2 => by simp only [hpu, if_true]⟩
   ·cases h
  ·simp only [Y4, Y1, Y3] at h;obtain ⟨⟨q, σ2⟩, h1, ⟨r', σ3⟩, h2, rfl, rfl⟩ := h
   refine ⟨rfl, fun σ4 => ?_⟩
   simp only [h1, Y0, h2, Y8]
def IntrOK (X : Ctx) : Prop := ∀ f args r, X.intr f args = some r → ∀ (s : St), Inv s → Z0A X s → ∀ vs, PVRs s args vs → args.all PV.pure = true →
 (callFunc f vs).run X.P s.w = .ok (.enter f vs) s.w ∧ Calls X.P f vs s.w fun en w' => ∃ v, en = .returned v ∧ Post s r s.σ v w'
def St.under (s : St) : St := ⟨s.w, fun b => s.Y b ∨ ∃ id, Live s.σ id ∧ s.ι id = b, Heap.empty, fun _ => 0⟩
theorem Z1G {id : Nat} : ¬ Live Heap.empty id := by
 rintro (⟨el, c, h⟩ | ⟨_, _, _, _, _, _, _, _, h⟩ | ⟨_, h⟩) <;> cases h
theorem under_imm {b : Nat} : s.under.imm b ↔ s.imm b := by
 simp only [St.imm, Imm, St.under, not_or, not_exists, not_and]
 constructor
 ·rintro ⟨h1, ⟨h2, h3⟩, _⟩;exact ⟨h1, h2, h3⟩
 ·rintro ⟨h1, h2, h3⟩;exact ⟨h1, ⟨h2, h3⟩, fun id h => absurd h Z1G⟩
theorem under_inv (hi : Inv s) : Inv s.under :=
 ⟨fun _ => trivial, fun _ _ h => absurd h Z1G, fun _ h => absurd h Z1G, fun _ _ _ h => (by cases h), fun _ _ => rfl,
  fun b hb => hb.elim (hi.Ylt b) fun ⟨_, hl, e⟩ => e ▸ hl.lt hi⟩
theorem Z64 {x : PV} {v : Value} (hp : x.pure = true) (h : PVR s x v) : PVR s.under x v :=
 Z62 (fun b hb => ⟨under_imm.2 hb, rfl⟩) (pure_flat hp).2 h
theorem under_pvrs {xs : List PV} {vs : Array Value} (hp : xs.all PV.pure = true) (h : PVRs s xs vs) : PVRs s.under xs vs :=
 ⟨h.1, fun i x hi => Z64 (by rw [YI] at hp; exact hp x (Y7 hi)) (h.2 i x hi)⟩
theorem under_glob (hG : Z0A X s) : Z0A X s.under := fun g cells hg => Z64 rfl (hG g cells hg)
theorem Z7d {q r : PV} {σ2 σ3 : Heap} {v : Value} {w' : World} (hi : Inv s) (h : Post s.under q σ2 v w') (hr : Z0e σ2 q = some (r, σ3)) : Post s r s.σ v w' := by
 obtain ⟨ι', h1, h2, h3⟩ := h
 obtain ⟨⟨e1, _⟩, e2⟩ := expRes_ok (s := ⟨w', s.under.Y, σ2, ι'⟩) hr h1 h3
 obtain ⟨g1, g2⟩ := grow_ev hi h2.size (fun b hb => h2.keep b hb fun id hl => absurd hl Z1G) h2.os h2.tape h2.output
 refine ⟨s.ι, g2, g1, flat_pvr (s := ⟨w', s.under.Y, σ3, ι'⟩) (fun b hb => ⟨?_, rfl⟩) (expRes_flat hr) e2⟩
 obtain ⟨q1, q2, q3⟩ := hb
 simp only [St.under, not_or, not_exists, not_and] at q2
 exact ⟨q1, q2.1, q2.2⟩
theorem Z7f : ∀ {ps : List Nat} {xs : List PV} {us : List Value} {e : Env} {a : Act}, EnvR s n e a → xs.length = us.length → (∀ (i : Nat) (x : PV), xs[i]? = some x → PVR s x ((us[i]?).getD Go.undef)) →
  EnvR s n (Z2C e n ps xs) { a with tmps := (ps.zip us).foldl (fun tmps (t, a) => tmps.setIfInBounds t a) a.tmps }
 | [], _, _, _, _, he, _, _ => by simpa [Z2C] using he
 | p :: ps, [], [], _, _, he, _, _ => by simpa [Z2C] using he
 | p :: ps, x :: xs, u :: us, e, a, he, hl, hx => by
  have h0 := hx 0 x (by simp)
  have h1 := he.put (dst := some p) (x := x) (v := u) (by simpa using h0)
  have := Z7f (ps := ps) (xs := xs) (us := us) h1 (by simpa using hl) (fun i y hy => by have := hx (i + 1) y (by simpa using hy); simpa using this)
  simpa [Z2C, Act.put] using this
 | _ :: _, [], _ :: _, _, _, _, hl, _ => by simp at hl
 | _ :: _, _ :: _, [], _, _, _, hl, _ => by simp at hl
structure CtxOK (X : Ctx) : Prop where
 prog : ProgOK X.P
 intr : IntrOK X
theorem Z5C {s' : St} (hi : Inv s') {id : Nat} {fn : FuncId} {e : Env} {ps : List Nat} {as_ bo : Code} {st : LoopState} {pend : Option Code} (h : s'.σ.ent id = .loop fn e n ps as_ bo st pend) :
  id < s'.σ.nx ∧ ∃ fn' tmps defers, s'.w.heap[s'.ι id]? = some (.loop { state := st, pending := pend, fn := fn', tmps := tmps, params := ps.toArray, assign := as_, body := bo, defers := defers }) ∧ tmps.size = n ∧ ∀ t, PVR s' (e t) (tmps.getD t Go.undef) := by
 refine ⟨?_, LPut.old_rec hi h⟩
 rcases YD id s'.σ.nx with h' | h'
 ·exact h'
 ·have := hi.nx _ h'
  rw [h] at this;cases this
theorem callD_ok (hX : CtxOK X) : ∀ k, Z2T X (Z0H X k)
 | 0 => fun c args r σ' s h => by cases c <;> simp [Z0H] at h
 | k + 1 => fun c args r σ' s h hi hG vs hv => by
  have ih := callD_ok hX k
  have it := Z5E (X := X) k
  have ip := Z7I (X := X) k
  have body := fun {s : St} {f : FuncId} {args : List PV} {vs : Array Value} {r : PV} {σ' : Heap} => body_ok (X := X) (s := s) hX.prog.mixed hX.prog.names ih it ip (lf := k) (f := f) (args := args) (vs := vs) (r := r) (σ' := σ')
  cases c with
  | fn f =>
   simp only
   rcases callD_fn h with ⟨h1, hp, rfl⟩ | ⟨args', σ1, h1, h2⟩
   ·exact hX.intr f args r h1 s hi hG vs hv hp
   ·have t1 : Exp s σ1 ∧ PVRs ⟨s.w, s.Y, σ1, s.ι⟩ args' vs := by
     rcases h1 with ⟨_, rfl, rfl⟩ | h1
     ·exact ⟨Exp.refl hi, hv⟩
     ·obtain ⟨e1, e2, e3⟩ := Z5A args s (fun j => vs.getD j Go.undef) args' σ1 h1 hi hv.2
      exact ⟨e1, by rw [e2]; exact hv.1, e3⟩
    obtain ⟨⟨i1, ev1⟩, v1⟩ := t1
    have post : ∀ {r : PV} {σ' : Heap} {v : Value} {w' : World}, Post ⟨s.w, s.Y, σ1, s.ι⟩ r σ' v w' → Post s r σ' v w' := fun ⟨ι', p1, p2, p3⟩ => ⟨ι', p1, ev1.trans p2, p3⟩
    rcases h2 with ⟨_, h2⟩ | ⟨_, hp, rfl, q, σ2, σ3, h2, h3⟩ | ⟨_, _, q, σ2, h2, h3⟩
    ·obtain ⟨b1, b2⟩ := body (s := ⟨s.w, s.Y, σ1, s.ι⟩) i1 (hG.mono ev1) v1 h2
     exact ⟨b1, b2.mono fun en w' ⟨v, e, p⟩ => ⟨v, e, post p⟩⟩
    ·obtain ⟨b1, b2⟩ := body (s := St.under ⟨s.w, s.Y, σ', s.ι⟩) (under_inv i1) (under_glob (hG.mono ev1)) (under_pvrs hp v1) h2
     exact ⟨b1, b2.mono fun en w' ⟨v, e, p⟩ => ⟨v, e, post (Z7d i1 p h3)⟩⟩
    ·obtain ⟨b1, b2⟩ := body (s := ⟨s.w, s.Y, σ1, s.ι⟩) i1 (hG.mono ev1) v1 h2
     refine ⟨b1, b2.mono fun en w' ⟨v, e, p⟩ => ⟨v, e, post ?_⟩⟩
     obtain ⟨ι', p1, p2, p3⟩ := p
     obtain ⟨⟨x1, x2⟩, x3⟩ := expRes_ok (s := ⟨w', s.Y, σ2, ι'⟩) h3 p1 p3
     exact ⟨ι', x1, p2.trans x2, x3⟩
  | yld id =>
   simp only;obtain ⟨fn, e, n, ps, as_, bo, args', σ1, e1, σ2, pend, x, e3, σ3, hen, hlen, ha, h1, ⟨fn', e', n', ps', as', bo', h2⟩, h3, h4⟩ := callD_yld h
   obtain ⟨hnx, f0, tm, df, q1, q2, q3⟩ := Z5C hi hen
   obtain ⟨⟨i1, ev1⟩, l1, v1⟩ := Z5A args s (fun j => vs.getD j Go.undef) args' σ1 ha hi hv.2
   have hsz : vs.size = ps.length := by rw [hlen]; exact hv.1.symm
   refine ⟨_, _, _, _, _, run_yield q1 (by simpa using hsz), fun m => ?_⟩
   refine roundIn_of_wpIn trivial ?_;have he0 : EnvR ⟨s.w, s.Y, σ1, s.ι⟩ n e { tmps := tm, defers := [] } := ⟨q2, fun t => ev1.pvr (q3 t)⟩
   have he1 := Z7f (ps := ps) (xs := args') (us := vs.toList) he0 (by rw [l1, hv.1]; simp) (fun i y hy => by
    have := v1 i y hy
    simpa [Y6] using this)
   have hfold : (ps.toArray.zip vs).foldl (fun tmps (x : Nat × Value) => tmps.setIfInBounds x.1 x.2) tm = (ps.zip vs.toList).foldl (fun tmps (x : Nat × Value) => tmps.setIfInBounds x.1 x.2) tm := by
    rw [← Y0Y]
    simp
   have hrd : RdOK (some (s.ι id)) ⟨s.w, s.Y, σ1, s.ι⟩ := fun l hl => by
    cases hl;obtain ⟨⟨st', pend', e4⟩, e5⟩ := ev1.loop _ _ _ _ _ _ _ _ _ hen
    exact ⟨id, ⟨_, _, _, _, _, _, _, _, e4⟩, rfl⟩
   have he2 : EnvR ⟨s.w, s.Y, σ1, s.ι⟩ n (Z2C e n ps args') { tmps := (ps.toArray.zip vs).foldl (fun tmps (x : Nat × Value) => tmps.setIfInBounds x.1 x.2) tm, defers := [] } := by
    rw [hfold];exact he1
   refine code_ok (rd := some (s.ι id)) hX.prog.mixed ih it ip as_ (s := ⟨s.w, s.Y, σ1, s.ι⟩) (hG.mono ev1) i1 he2 hrd h1 fun a1 w1 ι1 ht => ?_
   simp only [Ex.out, Exit.then];have evA := ev1.trans ht.ev
   obtain ⟨⟨stA, pendA, eA⟩, hιA⟩ := evA.loop _ _ _ _ _ _ _ _ _ hen
   simp only at eA hιA;rw [h2] at eA
   injection eA with a1' a2 a3 a4 a5 a6 a7 a8
   subst a1' a2 a3 a4 a5 a6 a7 a8;obtain ⟨hnx2, f2, tm2, df2, r1, r2, r3⟩ := Z5C (s' := ⟨w1, s.Y, σ2, ι1⟩) ht.inv h2
   simp only [hιA] at r1;have hpB : LPut ⟨w1, s.Y, σ2, ι1⟩ id fn' e' n' ps' as' bo' .busy pend (s.ι id) (w1.putObj (s.ι id) (.loop { state := .busy, pending := pend, fn := f2, tmps := tm2, params := ps'.toArray, assign := as', body := bo', defers := df2 })) :=
    ⟨.inr ⟨⟨_, _, h2⟩, hιA.symm⟩, by simp, fun b _ hb => World.putObj_heap_other hb, ⟨f2, tm2, df2, World.putObj_heap_same (Array.getElem?_eq_some_iff.1 r1).1, r2, r3⟩, hnx2, rfl, rfl, rfl⟩
   have iB := hpB.inv ht.inv
   have evB := evA.trans (hpB.ev ht.inv)
   refine ⟨_, run_beginRound r1 rfl, ?_⟩;refine code_ok (rd := some (s.ι id)) hX.prog.mixed ih it ip bo' (s := (St.lput ⟨w1, s.Y, σ2, ι1⟩ id (.loop fn' e' n' ps' as' bo' .busy pend) (s.ι id) _)) (hG.mono evB) iB (ht.env.mono (hpB.ev ht.inv)) ((hrd.mono ht.ev).mono (hpB.ev ht.inv)) h3 fun a3 w3 ι3 ht3 => ?_
   have evC := evB.trans ht3.ev
   obtain ⟨⟨stC, pendC, eC⟩, hιC⟩ := evC.loop _ _ _ _ _ _ _ _ _ hen
   simp only at eC hιC;obtain ⟨hnx3, f3, tm3, df3, u1, u2, u3⟩ := Z5C (s' := ⟨w3, s.Y, σ3, ι3⟩) ht3.inv eC
   simp only [hιC] at u1;have fin : ∀ (jump : Option Code) (b : Bool), b = jump.isNone → ∃ v w', (Instr.endRound (s.ι id) jump).run X.P w3 = .ok v w' ∧ ∃ v', Ending.returned v = .returned v' ∧ Post s (.v (.bool b)) (σ3.put id (.loop fn' e' n' ps' as' bo' (if jump.isNone then .ready else .done) jump)) v' w' := by
    intro jump b hb;have hpC : LPut ⟨w3, s.Y, σ3, ι3⟩ id fn' e' n' ps' as' bo' (if jump.isNone then .ready else .done) jump (s.ι id) (w3.putObj (s.ι id) (.loop { state := if jump.isNone then .ready else .done, pending := jump, fn := f3, tmps := tm3, params := ps'.toArray, assign := as', body := bo', defers := df3 })) :=
     ⟨.inr ⟨⟨_, _, eC⟩, hιC.symm⟩, by simp, fun b _ hb => World.putObj_heap_other hb, ⟨f3, tm3, df3, World.putObj_heap_same (Array.getElem?_eq_some_iff.1 u1).1, u2, u3⟩, hnx3, rfl, rfl, rfl⟩
    subst hb;exact ⟨_, _, run_endRound jump u1, _, rfl, _, hpC.inv ht3.inv, evC.trans (hpC.ev ht3.inv), .v (.bool _)⟩
   rcases h4 with ⟨rfl, rfl, rfl⟩ | ⟨t, rfl, rfl, rfl⟩ | ⟨rfl, rfl, rfl⟩
   ·exact fin none true rfl
   ·exact fin (some (.exit t)) false rfl
   ·exact fin (some .ret) false rfl
end Go.Dn

namespace Go.Dn
open Go
def App {α : Type} (F : Nat → Option α) (r : Option α) : Prop := ∀ a, r = some a → ∃ K, ∀ k, K ≤ k → F k = some a
theorem App.const {α : Type} (r : Option α) : App (fun _ => r) r := fun _ h => ⟨0, fun _ _ => h⟩
theorem App.bind {α β : Type} {F : Nat → Option α} {r : Option α} {G : Nat → α → Option β} {g : α → Option β} (h : App F r) (hg : ∀ a, App (fun k => G k a) (g a)) : App (fun k => (F k).bind (G k)) (r.bind g) := fun b hb => by
 rw [Y4] at hb
 obtain ⟨a, ha, hb⟩ := hb
 obtain ⟨K1, h1⟩ := h a ha
 obtain ⟨K2, h2⟩ := hg a b hb
 exact ⟨max K1 K2, fun k hk => by show (F k).bind (G k) = _; rw [h1 k (by omega)]; exact h2 k (by omega)⟩
theorem App.map {α β : Type} {F : Nat → Option α} {r : Option α} (h : App F r) (g : α → β) : App (fun k => (F k).map g) (r.map g) := fun b hb => by
 rw [Y1] at hb
 obtain ⟨a, ha, rfl⟩ := hb
 obtain ⟨K1, h1⟩ := h a ha
 exact ⟨K1, fun k hk => by show (F k).map g = _; rw [h1 k hk]; rfl⟩
def AppC (F : Nat → Zh) (c : Zh) : Prop := ∀ f args σ, App (fun k => F k f args σ) (c f args σ)
variable {X : Ctx} {n : Nat} {F : Nat → Zh} {call : Zh}
theorem callOp_app (hc : AppC F call) {e : Env} {σ : Heap} {id0 : Nat} {c : Call} : App (fun k => Za X (F k) e σ id0 c) (Za X call e σ id0 c) := by
 intro a h
 unfold Za at h
 split at h
 ·cases h
 ·rename_i args hargs
  split at h
  ·rename_i b hb;exact ⟨0, fun k _ => by simp only [Za, hargs, hb]; exact h⟩
  ·cases h
  ·rename_i f hf
   split at h
   ·rename_i g hg;obtain ⟨K, hK⟩ := hc _ _ _ _ h
    exact ⟨K, fun k hk => by simp only [Za, hargs, hf, hg]; exact hK k hk⟩
   ·rename_i g fi ca hg;obtain ⟨K, hK⟩ := hc _ _ _ _ h
    exact ⟨K, fun k hk => by simp only [Za, hargs, hf, hg]; exact hK k hk⟩
   ·rename_i id hg;obtain ⟨K, hK⟩ := hc _ _ _ _ h
    exact ⟨K, fun k hk => by simp only [Za, hargs, hf, hg]; exact hK k hk⟩
   ·cases h
theorem Z7Q (hc : AppC F call) {e : Env} {σ : Heap} {id0 : Nat} {op : Op} : App (fun k => Z4 X (F k) e σ id0 op) (Z4 X call e σ id0 op) := by
 cases op <;> first | exact callOp_app hc | exact App.const _ | (rename_i g _ _; cases g <;> exact App.const _) | (rename_i _ g; cases g <;> exact App.const _)
theorem Z69 (hc : AppC F call) {ops : Array Oper} {base i : Nat} {o : Oper} {e : Env} {σ : Heap} : App (fun k => Z0G X (F k) n ops base i o e σ) (Z0G X call n ops base i o e σ) := by
 intro a h
 unfold Z0G at h
 split at h
 ·rename_i hw;obtain ⟨K, hK⟩ := (Z7Q (X := X) hc).bind (G := fun _ r => some (putD n e o.dst r.1, r.2)) (fun r => App.const _) a h
  exact ⟨K, fun k hk => by simp only [Z0G, hw]; exact hK k hk⟩
 ·rename_i hw;exact ⟨0, fun k _ => by simp only [Z0G, hw]; exact h⟩
 ·cases h
theorem Z7V (hc : AppC F call) {ops : Array Oper} {base : Nat} : ∀ (l : List Oper) (i : Nat) (e : Env) (σ : Heap), App (fun k => Z0u X (F k) n ops base i l e σ) (Z0u X call n ops base i l e σ)
 | [], _, _, _ => App.const _
 | o :: l, i, _, _ => (Z69 hc).bind fun r => Z7V hc l (i + 1) r.1 r.2
theorem Z46 {call : Zh} {e : Env} {σ : Heap} {id id' : Nat} {op : Op} (h : Zd op = .call) : Z4 X call e σ id op = Z4 X call e σ id' op := by
 cases op <;> simp only [Zd] at h <;> (try (cases h; done))
 case makeFunc fn _ _ => cases fn <;> cases h
 case binOp op _ _ _ _ => cases op <;> cases h
 case call c =>
  simp only [Z4, Za];cases hc : c.callee with
  | builtin b => rw [hc] at h; cases b <;> cases h
  | _ => rfl
theorem stepW_app (hc : AppC F call) {ops : Array Oper} {base i : Nat} {o : Oper} {e : Env} {σ : Heap} : App (fun k => Z0B X (F k) n ops base i o e σ) (Z0B X call n ops base i o e σ) := by
 intro a h
 unfold Z0B at h
 split at h
 ·rename_i hw
  split at h
  ·rename_i hs;obtain ⟨K, hK⟩ := Z69 (X := X) hc a h
   -- what the call comes to is the same from some fuel on
   unfold Z0G at h;rw [hw.1] at h;simp only [Y4] at h;obtain ⟨⟨x, σ1⟩, h1, _⟩ := h
   obtain ⟨K2, hK2⟩ := Z7Q (X := X) hc (x, σ1) h1
   refine ⟨max K K2, fun k hk => ?_⟩
   have hs2 : Z23 X (F k) ops base i o e σ := by
    refine ⟨hs.1, hs.2.1, fun id r σ' hr k' hk' => ?_⟩
    have e1 := hK2 k (by omega)
    have e2 : Z4 X (F k) e σ id o.op = some (x, σ1) := by rw [Z46 hs.1]; exact e1
    rw [e2] at hr;cases hr;exact hs.2.2 _ _ _ h1 k' hk'
   simp only [Z0B];rw [if_pos hw, if_pos hs2];exact hK k (by omega)
  ·cases h
 ·rename_i hw;obtain ⟨K, hK⟩ := Z69 (X := X) hc a h
  exact ⟨K, fun k hk => by simp only [Z0B, if_neg hw]; exact hK k hk⟩
theorem Z6k (hc : AppC F call) {ops : Array Oper} {base : Nat} : ∀ (l : List Oper) (i : Nat) (e : Env) (σ : Heap), App (fun k => Z0Q X (F k) n ops base i l e σ) (Z0Q X call n ops base i l e σ)
 | [], _, _, _ => App.const _
 | o :: l, i, _, _ => (stepW_app hc).bind fun r => Z6k hc l (i + 1) r.1 r.2
theorem Z2Q (hc : AppC F call) {lf : Nat} {L : Nat → Nat} (hL : ∃ K, ∀ k, K ≤ k → lf ≤ L k) {fn : FuncId} : ∀ (c : Code) (e : Env) (σ : Heap), App (fun k => Z7 X (F k) (L k) n fn c e σ) (Z7 X call lf n fn c e σ) := by
 intro c
 induction c with
 | skip => intro e σ; exact App.const _
 | label l => intro e σ; exact App.const _
 | scope c ih => intro e σ; simp only [Z7]; exact ih e σ
 | region id ops draw =>
  intro e σ;cases draw with
  | false => simp only [Z7, YA, if_false]; exact (Z7V hc _ _ _ _).map _
  | true =>
   by_cases hd : Z24 ops = true
   ·simp only [Z7, if_true, hd]; exact (Z6k hc _ _ _ _).map _
   ·simp only [Z7, if_true, if_neg hd]; exact App.const _
 | seq a b iha ihb =>
  intro e σ out h;simp only [Z7] at h
  split at h
  ·rename_i e1 σ1 h1;obtain ⟨K1, q1⟩ := iha e σ _ h1
   obtain ⟨K2, q2⟩ := ihb e1 σ1 _ h
   exact ⟨max K1 K2, fun k hk => by simp only [Z7, q1 k (by omega)]; exact q2 k (by omega)⟩
  ·rename_i hn;obtain ⟨K1, q1⟩ := iha e σ _ h
   refine ⟨K1, fun k hk => ?_⟩
   simp only [Z7, q1 k hk]
   split
   ·rename_i heq; rw [h] at hn; cases heq; exact absurd rfl (hn _ _)
   ·rfl
 | cond c a b iha ihb =>
  intro e σ out h;simp only [Z7] at h
  split at h
  ·rename_i h1;obtain ⟨K1, q1⟩ := iha e σ _ h
   exact ⟨K1, fun k hk => by simp only [Z7, h1]; exact q1 k hk⟩
  ·rename_i h1;obtain ⟨K1, q1⟩ := ihb e σ _ h
   exact ⟨K1, fun k hk => by simp only [Z7, h1]; exact q1 k hk⟩
  ·cases h
 | block id c ih =>
  intro e σ out h;simp only [Z7] at h
  split at h
  ·rename_i id' e1 σ1 h1;obtain ⟨K1, q1⟩ := ih e σ _ h1
   exact ⟨K1, fun k hk => by simp only [Z7, q1 k hk]; exact h⟩
  ·rename_i hn;obtain ⟨K1, q1⟩ := ih e σ _ h
   refine ⟨K1, fun k hk => ?_⟩
   simp only [Z7, q1 k hk]
   split
   ·rename_i heq; rw [h] at hn; cases heq; exact absurd rfl (hn _ _ _)
   ·rfl
 | loop c ih =>
  intro e σ out h;simp only [Z7] at h;have key : ∀ (m : Nat) (e : Env) (σ : Heap), Z1P (Z7 X call lf n fn c) m e σ = some out → ∃ K, ∀ k, K ≤ k → ∀ m', m ≤ m' → Z1P (Z7 X (F k) (L k) n fn c) m' e σ = some out := by
   intro m
   induction m with
   | zero => intro e σ h; simp [Z1P] at h
   | succ m ihm =>
    intro e σ h;simp only [Z1P] at h
    split at h
    ·rename_i e1 σ1 h1;obtain ⟨K1, q1⟩ := ih e σ _ h1
     obtain ⟨K2, q2⟩ := ihm e1 σ1 h
     refine ⟨max K1 K2, fun k hk m' hm' => ?_⟩
     obtain ⟨m', rfl⟩ : ∃ j, m' = j + 1 := ⟨m' - 1, by omega⟩
     simp only [Z1P, q1 k (by omega)]
     exact q2 k (by omega) m' (by omega)
    ·rename_i hn;obtain ⟨K1, q1⟩ := ih e σ _ h
     refine ⟨K1, fun k hk m' hm' => ?_⟩
     obtain ⟨m', rfl⟩ : ∃ j, m' = j + 1 := ⟨m' - 1, by omega⟩
     simp only [Z1P, q1 k hk]
     split
     ·rename_i heq; rw [h] at hn; cases heq; exact absurd rfl (hn _ _)
     ·rfl
  obtain ⟨K1, q1⟩ := key lf e σ h
  obtain ⟨K2, q2⟩ := hL
  exact ⟨max K1 K2, fun k hk => by simp only [Z7]; exact q1 k (by omega) (L k) (q2 k (by omega))⟩
 | exit id => intro e σ; exact App.const _
 | ret => intro e σ; exact App.const _
 | rangeFunc g ps as_ bo _ _ =>
  intro e σ out h;simp only [Z7] at h ⊢
  split at h
  ·rename_i gv hg;have fin : ∀ (f : Callee) (args : List PV) (σ1 : Heap), (match call f args σ1 with
     | some (_, σ2) =>
      match σ2.ent σ.nx with
      | .loop fn' e' n' ps' as' bo' st pend =>
       if st = LoopState.busy then none else
       match Z3z pend with
       | some x => some (x, e, σ2.put σ.nx (.loop fn' e' n' ps' as' bo' .exhausted pend))
       | none => none
      | _ => none
     | none => none) = some out → ∃ K, ∀ k, K ≤ k → (match F k f args σ1 with
     | some (_, σ2) =>
      match σ2.ent σ.nx with
      | .loop fn' e' n' ps' as' bo' st pend =>
       if st = LoopState.busy then none else
       match Z3z pend with
       | some x => some (x, e, σ2.put σ.nx (.loop fn' e' n' ps' as' bo' .exhausted pend))
       | none => none
      | _ => none
     | none => none) = some out := by
    intro f args σ1 h;cases hr : call f args σ1 with
    | none => rw [hr] at h; cases h
    | some r =>
     rw [hr] at h;obtain ⟨K, hK⟩ := hc _ _ _ _ hr
     exact ⟨K, fun k hk => by have hk' : F k f args σ1 = some r := hK k hk; rw [hk']; exact h⟩
   cases gv with
   | v y =>
    cases y with
    | fn f => simp only [hg]; exact fin _ _ _ h
    | _ => simp at h
   | clo f first caps => simp only [hg]; exact fin _ _ _ h
   | _ => simp at h
  ·cases h
 | _ => intro e σ out h; simp [Z7] at h
theorem Z6F (hc : AppC F call) {lf : Nat} {L : Nat → Nat} (hL : ∃ K, ∀ k, K ≤ k → lf ≤ L k) {f : FuncId} {args : List PV} {σ : Heap} : App (fun k => Z0m X (F k) (L k) f args σ) (Z0m X call lf f args σ) := by
 intro out h
 unfold Z0m at h
 split at h
 ·cases h
 ·rename_i fn hfn
  split at h
  ·cases h
  ·rename_i c hb
   split at h
   ·rename_i h1;obtain ⟨K, hK⟩ := Z2Q hc hL c _ _ _ h1
    exact ⟨K, fun k hk => by simp only [Z0m, hfn, hb, hK k hk]; exact h⟩
   ·rename_i h1;obtain ⟨K, hK⟩ := Z2Q hc hL c _ _ _ h1
    exact ⟨K, fun k hk => by simp only [Z0m, hfn, hb, hK k hk]; exact h⟩
   ·cases h
noncomputable def Z3A (X : Ctx) (call : Zh) (lf : Nat) : Zh
 | .fn f, args, σ =>
  match X.intr f args with
  | some r => if args.all PV.pure then some (r, σ) else none
  | none =>
   match (if X.keep f then some (args, σ) else Z06 σ args) with
   | none => none
   | some (args, σ) =>
    if X.opn f then Z0m X call lf f args σ
    else if args.all PV.pure then (Z0m X call lf f args Heap.empty).bind fun r => (Z0e r.2 r.1).map fun s => (s.1, σ)
    else (Z0m X call lf f args σ).bind fun r => Z0e r.2 r.1
 | .yld id, args, σ =>
  match σ.ent id with
  | .loop fn e n ps as_ bo .ready none =>
   if ps.length = args.length then
    match Z06 σ args with
    | none => none
    | some (args, σ) =>
    match Z7 X call lf n fn as_ (Z2C e n ps args) σ with
    | some (.normal, e1, σ1) =>
     match σ1.ent id with
     | .loop _ _ _ _ _ _ .ready pend =>
      match Z7 X call lf n fn bo e1 (σ1.put id (.loop fn e n ps as_ bo .busy pend)) with
      | some (x, _, σ2) =>
       match x with
       | .normal => some (.v (.bool true), σ2.put id (.loop fn e n ps as_ bo .ready none))
       | .exit t => some (.v (.bool false), σ2.put id (.loop fn e n ps as_ bo .done (some (.exit t))))
       | .ret => some (.v (.bool false), σ2.put id (.loop fn e n ps as_ bo .done (some .ret)))
      | none => none
     | _ => none
    | _ => none
   else none
  | _ => none
theorem Z5G (k : Nat) : Z0H X (k + 1) = Z3A X (Z0H X k) k := by
 funext c args σ
 cases c <;> (simp only [Z0H, Z3A]; rfl)
theorem callS_app (hc : AppC F call) {lf : Nat} {L : Nat → Nat} (hL : ∃ K, ∀ k, K ≤ k → lf ≤ L k) : AppC (fun k => Z3A X (F k) (L k)) (Z3A X call lf) := by
 intro c args σ
 cases c with
 | fn f =>
  simp only [Z3A]
  split
  ·exact App.const _
  ·split
   ·exact App.const _
   ·split
    ·exact Z6F hc hL
    ·split
     ·exact (Z6F hc hL).bind fun r => App.const _
     ·exact (Z6F hc hL).bind fun r => App.const _
 | yld id =>
  simp only [Z3A]
  split
  ·split
   ·split
    ·exact App.const _
    ·rename_i fn e n ps as_ bo _ _ _ args' σ1 _;intro out h
     split at h
     ·rename_i e1 σ2 h1;obtain ⟨K1, q1⟩ := Z2Q hc hL _ _ _ _ h1
      split at h
      ·rename_i h2
       split at h
       ·rename_i x e3 σ3 h3;obtain ⟨K2, q2⟩ := Z2Q hc hL _ _ _ _ h3
        exact ⟨max K1 K2, fun k hk => by simp only [q1 k (by omega), h2, q2 k (by omega)]; exact h⟩
       ·cases h
      ·cases h
     ·cases h
   ·exact App.const _
  ·exact App.const _
theorem Z6X : ∀ k, AppC (fun _ => Z0H X (k + 1)) (Z0H X k)
 | 0 => fun c args σ out h => by cases c <;> simp [Z0H] at h
 | k + 1 => by
  have ih := callS_app (X := X) (Z6X k) (lf := k) (L := fun _ => k + 1) ⟨0, fun _ _ => Nat.le_succ k⟩
  rw [Z5G k];rw [Z5G (k + 1)];exact ih
theorem Z5B {k k' : Nat} (h : k ≤ k') {c : Callee} {args : List PV} {σ : Heap} {r : PV × Heap} (hr : Z0H X k c args σ = some r) : Z0H X k' c args σ = some r := by
 induction h with
 | refl => exact hr
 | @step m _ ih =>
  obtain ⟨K, hK⟩ := Z6X m c args σ r ih
  exact hK K (YB _)
open Classical in
noncomputable def Zu (X : Ctx) : Zh := fun c args σ => if h : ∃ r, ∃ k, Z0H X k c args σ = some r then some h.choose else none
theorem Z1N {c : Callee} {args : List PV} {σ : Heap} {r : PV × Heap} : Zu X c args σ = some r ↔ ∃ k, Z0H X k c args σ = some r := by
 unfold Zu
 constructor
 ·intro h
  split at h
  ·rename_i hex;cases h;exact hex.choose_spec
  ·cases h
 ·rintro ⟨k, h⟩;have hex : ∃ r, ∃ k, Z0H X k c args σ = some r := ⟨r, k, h⟩
  rw [dif_pos hex];obtain ⟨k', h'⟩ := hex.choose_spec
  have e1 := Z5B (Y0X k k') h
  have e2 := Z5B (Y0S k k') h'
  rw [e1] at e2;exact e2.symm
theorem callL_app : AppC (fun k => Z0H X k) (Zu X) := fun c args σ r h => by
 obtain ⟨k, hk⟩ := Z1N.1 h
 exact ⟨k, fun k' hk' => Z5B hk' hk⟩
theorem Z1f {lf : Nat} {c : Callee} {args : List PV} {σ : Heap} {r : PV × Heap} (h : Z3A X (Zu X) lf c args σ = some r) : Zu X c args σ = some r := by
 obtain ⟨K, hK⟩ := callS_app (X := X) callL_app (lf := lf) (L := fun k => k) ⟨lf, fun k hk => hk⟩ c args σ r h
 exact Z1N.2 ⟨K + 1, by rw [Z5G]; exact hK K (YB _)⟩
structure Runs (X : Ctx) (n : Nat) (fn : FuncId) (c : Code) (e : Env) (σ : Heap) (Q : Ex → Env → Heap → Prop) : Prop where
 run : ∃ lf x e' σ', Z7 X (Zu X) lf n fn c e σ = some (x, e', σ') ∧ Q x e' σ'
variable {fn : FuncId} {c a b : Code} {e : Env} {σ : Heap} {Q : Ex → Env → Heap → Prop}
theorem Z1J {lf lf' : Nat} (h : lf ≤ lf') {out : Out} (hr : Z7 X call lf n fn c e σ = some out) : Z7 X call lf' n fn c e σ = some out := by
 obtain ⟨K, hK⟩ := Z2Q (F := fun _ => call) (fun f args σ => App.const _) (lf := lf) (L := fun _ => lf') ⟨0, fun _ _ => h⟩ c e σ out hr
 exact hK K (YB _)
theorem Runs.skip (h : Q .normal e σ) : Runs X n fn .skip e σ Q := ⟨0, _, _, _, rfl, h⟩
theorem Runs.exit {id : Nat} (h : Q (.exit id) e σ) : Runs X n fn (.exit id) e σ Q := ⟨0, _, _, _, rfl, h⟩
theorem Runs.ret (h : Q .ret e σ) : Runs X n fn .ret e σ Q := ⟨0, _, _, _, rfl, h⟩
theorem Runs.label {l : Nat} (h : Q .normal e σ) : Runs X n fn (.label l) e σ Q := ⟨0, _, _, _, rfl, h⟩
theorem Runs.scope (h : Runs X n fn c e σ Q) : Runs X n fn (.scope c) e σ Q := by
 obtain ⟨l1, x, e1, σ1, h1, h2⟩ := h.run
 exact ⟨l1, x, e1, σ1, by simp only [Z7]; exact h1, h2⟩
theorem Runs.seq (h : Runs X n fn a e σ fun x e' σ' => match x with | .normal => Runs X n fn b e' σ' Q | x => Q x e' σ') : Runs X n fn (.seq a b) e σ Q := by
 obtain ⟨l1, x, e1, σ1, h1, h2⟩ := h.run
 cases x with
 | normal =>
  obtain ⟨l2, y, e2, σ2, h3, h4⟩ := h2.run
  exact ⟨max l1 l2, y, e2, σ2, by simp only [Z7, Z1J (Y0X l1 l2) h1]; exact Z1J (Y0S l1 l2) h3, h4⟩
 | exit id => exact ⟨l1, _, e1, σ1, by simp only [Z7, h1], h2⟩
 | ret => exact ⟨l1, _, e1, σ1, by simp only [Z7, h1], h2⟩
theorem Runs.mono {Q' : Ex → Env → Heap → Prop} (h : Runs X n fn c e σ Q) (hq : ∀ x e σ, Q x e σ → Q' x e σ) : Runs X n fn c e σ Q' := by
 obtain ⟨l1, x, e1, σ1, h1, h2⟩ := h.run
 exact ⟨l1, x, e1, σ1, h1, hq _ _ _ h2⟩
theorem Runs.block {id : Nat} (h : Runs X n fn c e σ fun x e' σ' => if x = .exit id then Q .normal e' σ' else Q x e' σ') : Runs X n fn (.block id c) e σ Q := by
 obtain ⟨l1, x, e1, σ1, h1, h2⟩ := h.run
 cases x with
 | normal => exact ⟨l1, .normal, e1, σ1, by simp only [Z7, h1], by simpa using h2⟩
 | ret => exact ⟨l1, .ret, e1, σ1, by simp only [Z7, h1], by simpa using h2⟩
 | exit id' =>
  by_cases hid : id' = id
  ·subst hid;exact ⟨l1, .normal, e1, σ1, by simp only [Z7, h1, if_true], by simpa using h2⟩
  ·exact ⟨l1, .exit id', e1, σ1, by simp only [Z7, h1, if_neg hid], by simpa [hid] using h2⟩
theorem Runs.cond {t : Operand} {v : Bool} (ht : Z0 X e t = some (.v (.bool v))) (h1 : v = true → Runs X n fn a e σ Q) (h2 : v = false → Runs X n fn b e σ Q) : Runs X n fn (.cond t a b) e σ Q := by
 cases v with
 | true =>
  obtain ⟨l1, x, e1, σ1, h1, h2⟩ := (h1 rfl).run
  exact ⟨l1, x, e1, σ1, by simp only [Z7, ht]; exact h1, h2⟩
 | false =>
  obtain ⟨l1, x, e1, σ1, h1, h2⟩ := (h2 rfl).run
  exact ⟨l1, x, e1, σ1, by simp only [Z7, ht]; exact h1, h2⟩
theorem Runs.ops {id : Nat} {ops : Array Oper} {r : Env × Heap} (h : Z0u X (Zu X) n ops σ.nx 0 ops.toList e ⟨σ.nx + ops.size, σ.ent⟩ = some r) (hq : Q .normal r.1 r.2) : Runs X n fn (.region id ops false) e σ Q :=
 ⟨0, _, _, _, by simp only [Z7, YA, if_false, h, Y8], hq⟩
theorem Runs.draw {id : Nat} {ops : Array Oper} {r : Env × Heap} (hd : Z24 ops = true) (h : Z0Q X (Zu X) n ops σ.nx 0 ops.toList e ⟨σ.nx + ops.size, σ.ent⟩ = some r) (hq : Q .normal r.1 r.2) : Runs X n fn (.region id ops true) e σ Q :=
 ⟨0, _, _, _, by simp only [Z7, if_true, hd, h, Y8], hq⟩
theorem Runs.loop (I : Nat → Env → Heap → Prop) {m : Nat} (h0 : I m e σ)
  (hs : ∀ m e σ, I m e σ → Runs X n fn c e σ fun x e' σ' => match x with | .normal => ∃ m', m' < m ∧ I m' e' σ' | x => Q x e' σ') : Runs X n fn (.loop c) e σ Q := by
 have key : ∀ m e σ, I m e σ → ∃ lf, ∀ lf', lf ≤ lf' → ∃ j x e' σ', Z1P (Z7 X (Zu X) lf' n fn c) j e σ = some (x, e', σ') ∧ Q x e' σ' := by
  intro m
  induction m using Nat.strongRecOn with
  | _ m ih =>
   intro e σ hI;obtain ⟨l1, x, e1, σ1, h1, h2⟩ := (hs m e σ hI).run
   cases x with
   | normal =>
    obtain ⟨m', hlt, hI'⟩ := h2
    obtain ⟨l2, q2⟩ := ih m' hlt e1 σ1 hI'
    refine ⟨max l1 l2, fun lf' hl => ?_⟩
    obtain ⟨j, x, e', σ', q3, q4⟩ := q2 lf' (by omega)
    exact ⟨j + 1, x, e', σ', by simp only [Z1P, Z1J (show l1 ≤ lf' by omega) h1]; exact q3, q4⟩
   | exit id => exact ⟨l1, fun lf' hl => ⟨1, _, e1, σ1, by simp only [Z1P, Z1J hl h1], h2⟩⟩
   | ret => exact ⟨l1, fun lf' hl => ⟨1, _, e1, σ1, by simp only [Z1P, Z1J hl h1], h2⟩⟩
 obtain ⟨lf, hl⟩ := key m e σ h0
 obtain ⟨j, x, e', σ', q1, q2⟩ := hl lf (YB _)
 have up : ∀ (step step' : Env → Heap → Option Out) (hst : ∀ e σ r, step e σ = some r → step' e σ = some r) (j j' : Nat) (hj : j ≤ j') (e : Env) (σ : Heap) (r : Out), Z1P step j e σ = some r → Z1P step' j' e σ = some r := by
  intro step step' hst j
  induction j with
  | zero => intro j' _ e σ r h; simp [Z1P] at h
  | succ j ihj =>
   intro j' hj e σ r h;obtain ⟨j', rfl⟩ : ∃ i, j' = i + 1 := ⟨j' - 1, by omega⟩
   simp only [Z1P] at h ⊢
   split at h
   ·rename_i h1;rw [hst _ _ _ h1];exact ihj j' (by omega) _ _ _ h
   ·rename_i hn;rw [hst _ _ _ h]
    split
    ·rename_i heq; rw [h] at hn; cases heq; exact absurd rfl (hn _ _)
    ·rfl
 refine ⟨max lf j, x, e', σ', ?_, q2⟩
 simp only [Z7]
 exact up _ _ (fun e σ r h => Z1J (Y0X lf j) h) j _ (Y0S lf j) _ _ _ q1
structure Fn (X : Ctx) (f : FuncId) (args : List PV) (r : PV) : Prop where
 call : ∀ σ, Zu X (.fn f) args σ = some (r, σ)
 pure : args.all PV.pure = true
 keep : X.keep f = false
 opn : X.opn f = false
theorem Fn.of {f : FuncId} {args : List PV} {r : PV} {fu : Func} {c : Code} (hf : X.P.funcs[f]? = some fu) (hb : fu.body = some c) (hi : X.intr f args = none) (hk : X.keep f = false) (ho : X.opn f = false) (hp : args.all PV.pure = true)
  (h : Runs X (max fu.ntmps args.length) f c (Z40 args) Heap.empty fun x e σ => (x = .normal ∨ x = .ret) ∧ ∃ xs σ', Zq X.P e σ fu.results.toList = some xs ∧ Z0e σ (Z0w xs) = some (r, σ')) : Fn X f args r := by
 refine ⟨fun σ => ?_, hp, hk, ho⟩
 obtain ⟨lf, x, e', σ', h1, hx, xs, σ2, h2, h3⟩ := h.run
 refine Z1f (lf := lf) ?_
 have hbody : Z0m X (Zu X) lf f args Heap.empty = some (Z0w xs, σ') := by
  simp only [Z0m, hf, hb, h1]
  rcases hx with rfl | rfl <;> simp only [h2, Y8]
 simp only [Z3A, hi, hk, YA, if_false, Z1L hp, ho, hp, if_true, hbody, Y0, h3, Y8]
theorem Fn.intr {f : FuncId} {args : List PV} {r : PV} (hi : X.intr f args = some r) (hp : args.all PV.pure = true) (hk : X.keep f = false) (ho : X.opn f = false) : Fn X f args r :=
 ⟨fun σ => Z1f (lf := 0) (by simp only [Z3A, hi, hp, if_true]), hp, hk, ho⟩
theorem Fn.run {f : FuncId} {args : List PV} {r : PV} (k : Nat) (h : ∀ σ, Z0H X k (.fn f) args σ = some (r, σ)) (hp : args.all PV.pure = true) (hk : X.keep f = false) (ho : X.opn f = false) : Fn X f args r :=
 ⟨fun σ => Z1N.2 ⟨k, h σ⟩, hp, hk, ho⟩
end Go.Dn

namespace Go.Dn
open Go
def set (e : Env) (d : Nat) (v : PV) : Env := fun j => bif Nat.beq j d then v else e j
theorem set_eq (e : Env) (d : Nat) (v : PV) : set e d v = upd e d v := by
 funext j
 simp only [set, upd]
 by_cases h : j = d
 ·subst h; simp
 ·have : Nat.beq j d = false := by
   cases hb : Nat.beq j d with
   | false => rfl
   | true => exact absurd (Yv hb) h
  rw [this, if_neg h]
  rfl
structure Ops (X : Ctx) (n : Nat) (dr : Bool) (ops : Array Oper) (base i : Nat) (l : List Oper) (e : Env) (σ : Heap) (K : Env → Heap → Prop) : Prop where
 run : ∃ e' σ', (if dr then Z0Q X (Zu X) n ops base i l e σ else Z0u X (Zu X) n ops base i l e σ) = some (e', σ') ∧ K e' σ'
variable {X : Ctx} {n : Nat} {dr : Bool} {fn : FuncId} {ops : Array Oper} {base i : Nat} {l : List Oper} {e : Env} {σ : Heap} {K : Env → Heap → Prop} {Q : Ex → Env → Heap → Prop} {c a b : Code}
def Then' (R : Env → Heap → Prop) (Q : Ex → Env → Heap → Prop) : Ex → Env → Heap → Prop
 | .normal, e, σ => R e σ
 | x, e, σ => Q x e σ
def InBlock (id : Nat) (Q : Ex → Env → Heap → Prop) : Ex → Env → Heap → Prop
 | .exit id', e, σ => if id' = id then Q .normal e σ else Q (.exit id') e σ
 | x, e, σ => Q x e σ
theorem Runs.then (h : Runs X n fn a e σ (Then' (fun e σ => Runs X n fn b e σ Q) Q)) : Runs X n fn (.seq a b) e σ Q :=
 .seq (h.mono fun x e σ hx => by cases x <;> exact hx)
theorem Runs.inBlock {id : Nat} (h : Runs X n fn c e σ (InBlock id Q)) : Runs X n fn (.block id c) e σ Q :=
 .block (h.mono fun x e σ hx => by
  cases x with
  | exit id' =>
   simp only [InBlock] at hx
   by_cases hid : id' = id
   ·simp only [hid, if_true] at hx ⊢; exact hx
   ·simp only [hid, if_false] at hx;rw [if_neg (by simpa using hid)]
    exact hx
  | normal => exact (by simpa [InBlock] using hx)
  | ret => exact (by simpa [InBlock] using hx))
theorem Runs.region {id m m' : Nat} {ent : Nat → Ent} (hm : m + l.length = m') (h : Ops X n false l.toArray m 0 l e ⟨m', ent⟩ (Q .normal)) : Runs X n fn (.region id l.toArray false) e ⟨m, ent⟩ Q := by
 subst hm
 obtain ⟨e', σ', h1, h2⟩ := h.run
 simp only [YA, if_false] at h1
 exact Runs.ops (r := (e', σ')) (by simpa using h1) h2
theorem Runs.drawn {id m m' : Nat} {ent : Nat → Ent} (hd : Z24 l.toArray = true) (hm : m + l.length = m') (h : Ops X n true l.toArray m 0 l e ⟨m', ent⟩ (Q .normal)) : Runs X n fn (.region id l.toArray true) e ⟨m, ent⟩ Q := by
 subst hm
 obtain ⟨e', σ', h1, h2⟩ := h.run
 simp only [if_true] at h1
 exact Runs.draw hd (r := (e', σ')) (by simpa using h1) h2
theorem Runs.whether {t : Operand} {v : Bool} (ht : Z0 X e t = some (.v (.bool v))) (h1 : v = true → Runs X n fn a e σ Q) (h2 : v = false → Runs X n fn b e σ Q) : Runs X n fn (.cond t a b) e σ Q := .cond ht h1 h2
theorem Runs.yes {t : Operand} (ht : Z0 X e t = some (.v (.bool true))) (h1 : Runs X n fn a e σ Q) : Runs X n fn (.cond t a b) e σ Q := .cond ht (fun _ => h1) (fun h => by cases h)
theorem Runs.no {t : Operand} (ht : Z0 X e t = some (.v (.bool false))) (h1 : Runs X n fn b e σ Q) : Runs X n fn (.cond t a b) e σ Q := .cond ht (fun h => by cases h) (fun _ => h1)
theorem Ops.nil (h : K e σ) : Ops X n dr ops base i [] e σ K := ⟨e, σ, by cases dr <;> rfl, h⟩
theorem Ops.step {o : Oper} {e1 : Env} {σ1 : Heap} (h : Z0G X (Zu X) n ops base i o e σ = some (e1, σ1)) (ha : dr = true → Zg ops e o = some true → ZZ X ops base i o e = true) (hk : Ops X n dr ops base (i + 1) l e1 σ1 K) : Ops X n dr ops base i (o :: l) e σ K := by
 obtain ⟨e', σ', h1, h2⟩ := hk.run
 refine ⟨⟨e', σ', ?_, h2⟩⟩
 cases dr with
 | false =>
  simp only [YA, if_false] at h1 ⊢;simp only [Z0u, h, Y0, h1]
 | true =>
  simp only [if_true] at h1 ⊢;have : Z0B X (Zu X) n ops base i o e σ = some (e1, σ1) := by
   unfold Z0B;rw [if_neg]
   ·exact h
   ·rintro ⟨q1, q2⟩;rw [ha rfl q1] at q2;cases q2
  simp only [Z0Q, this, Y0, h1]
def inert (op : Op) : Bool := Zd op == .pure && (match op with | .slice .. | .buildSlice .. => false | _ => true)
theorem ask0 {o : Oper} (h : ZU X ops base i o e = true) : ZZ X ops base i o e = true := by
 unfold ZZ
 rw [h, Bool.or_true]
theorem Z3e {o : Oper} (h : Z1h (Region.before ops) ops i = true) : ZZ X ops base i o e = true := by
 unfold ZZ
 rw [h, Bool.true_or]
theorem Z0E {o : Oper} (h : inert o.op = true) : ZZ X ops base i o e = true := by
 refine ask0 ?_
 unfold inert at h
 simp only [Y9, beq_iff_eq] at h
 unfold ZU
 rw [h.1]
 cases ho : o.op <;> rw [ho] at h <;> simp_all [frozen]
theorem Z21 {o : Oper} (h : Zd o.op = .read) (ht : touched X e o.op = []) : ZZ X ops base i o e = true := by
 refine ask0 ?_
 unfold ZU
 rw [h, ht]
 simp
theorem Z65 {d m : Nat} (h : Nat.blt d m = true) : d < m := by
 rw [Nat.blt_eq] at h
 exact h
section
variable {d : Nat} {op : Op} {t : TypeId} {p : String} {af : Array Edge} {x : PV} {σ1 : Heap}
theorem Ops.plain (h : Z4 X (Zu X) e σ (base + i) op = some (x, σ1)) (ha : dr = true → ZZ X ops base i ⟨some d, op, t, p, af, none⟩ e = true) (hd : Nat.blt d n = true) (hk : Ops X n dr ops base (i + 1) l (set e d x) σ1 K) : Ops X n dr ops base i (⟨some d, op, t, p, af, none⟩ :: l) e σ K := by
 refine .step ?_ (fun hw _ => ha hw) hk
 simp only [Z0G, Zg, h, Y0, putD, if_pos (Z65 hd), set_eq]
theorem Ops.plain0 (h : Z4 X (Zu X) e σ (base + i) op = some (x, σ1)) (ha : dr = true → ZZ X ops base i ⟨none, op, t, p, af, none⟩ e = true) (hk : Ops X n dr ops base (i + 1) l e σ1 K) : Ops X n dr ops base i (⟨none, op, t, p, af, none⟩ :: l) e σ K := by
 refine .step ?_ (fun hw _ => ha hw) hk
 simp only [Z0G, Zg, h, Y0, putD]
theorem Ops.part {o : Oper} {g : Nat} {v : Bool} (h : e g = .v (.bool v)) (ht : v = true → Ops X n dr ops base i (o :: l) (set e g (.v (.bool true))) σ K) (hf : v = false → Ops X n dr ops base i (o :: l) (set e g (.v (.bool false))) σ K) : Ops X n dr ops base i (o :: l) e σ K := by
 have key : set e g (.v (.bool v)) = e := by
  rw [set_eq]
  funext k
  simp only [upd]
  split
  ·rename_i hk; rw [hk, h]
  ·rfl
 cases v with
 | true => rw [← key]; exact ht rfl
 | false => rw [← key]; exact hf rfl
variable {j g : Nat} {w : Bool}
theorem Ops.split {dst : Option Tmp} {v : Bool} (hg : (ops[j]?).bind (·.dst) = some g) (h : e g = .v (.bool v)) (ht : v = true → Ops X n dr ops base i (⟨dst, op, t, p, af, some (j, w)⟩ :: l) (set e g (.v (.bool true))) σ K)
  (hf : v = false → Ops X n dr ops base i (⟨dst, op, t, p, af, some (j, w)⟩ :: l) (set e g (.v (.bool false))) σ K) : Ops X n dr ops base i (⟨dst, op, t, p, af, some (j, w)⟩ :: l) e σ K := by
 have _ := hg
 exact .part h ht hf
theorem Ops.wanted {dst : Option Tmp} (hg : (ops[j]?).bind (·.dst) = some g) (he : e g = .v (.bool w)) (hk : Ops X n dr ops base i (⟨dst, op, t, p, af, none⟩ :: l) e σ K) : Ops X n dr ops base i (⟨dst, op, t, p, af, some (j, w)⟩ :: l) e σ K := by
 obtain ⟨e', σ', h1, h2⟩ := hk.run
 refine ⟨⟨e', σ', ?_, h2⟩⟩
 have this : Zg ops e ⟨dst, op, t, p, af, some (j, w)⟩ = some true := by
  simp only [Zg, hg, he];cases w <;> rfl
 have t2 : Zg ops e ⟨dst, op, t, p, af, none⟩ = some true := rfl
 have s1 : Z0G X (Zu X) n ops base i ⟨dst, op, t, p, af, some (j, w)⟩ e σ = Z0G X (Zu X) n ops base i ⟨dst, op, t, p, af, none⟩ e σ := by
  unfold Z0G;rw [this, t2]
 have s2 : ZZ X ops base i ⟨dst, op, t, p, af, some (j, w)⟩ e = ZZ X ops base i ⟨dst, op, t, p, af, none⟩ e := rfl
 have s3 : Z0B X (Zu X) n ops base i ⟨dst, op, t, p, af, some (j, w)⟩ e σ = Z0B X (Zu X) n ops base i ⟨dst, op, t, p, af, none⟩ e σ := by
  unfold Z0B;rw [this, t2, s1, s2]
  rfl
 rw [← h1]
 cases dr <;> simp only [YA, if_false, if_true, Z0u, Z0Q, s1, s3]
theorem Ops.want (hg : (ops[j]?).bind (·.dst) = some g) (he : e g = .v (.bool w)) (hk : Ops X n dr ops base i (⟨some d, op, t, p, af, none⟩ :: l) e σ K) : Ops X n dr ops base i (⟨some d, op, t, p, af, some (j, w)⟩ :: l) e σ K := .wanted hg he hk
theorem Ops.pass (hg : (ops[j]?).bind (·.dst) = some g) (he : e g = .v (.bool (!w))) (hd : Nat.blt d n = true) (hk : Ops X n dr ops base (i + 1) l (set e d .undef) σ K) : Ops X n dr ops base i (⟨some d, op, t, p, af, some (j, w)⟩ :: l) e σ K := by
 have : Zg ops e ⟨some d, op, t, p, af, some (j, w)⟩ = some false := by
  simp only [Zg, hg, he];cases w <;> rfl
 refine .step ?_ (fun _ h => by rw [this] at h; cases h) hk
 simp only [Z0G, this, putD, if_pos (Z65 hd), set_eq]
theorem Ops.passU (hg : (ops[j]?).bind (·.dst) = some g) (he : e g = .undef) (hd : Nat.blt d n = true) (hk : Ops X n dr ops base (i + 1) l (set e d .undef) σ K) : Ops X n dr ops base i (⟨some d, op, t, p, af, some (j, w)⟩ :: l) e σ K := by
 have : Zg ops e ⟨some d, op, t, p, af, some (j, w)⟩ = some false := by
  simp only [Zg, hg, he]
 refine .step ?_ (fun _ h => by rw [this] at h; cases h) hk
 simp only [Z0G, this, putD, if_pos (Z65 hd), set_eq]
theorem Ops.pass0 (hg : (ops[j]?).bind (·.dst) = some g) (he : e g = .v (.bool (!w))) (hk : Ops X n dr ops base (i + 1) l e σ K) : Ops X n dr ops base i (⟨none, op, t, p, af, some (j, w)⟩ :: l) e σ K := by
 have : Zg ops e ⟨none, op, t, p, af, some (j, w)⟩ = some false := by
  simp only [Zg, hg, he];cases w <;> rfl
 refine .step ?_ (fun _ h => by rw [this] at h; cases h) hk
 simp only [Z0G, this, putD]
theorem Ops.pass0U (hg : (ops[j]?).bind (·.dst) = some g) (he : e g = .undef) (hk : Ops X n dr ops base (i + 1) l e σ K) : Ops X n dr ops base i (⟨none, op, t, p, af, some (j, w)⟩ :: l) e σ K := by
 have : Zg ops e ⟨none, op, t, p, af, some (j, w)⟩ = some false := by
  simp only [Zg, hg, he]
 refine .step ?_ (fun _ h => by rw [this] at h; cases h) hk
 simp only [Z0G, this, putD]
theorem Ops.call {f : FuncId} {args : Array Operand} {ts : Array TypeId} {ys : List PV} {r : PV} (ha : ZK X e args.toList = some ys) (hf : Fn X f ys r) (hd : Nat.blt d n = true) (hk : Ops X n dr ops base (i + 1) l (set e d r) σ K) :
  Ops X n dr ops base i (⟨some d, .call { callee := .value (.func f), args := args, argTypes := ts }, t, p, af, none⟩ :: l) e σ K :=
 .plain (x := r) (σ1 := σ) (by simp only [Z4, Za, ha, Z0, hf.call σ]) (fun _ => by
  exact ask0 (by simp only [ZU, Zd, ha, Z3q, Z0, pure_calm hf.pure, hf.opn, hf.keep, Y0D, Y07])) hd hk
end
section
variable {d : Nat} {t t1 t2 : TypeId} {p : String} {af : Array Edge} {x y : Operand} {v : PV}
theorem Z5K {op : BinOp} {u v : FV} {o : Oper} (hx : Z0 X e x = some (.v u)) (hy : Z0 X e y = some (.v v)) (ho : o.op = .binOp op t1 x y t2 := by rfl) : ZZ X ops base i o e = true := by
 by_cases h : Zd o.op = .pure
 ·exact Z0E (by rw [ho] at h; simp only [inert, ho, h]; rfl)
 ·refine Z21 ?_ ?_
  ·rw [ho] at h ⊢;cases op <;> first | rfl | exact absurd rfl h
  ·rw [ho];simp only [touched, ZP, YE, YK, hx, hy, vids, YL]
theorem Ops.move (hx : Z0 X e x = some v) (hd : Nat.blt d n = true) (hk : Ops X n dr ops base (i + 1) l (set e d v) σ K) : Ops X n dr ops base i (⟨some d, .move x, t, p, af, none⟩ :: l) e σ K :=
 .plain (by simp only [Z4, hx, Y8]) (fun _ => Z0E rfl) hd hk
theorem Ops.assign (hx : Z0 X e x = some v) (hd : Nat.blt d n = true) (hk : Ops X n dr ops base (i + 1) l (set e d v) σ K) : Ops X n dr ops base i (⟨some d, .assign x, t, p, af, none⟩ :: l) e σ K :=
 .plain (by simp only [Z4, hx, Y8]) (fun _ => Z0E rfl) hd hk
theorem Ops.int {op : BinOp} {k : IntKind} {m m' : Int} {r : FV} (hx : Z0 X e x = some (.v (.int k m))) (hy : Z0 X e y = some (.v (.int k m'))) (hop : (op != .shl && op != .shr) = true) (hr : Z4Q op k m m' = some r) (hd : Nat.blt d n = true) (hk : Ops X n dr ops base (i + 1) l (set e d (.v r)) σ K) :
  Ops X n dr ops base i (⟨some d, .binOp op t1 x y t2, t, p, af, none⟩ :: l) e σ K := by
 refine .plain (x := .v r) (σ1 := σ) ?_ (fun _ => Z5K hx hy) hd hk
 simp only [Z4, hx, hy]
 cases op <;> simp [binD, hr] at hop ⊢
theorem Ops.shl {k k' : IntKind} {m m' : Int} (hx : Z0 X e x = some (.v (.int k m))) (hy : Z0 X e y = some (.v (.int k' m'))) (h0 : 0 ≤ m') (hd : Nat.blt d n = true) (hk : Ops X n dr ops base (i + 1) l (set e d (.v (.int k (k.wrap (m * 2 ^ min m'.toNat k.bits))))) σ K) :
  Ops X n dr ops base i (⟨some d, .binOp .shl t1 x y t2, t, p, af, none⟩ :: l) e σ K := by
 refine .plain (σ1 := σ) ?_ (fun _ => Z5K hx hy) hd hk
 simp only [Z4, hx, hy, binD, if_neg (Int.not_lt.2 h0), Y8]
theorem Ops.shr {k k' : IntKind} {m m' : Int} (hx : Z0 X e x = some (.v (.int k m))) (hy : Z0 X e y = some (.v (.int k' m'))) (h0 : 0 ≤ m') (hd : Nat.blt d n = true) (hk : Ops X n dr ops base (i + 1) l (set e d (.v (.int k (m.fdiv (2 ^ min m'.toNat k.bits))))) σ K) :
  Ops X n dr ops base i (⟨some d, .binOp .shr t1 x y t2, t, p, af, none⟩ :: l) e σ K := by
 refine .plain (σ1 := σ) ?_ (fun _ => Z5K hx hy) hd hk
 simp only [Z4, hx, hy, binD, if_neg (Int.not_lt.2 h0), Y8]
theorem Ops.quo {k : IntKind} {m m' : Int} (hx : Z0 X e x = some (.v (.int k m))) (hy : Z0 X e y = some (.v (.int k m'))) (h0 : m' ≠ 0) (hd : Nat.blt d n = true) (hk : Ops X n dr ops base (i + 1) l (set e d (.v (.int k (k.wrap (m.tdiv m'))))) σ K) :
  Ops X n dr ops base i (⟨some d, .binOp .quo t1 x y t2, t, p, af, none⟩ :: l) e σ K :=
 .int hx hy rfl (by simp only [Z4Q, if_neg h0]) hd hk
theorem Ops.rem {k : IntKind} {m m' : Int} (hx : Z0 X e x = some (.v (.int k m))) (hy : Z0 X e y = some (.v (.int k m'))) (h0 : m' ≠ 0) (hd : Nat.blt d n = true) (hk : Ops X n dr ops base (i + 1) l (set e d (.v (.int k (m.tmod m')))) σ K) :
  Ops X n dr ops base i (⟨some d, .binOp .rem t1 x y t2, t, p, af, none⟩ :: l) e σ K :=
 .int hx hy rfl (by simp only [Z4Q, if_neg h0]) hd hk
theorem Ops.eqB {b b' : Bool} (hx : Z0 X e x = some (.v (.bool b))) (hy : Z0 X e y = some (.v (.bool b'))) (ht : X.P.underlying t1 = some .bool) (hd : Nat.blt d n = true) (hk : Ops X n dr ops base (i + 1) l (set e d (.v (.bool (b == b')))) σ K) :
  Ops X n dr ops base i (⟨some d, .binOp .eql t1 x y t2, t, p, af, none⟩ :: l) e σ K := by
 refine .plain (σ1 := σ) ?_ (fun _ => Z5K hx hy) hd hk
 simp only [Z4, hx, hy, binD, Z3X, if_true, eqD, ht, Y8]
theorem Ops.neB {b b' : Bool} (hx : Z0 X e x = some (.v (.bool b))) (hy : Z0 X e y = some (.v (.bool b'))) (ht : X.P.underlying t1 = some .bool) (hd : Nat.blt d n = true) (hk : Ops X n dr ops base (i + 1) l (set e d (.v (.bool (b != b')))) σ K) :
  Ops X n dr ops base i (⟨some d, .binOp .neq t1 x y t2, t, p, af, none⟩ :: l) e σ K := by
 refine .plain (σ1 := σ) ?_ (fun _ => Z5K hx hy) hd hk
 simp only [Z4, hx, hy, binD, Z3X, if_true, eqD, ht, Y8]
 rfl
theorem Ops.not {b : Bool} (hx : Z0 X e x = some (.v (.bool b))) (hd : Nat.blt d n = true) (hk : Ops X n dr ops base (i + 1) l (set e d (.v (.bool (!b)))) σ K) : Ops X n dr ops base i (⟨some d, .unOp .not t1 x, t, p, af, none⟩ :: l) e σ K :=
 .plain (by simp only [Z4, hx, Y0, unD, Y8]) (fun _ => Z0E rfl) hd hk
theorem Ops.neg {k : IntKind} {m : Int} (hx : Z0 X e x = some (.v (.int k m))) (hd : Nat.blt d n = true) (hk : Ops X n dr ops base (i + 1) l (set e d (.v (.int k (k.wrap (0 - m))))) σ K) : Ops X n dr ops base i (⟨some d, .unOp .neg t1 x, t, p, af, none⟩ :: l) e σ K :=
 .plain (by simp only [Z4, hx, Y0, unD, Y8]) (fun _ => Z0E rfl) hd hk
theorem Ops.conv {k k' : IntKind} {m : Int} {de : TypeDesc} (hx : Z0 X e x = some (.v (.int k m))) (h1 : X.P.underlying t1 = some de) (h2 : tint X.P t2 = some k') (hd : Nat.blt d n = true) (hk : Ops X n dr ops base (i + 1) l (set e d (.v (.int k' (k'.wrap m)))) σ K) : Ops X n dr ops base i (⟨some d, .convert t1 t2 x, t, p, af, none⟩ :: l) e σ K :=
 .plain (by simp only [Z4, hx, Y0, convD, h1, h2, Y8]) (fun _ => Z0E rfl) hd hk
theorem Ops.pickT {c : Operand} (hc : Z0 X e c = some (.v (.bool true))) (hx : Z0 X e x = some v) (hd : Nat.blt d n = true) (hk : Ops X n dr ops base (i + 1) l (set e d v) σ K) : Ops X n dr ops base i (⟨some d, .pick c x y, t, p, af, none⟩ :: l) e σ K :=
 .plain (by simp only [Z4, hc, hx, Y8]) (fun _ => Z0E rfl) hd hk
theorem Ops.pickF {c : Operand} (hc : Z0 X e c = some (.v (.bool false))) (hx : Z0 X e y = some v) (hd : Nat.blt d n = true) (hk : Ops X n dr ops base (i + 1) l (set e d v) σ K) : Ops X n dr ops base i (⟨some d, .pick c x y, t, p, af, none⟩ :: l) e σ K :=
 .plain (by simp only [Z4, hc, hx, Y8]) (fun _ => Z0E rfl) hd hk
theorem Ops.extract {vs : List PV} {j : Nat} (hx : Z0 X e x = some (.tup vs)) (hj : vs[j]? = some v) (hd : Nat.blt d n = true) (hk : Ops X n dr ops base (i + 1) l (set e d v) σ K) : Ops X n dr ops base i (⟨some d, .extract x j, t, p, af, none⟩ :: l) e σ K :=
 .plain (by simp only [Z4, hx, hj, Y8]) (fun _ => Z0E rfl) hd hk
end
def Z3W : PV → Bool
 | .tup xs => xs.all PV.pure
 | x => x.pure
theorem Z2L {x : PV} (h : x.pure = true) : Z07 σ x = some (x, σ) := by
 have := Z2z (σ := σ) h
 cases x <;> simp [PV.pure] at h <;> exact this
theorem Z5N : ∀ {xs : List PV}, xs.all PV.pure = true → Z12 σ xs = some (xs, σ)
 | [], _ => rfl
 | x :: xs, h => by
  simp only [Yi, Y9] at h;simp [Z12, Z2L h.1, Z5N h.2]
theorem Z6l {x : PV} (h : Z3W x = true) : Z0e σ x = some (x, σ) := by
 cases x with
 | tup xs => simp only [Z3W] at h; simp [Z0e, Z5N h]
 | v y => exact Z2L (x := .v y) h
 | fptr y => exact Z2L (x := .fptr y) h
 | agg y => exact Z2L (x := .agg y) h
 | _ => simp [Z3W, PV.pure] at h
structure Ends (X : Ctx) (rs : List ResultVar) (r : PV) (x : Ex) (e : Env) (σ : Heap) : Prop where
 out : (x = .normal ∨ x = .ret) ∧ ∃ xs σ', Zq X.P e σ rs = some xs ∧ Z0e σ (Z0w xs) = some (r, σ')
theorem Ends.ret {rs : List ResultVar} {xs : List PV} {r : PV} (h : Zq X.P e σ rs = some xs) (hp : Z3W (Z0w xs) = true) (hr : Z0w xs = r) : Ends X rs r .ret e σ :=
 ⟨.inr rfl, xs, σ, h, by rw [← hr]; exact Z6l hp⟩
theorem Ends.normal {rs : List ResultVar} {xs : List PV} {r : PV} (h : Zq X.P e σ rs = some xs) (hp : Z3W (Z0w xs) = true) (hr : Z0w xs = r) : Ends X rs r .normal e σ :=
 ⟨.inl rfl, xs, σ, h, by rw [← hr]; exact Z6l hp⟩
theorem Fn.ends {f : FuncId} {args : List PV} {r : PV} {fu : Func} {c : Code} {m : Nat} (hf : X.P.funcs[f]? = some fu) (hb : fu.body = some c) (hi : X.intr f args = none) (hk : X.keep f = false) (ho : X.opn f = false) (hp : args.all PV.pure = true) (hm : max fu.ntmps args.length = m)
  (h : Runs X m f c (Z40 args) ⟨0, fun _ => .none⟩ (Ends X fu.results.toList r)) : Fn X f args r :=
 .of hf hb hi hk ho hp (by subst hm; exact h.mono fun _ _ _ hx => hx.out)
end Go.Dn

namespace Go.Dn
open Go Go.RowKit
variable {X : Ctx} {n : Nat} {fn : FuncId} {c : Code} {e : Env} {Q : Ex → Env → Heap → Prop}
theorem callL_ok (hX : CtxOK X) : Z2T X (Zu X) := fun c args r σ' s h hi hG vs hv => by
 obtain ⟨k, hk⟩ := Z1N.1 h
 exact callD_ok hX k c args r σ' s hk hi hG vs hv
theorem callL_tame : Z0a (Zu X) := fun c args σ r σ' h => by
 obtain ⟨k, hk⟩ := Z1N.1 h
 exact Z5E k c args σ r σ' hk
theorem callL_pure : Z1W X (Zu X) := fun f args σ r σ' h hp ho hk => by
 obtain ⟨k, h1⟩ := Z1N.1 h
 obtain ⟨h2, h3⟩ := Z7I k f args σ r σ' h1 hp ho hk
 exact ⟨h2, fun σ2 => Z1N.2 ⟨k, h3 σ2⟩⟩
theorem code_wp (hX : CtxOK X) {s : St} {a : Act} (hG : Z0A X s) (hi : Inv s) (he : EnvR s n e a) (h : Runs X n fn c e s.σ Q) :
  c.wp X.P (fun ex a' w' => ∃ x e' σ' ι', Q x e' σ' ∧ ex = x.out ∧ Aft s n a e' σ' a' w' ι') a s.w := by
 obtain ⟨lf, x, e', σ', h1, h2⟩ := h.run
 exact (wpIn_wide (n := 0)).1 (code_ok (rd := none) hX.prog.mixed (callL_ok hX) callL_tame callL_pure c hG hi he (fun l hl => by cases hl) h1 fun a' w' ι' ht => ⟨x, e', σ', ι', h2, rfl, ht⟩)
def St.start (w : World) : St := ⟨w, fun _ => False, Heap.empty, fun _ => 0⟩
theorem start_inv (w : World) : Inv (St.start w) :=
 ⟨fun _ => trivial, fun _ _ h => absurd h Z1G, fun _ h => absurd h Z1G, fun _ _ _ h => (by cases h), fun _ _ => rfl, fun _ h => h.elim⟩
theorem start_imm {w : World} {b : Nat} (h : b < w.heap.size) : (St.start w).imm b := ⟨h, fun h => h, fun _ h => absurd h Z1G⟩
theorem start_below {w w' : World} {σ' : Heap} {ι' : Nat → Nat} (h : Ev (St.start w) ⟨w', fun _ => False, σ', ι'⟩) : Below w.heap.size w w' where
 os := h.os
 tape := h.tape
 output := h.output
 size := h.size
 block := fun k hk => h.keep k hk fun id hl => absurd hl Z1G
theorem law_calls (hX : CtxOK X) {f : FuncId} {args : List PV} {vs : Array Value} {w : World} (h : Fn X f args (.v (.bool true))) (hG : Z0A X (St.start w)) (hv : PVRs (St.start w) args vs) :
  Calls X.P f vs w fun e w' => e = .returned (.bool true) ∧ Below w.heap.size w w' := by
 have h1 := callL_ok hX (.fn f) args (.v (.bool true)) Heap.empty (St.start w) (h.call _) (start_inv w) hG vs hv
 refine h1.2.mono fun e w' ⟨v, he, ι', _, h3, h4⟩ => ?_
 have := Z1H h4
 subst this
 exact ⟨he, start_below h3⟩
theorem leaves_ok {fu : Func} {s0 : St} {a0 a' : Act} {e1 : Env} {σ1 : Heap} {w' : World} {ι' : Nat → Nat} {xs : List PV} (hd0 : a0.defers = []) (ht : Aft s0 n a0 e1 σ1 a' w' ι') (h2 : Zq X.P e1 σ1 fu.results.toList = some xs) {R : Ending → World → Prop}
  (hR : ∀ v w', Post s0 (Z0w xs) σ1 v w' → R (.returned v) w') : LeavesInM (Fw none) 0 X.P fu a'.tmps R a'.defers .returning w' := by
 obtain ⟨ms, hd, hmk⟩ := ht.marks
 have hd : a'.defers = ms.map mark := by simpa [hd0] using hd
 have hml : ∀ r ∈ ms, w'.heap[r]? = some (.deferred (some [])) := fun r hr => (hmk.2 r hr).2.2
 obtain ⟨g1, g2, g3, g4, g5⟩ := Z4y ms w'
 have hi2 := shut_inv (s := ⟨w', s0.Y, σ1, ι'⟩) g1 g2 hml ht.inv
 have he2 : EnvR ⟨shut w' ms, s0.Y, σ1, ι'⟩ n e1 a' := ⟨ht.env.1, fun t => Z5i (s := ⟨w', s0.Y, σ1, ι'⟩) g1 g2 hml (ht.env.2 t)⟩
 have hev2 := shut_ev ht.ev g1 g2 (fun r hr => (hmk.2 r hr).1) g3 g4 g5
 obtain ⟨v, h3, h4⟩ := Z6w (X := X) hi2 he2 h2
 rw [hd]
 exact Z3b ms w' hmk.1 hml ⟨v, h3, hR _ _ ⟨ι', hi2, hev2, h4⟩⟩
end Go.Dn

namespace Go.Dn
open Go
inductive Res where
 | blk (id : Nat) (t : TypeId) (cells : List PV)
 | sl (v : PV) (e : TypeId) (sz : Nat) (xs : List (List FV)) (live : Bool)
 | floor (m : Nat)
 | hole (id : Nat)
 | loop (id : Nat) (fn : FuncId) (e : Env) (n : Nat) (ps : List Nat) (as_ bo : Code) (st : LoopState) (pd : Option Code)
 | mp (id : Nat) (kv : List (Int × Int))
 | fix (id : Nat) (en : Ent)
def PV.owner : PV → Option Nat
 | .buf id _ _ => some id
 | _ => none
def Res.owner : Res → Option Nat
 | .blk id _ _ => some id
 | .sl v _ _ _ _ => v.owner
 | .floor _ => none
 | .hole id => some id
 | .loop id _ _ _ _ _ _ _ _ => some id
 | .mp id _ => some id
 | .fix id _ => some id
def Res.holds (σ : Heap) : Res → Prop
 | .blk id t cells => σ.ent id = .blk t cells true
 | .sl v e sz xs live => (∀ y ∈ xs, y.length = sz) ∧ ((v = .nils ∧ xs = []) ∨ ∃ id, v = .buf id xs.length sz ∧ σ.ent id = .blk e (vs xs.flatten) live)
 | .floor m => m ≤ σ.nx
 | .hole _ => True
 | .loop id fn e n ps as_ bo st pd => σ.ent id = .loop fn e n ps as_ bo st pd
 | .mp id kv => σ.ent id = .map kv
 | .fix id en => σ.ent id = en
structure Has (σ : Heap) (lo hi : Nat) (L : List Res) : Prop where
 holds : ∀ (k : Nat) (r : Res), L[k]? = some r → r.holds σ
 lt : ∀ (k : Nat) (r : Res), L[k]? = some r → ∀ id, r.owner = some id → (id < lo ∨ hi ≤ id) ∧ id < σ.nx
 sep : ∀ (j k : Nat) (r s : Res), j ≠ k → L[j]? = some r → L[k]? = some s → ∀ id, r.owner = some id → s.owner ≠ some id
 le : hi ≤ σ.nx
section
variable {σ : Heap} {lo hi : Nat} {L : List Res} {k : Nat} {r : Res}
theorem Has.nil (h : hi ≤ σ.nx) : Has σ lo hi [] := ⟨by simp, by simp, by simp, h⟩
theorem Has.weak (H : Has σ lo hi L) {lo' hi' : Nat} (h1 : lo ≤ lo') (h2 : hi' ≤ hi) : Has σ lo' hi' L :=
 ⟨H.holds, fun k r hk id ho => ⟨(H.lt k r hk id ho).1.imp (fun h => by omega) (fun h => by omega), (H.lt k r hk id ho).2⟩, H.sep, by have := H.le; omega⟩
theorem Has.all (H : Has σ lo hi L) : Has σ σ.nx σ.nx L :=
 ⟨H.holds, fun k r hk id ho => ⟨.inl (H.lt k r hk id ho).2, (H.lt k r hk id ho).2⟩, H.sep, YB _⟩
theorem Has.erase (H : Has σ lo hi L) (k : Nat) : Has σ lo hi (L.eraseIdx k) := by
 have key : ∀ (j : Nat) (r : Res), (L.eraseIdx k)[j]? = some r → L[if j < k then j else j + 1]? = some r := by
  intro j r h;rw [List.getElem?_eraseIdx] at h
  by_cases hj : j < k
  ·rw [if_pos hj] at h ⊢; exact h
  ·rw [if_neg hj] at h ⊢; exact h
 refine ⟨fun j r h => H.holds _ r (key j r h), fun j r h => H.lt _ r (key j r h), fun i j r s hij h1 h2 => H.sep _ _ r s ?_ (key i r h1) (key j s h2), H.le⟩
 split <;> split <;> omega
theorem Z3n {id : Nat} {en : Ent} (h : r.holds σ) (ho : r.owner ≠ some id) : r.holds (σ.put id en) := by
 cases r with
 | blk id' t cells =>
  have : id' ≠ id := fun e => ho (by rw [e]; rfl)
  show upd σ.ent id en id' = _
  rw [ZG _ _ this]; exact h
 | sl v e sz xs live =>
  refine ⟨h.1, h.2.imp (fun h => h) fun ⟨id', hv, hb⟩ => ⟨id', hv, ?_⟩⟩
  have : id' ≠ id := fun e => ho (by rw [hv, e]; rfl)
  show upd σ.ent id en id' = _
  rw [ZG _ _ this]; exact hb
 | floor m => exact h
 | hole id' => trivial
 | loop id' fn e n ps as_ bo st pd =>
  have : id' ≠ id := fun e => ho (by rw [e]; rfl)
  show upd σ.ent id en id' = _
  rw [ZG _ _ this]; exact h
 | mp id' kv =>
  have : id' ≠ id := fun e => ho (by rw [e]; rfl)
  show upd σ.ent id en id' = _
  rw [ZG _ _ this]; exact h
 | fix id' en' =>
  have : id' ≠ id := fun e => ho (by rw [e]; rfl)
  show upd σ.ent id en id' = _
  rw [ZG _ _ this]; exact h
theorem Z0q {id : Nat} {en : Ent} : (σ.put id en).ent id = en := Z8 _ _ _
theorem Has.put (H : Has σ lo hi L) {id : Nat} {en : Ent} {r' : Res} (hk : L[k]? = some r) (ho : r.owner = some id) (hr : r'.holds (σ.put id en)) (ho' : r'.owner = some id) : Has (σ.put id en) lo hi (L.set k r') := by
 have key : ∀ (j : Nat) (s : Res), (L.set k r')[j]? = some s → (j = k ∧ s = r') ∨ (j ≠ k ∧ L[j]? = some s) := by
  intro j s h;rw [Y0M] at h
  by_cases hj : k = j
  ·subst hj;rw [if_pos rfl] at h
   split at h
   ·cases h; exact .inl ⟨rfl, rfl⟩
   ·cases h
  ·rw [if_neg hj] at h;exact .inr ⟨fun e => hj e.symm, h⟩
 refine ⟨fun j s h => ?_, fun j s h id' ho2 => ?_, fun i j s t hij h1 h2 id' hs => ?_, H.le⟩
 ·rcases key j s h with ⟨_, rfl⟩ | ⟨hj, h⟩
  ·exact hr
  ·exact Z3n (H.holds j s h) (H.sep k j r s (fun e => hj e.symm) hk h id ho)
 ·rcases key j s h with ⟨_, rfl⟩ | ⟨hj, h⟩
  ·rw [ho'] at ho2; cases ho2; exact H.lt k r hk id ho
  ·exact H.lt j s h id' ho2
 ·rcases key i s h1 with ⟨hi', rfl⟩ | ⟨hi', h1'⟩
  ·rw [ho'] at hs; cases hs
   rcases key j t h2 with ⟨hj, rfl⟩ | ⟨hj, h2'⟩
   ·omega
   ·exact H.sep k j r t (fun e => hj e.symm) hk h2' id ho
  ·rcases key j t h2 with ⟨hj, rfl⟩ | ⟨hj, h2'⟩
   ·intro e;rw [ho'] at e; cases e;exact H.sep i k s r hi' h1' hk id hs ho
   ·exact H.sep i j s t hij h1' h2' id' hs
theorem Has.push (H : Has σ lo hi L) {b : Nat} {en : Ent} {r' : Res} (hlo : lo ≤ b) (hhi : b < hi) (hr : r'.holds (σ.put b en)) (ho : r'.owner = some b) : Has (σ.put b en) (b + 1) hi (r' :: L) := by
 have hle := H.le
 have hne : ∀ (j : Nat) (s : Res), L[j]? = some s → s.owner ≠ some b := fun j s h e => by
  have := (H.lt j s h b e).1; omega
 refine ⟨fun j s h => ?_, fun j s h id' ho2 => ?_, fun i j s t hij h1 h2 id' hs => ?_, hle⟩
 ·cases j with
  | zero => cases h; exact hr
  | succ j => exact Z3n (H.holds j s h) (hne j s h)
 ·cases j with
  | zero => cases h; rw [ho] at ho2; cases ho2; exact ⟨.inl (by omega), show _ < σ.nx by omega⟩
  | succ j =>
   have := H.lt j s h id' ho2
   exact ⟨by omega, this.2⟩
 ·cases i with
  | zero =>
   cases h1;rw [ho] at hs; cases hs;cases j with
   | zero => exact absurd rfl hij
   | succ j => exact hne j t h2
  | succ i =>
   cases j with
   | zero =>
    cases h2;intro e;rw [ho] at e; cases e;exact hne i s h1 hs
   | succ j => exact H.sep i j s t (fun e => hij (by rw [e])) h1 h2 id' hs
theorem Has.pushNil (H : Has σ lo hi L) (e : TypeId) (sz : Nat) (live : Bool) : Has σ lo hi (.sl .nils e sz [] live :: L) := by
 refine ⟨fun j s h => ?_, fun j s h id' ho2 => ?_, fun i j s t hij h1 h2 id' hs => ?_, H.le⟩
 ·cases j with
  | zero => cases h; exact ⟨by simp, .inl ⟨rfl, rfl⟩⟩
  | succ j => exact H.holds j s h
 ·cases j with
  | zero => cases h; cases ho2
  | succ j => exact H.lt j s h id' ho2
 ·cases i with
  | zero => cases h1; cases hs
  | succ i =>
   cases j with
   | zero => cases h2; intro e; cases e
   | succ j => exact H.sep i j s t (fun e => hij (by rw [e])) h1 h2 id' hs
theorem Has.blk (H : Has σ lo hi L) {id : Nat} {t : TypeId} {cells : List PV} (hk : L[k]? = some (.blk id t cells)) : σ.ent id = .blk t cells true := H.holds k _ hk
theorem Has.cur (H : Has σ lo hi L) {id : Nat} {t : TypeId} {cells : List PV} {ver : Nat} (hk : L[k]? = some (.blk id t cells)) (hv : cells.length = ver) : σ.cur id ver = true := by
 simp only [Heap.cur, H.blk hk, hv, beq_self_eq_true]
end
def Seen (ops : Array Oper) (base i id : Nat) (w : Bool) : Prop :=
 (id < base ∧ (w = true → Z5z (Region.before ops) ops i = false) ∧ (w = false → Z47 (Region.before ops) ops i = true)) ∨ ∃ j, id = base + j ∧ (w = false → Z2b (Region.before ops) ops i = false) ∧ ((Region.before ops).getD i 0).testBit j = true ∧ j < ops.size
section
variable {X : Ctx} {n : Nat} {dr : Bool} {fn : FuncId} {ops : Array Oper} {base i : Nat} {l : List Oper} {e : Env} {σ : Heap} {K : Env → Heap → Prop} {Q : Ex → Env → Heap → Prop} {c a b : Code}
variable {d : Nat} {t t1 t2 : TypeId} {p : String} {af : Array Edge} {x y : Operand} {v : PV} {lo hi : Nat} {L : List Res}
theorem Z1g {o : Oper} {ids : List Nat} (h : Zd o.op = .read) (ht : touched X e o.op = ids) (hs : ∀ id ∈ ids, Seen ops base i id false) : ZZ X ops base i o e = true := by
 refine ask0 ?_
 simp only [ZU, h]
 rw [Y9]
 refine ⟨?_, ?_⟩
 ·rw [ht, YI];intro id hid
  rcases hs id hid with ⟨h1, _⟩ | ⟨j, rfl, h1, h2, h3⟩
  ·simp [h1]
  ·simp only [Ye, h1 rfl, h2, Y0D, Y07, Bool.true_and, Ym, decide_eq_true_eq];exact .inr (by omega)
 ·cases ids with
  | nil => rw [ht]; simp
  | cons a l =>
   have : Z47 (Region.before ops) ops i = true := by
    rcases hs a (by simp) with ⟨_, _, h1⟩ | ⟨j, _, h1, _⟩
    ·exact h1 rfl
    ·unfold Z47; simp [h1 rfl]
   simp [this]
def SeenR (X : Ctx) (e : Env) (ops : Array Oper) (base id : Nat) (op : Op) : Prop := id < base ∧ ∃ ids, Z1M X ops e op = ids ∧ id ∈ ids
def SeenW (X : Ctx) (e : Env) (ops : Array Oper) (base i id : Nat) : Prop :=
 (id < base ∧ Z1c X e (Region.before ops) ops i id = false) ∨ ∃ j, id = base + j ∧ ((Region.before ops).getD i 0).testBit j = true ∧ j < ops.size
theorem Z2Z {k : Nat} (h : Z5z (Region.before ops) ops i = false) : Z1c X e (Region.before ops) ops i k = false := by
 unfold Z5z at h
 unfold Z1c
 rw [List.any_eq_false] at h ⊢
 intro j hj
 have := h j hj
 cases ho : ops[j]? with
 | none => simp
 | some o =>
  rw [ho] at this;simp only [Y9, not_and, Y02] at this ⊢;intro hu hr;rw [this hu] at hr;cases hr
inductive Elsewhere (X : Ctx) (e : Env) (ops : Array Oper) (id : Nat) : List Nat → Prop
 | nil : Elsewhere X e ops id []
 | cons {j : Nat} {o : Oper} {ids js : List Nat} (h1 : ops[j]? = some o) (h2 : Z1M X ops e o.op = ids) (h3 : ∀ x ∈ ids, id ≠ x) (t : Elsewhere X e ops id js) : Elsewhere X e ops id (j :: js)
theorem Has.ne {j k : Nat} {r s : Res} {a b : Nat} (H : Has σ lo hi L) (hj : L[j]? = some r) (hk : L[k]? = some s) (hjk : Nat.beq j k = false) (ha : r.owner = some a) (hb : s.owner = some b) : a ≠ b := fun h =>
 H.sep j k r s (fun e => by subst e; simp at hjk) hj hk a ha (h ▸ hb)
theorem ask_seenW {o : Oper} {id : Nat} (h : Zd o.op = .write) (ht : touched X e o.op = [id]) (hs : SeenW X e ops base i id) : ZZ X ops base i o e = true := by
 refine ask0 ?_
 simp only [ZU, h, ht, Yi, List.all_nil, Bool.and_true]
 rcases hs with ⟨h1, h0⟩ | ⟨j, rfl, h2, h3⟩
 ·simp [h1, h0]
 ·simp only [Ye, h2, Ym, Y9, decide_eq_true_eq];exact .inr ⟨⟨by omega, trivial⟩, by omega⟩
theorem Z52 {o : Oper} {ids : List Nat} (h : Zd o.op = .write) (ht : touched X e o.op = ids) (hs : ∀ id ∈ ids, Seen ops base i id true) : ZZ X ops base i o e = true := by
 refine ask0 ?_
 simp only [ZU, h, ht, YI]
 intro id hid
 rcases hs id hid with ⟨h1, h0⟩ | ⟨j, rfl, h1, h2, h3⟩
 ·simp [h1, Z2Z (h0.1 rfl)]
 ·simp only [Ye, h2, Ym, Y9, decide_eq_true_eq];exact .inr ⟨⟨by omega, trivial⟩, by omega⟩
theorem Ops.boxH {cs : List PV} (H : Has σ lo hi L) (hlo : lo ≤ base + i) (hhi : base + i < hi) (hx : Z0 X e x = some v) (hc : v.cells = some cs) (hd : Nat.blt d n = true)
  (hk : ∀ σ', Has σ' (base + i + 1) hi (.blk (base + i) t1 cs :: L) → Ops X n dr ops base (i + 1) l (set e d (.ptr (base + i) cs.length 0)) σ' K) :
  Ops X n dr ops base i (⟨some d, .box t1 x, t, p, af, none⟩ :: l) e σ K :=
 .plain (x := .ptr (base + i) cs.length 0) (σ1 := σ.put (base + i) (.blk t1 cs true)) (by simp only [Z4, hx, Y0, hc, Y8, newD]) (fun _ => Z0E rfl) hd
  (hk _ (H.push hlo hhi (r' := .blk (base + i) t1 cs) Z0q rfl))
theorem Ops.Z0O {cs : List PV} (H : Has σ lo hi L) (hlo : lo ≤ base + i) (hhi : base + i < hi) (hz : tzero X.P t1 = some cs) (hd : Nat.blt d n = true)
  (hk : ∀ σ', Has σ' (base + i + 1) hi (.blk (base + i) t1 cs :: L) → Ops X n dr ops base (i + 1) l (set e d (.ptr (base + i) cs.length 0)) σ' K) :
  Ops X n dr ops base i (⟨some d, .alloc t1, t, p, af, none⟩ :: l) e σ K :=
 .plain (x := .ptr (base + i) cs.length 0) (σ1 := σ.put (base + i) (.blk t1 cs true)) (by simp only [Z4, hz, Y8, newD]) (fun _ => Z0E rfl) hd
  (hk _ (H.push hlo hhi (r' := .blk (base + i) t1 cs) Z0q rfl))
theorem Ops.ZN {id ver off f fo : Nat} {ft : TypeId} {m : Nat} {te : TypeId} {cells : List PV} (H : Has σ lo hi L) (k : Nat) (hk : L[k]? = some (.blk id te cells)) (hv : cells.length = ver) (hx : Z0 X e x = some (.ptr id ver off))
  (hf : tfield X.P t1 f = some (fo, ft)) (hs : tsize X.P ft = some (m + 1)) (ha : dr = true → Seen ops base i id false) (hd : Nat.blt d n = true)
  (hk' : Ops X n dr ops base (i + 1) l (set e d (.ptr id ver (off + fo))) σ K) : Ops X n dr ops base i (⟨some d, .fieldAddr t1 x f, t, p, af, none⟩ :: l) e σ K := by
 refine .plain (x := .ptr id ver (off + fo)) (σ1 := σ) ?_ (fun h => Z1g (ids := [id]) rfl ?_ (fun j hj => by simp at hj; subst hj; exact ha h)) hd hk'
 ·simp only [Z4, hx, Y0, Z0M, hf, hs, H.cur hk hv, if_true, Y8]
 ·simp only [touched, ZP, YE, YK, hx, vids, YL]
theorem Ops.loadH {id ver off : Nat} {te : TypeId} {cells : List PV} (H : Has σ lo hi L) (k : Nat) (hk : L[k]? = some (.blk id te cells)) (hv : cells.length = ver) (hx : Z0 X e x = some (.ptr id ver off))
  (hg : tagg X.P t1 = some false) (hc : cells[off]? = some v) (ha : dr = true → Seen ops base i id false) (hd : Nat.blt d n = true)
  (hk' : Ops X n dr ops base (i + 1) l (set e d v) σ K) : Ops X n dr ops base i (⟨some d, .load t1 x, t, p, af, none⟩ :: l) e σ K := by
 refine .plain (x := v) (σ1 := σ) ?_ (fun h => Z1g (ids := [id]) rfl ?_ (fun j hj => by simp at hj; subst hj; exact ha h)) hd hk'
 ·simp only [Z4, hx, Y0, Z20, H.blk hk, hv, if_true, hg, hc, Y8]
 ·simp only [touched, ZP, YE, YK, hx, vids, YL]
theorem Ops.Z0v {id ver off m : Nat} {te : TypeId} {cells cs : List PV} (H : Has σ lo hi L) (k : Nat) (hk : L[k]? = some (.blk id te cells)) (hv : cells.length = ver) (hx : Z0 X e x = some (.ptr id ver off))
  (hg : tagg X.P t1 = some true) (hm : tsize X.P t1 = some m) (hl : Nat.ble (off + m) cells.length = true) (hc : (cells.drop off).take m = cs) (ha : dr = true → Seen ops base i id false) (hd : Nat.blt d n = true)
  (hk' : Ops X n dr ops base (i + 1) l (set e d (.agg cs)) σ K) : Ops X n dr ops base i (⟨some d, .load t1 x, t, p, af, none⟩ :: l) e σ K := by
 refine .plain (x := .agg cs) (σ1 := σ) ?_ (fun h => Z1g (ids := [id]) rfl ?_ (fun j hj => by simp at hj; subst hj; exact ha h)) hd hk'
 ·have hl : off + m ≤ cells.length := Yl hl
  have h2 : off + m ≤ ver := hv ▸ hl
  simp only [Z4, hx, Y0, Z20, H.blk hk, hv, if_true, hg, hm, h2, hc, Y8]
 ·simp only [touched, ZP, YE, YK, hx, vids, YL]
theorem Ops.Z5F {id ver off m : Nat} {te : TypeId} {cells ys cells' : List PV} (H : Has σ lo hi L) (k : Nat) (hk : L[k]? = some (.blk id te cells)) (hv : cells.length = ver) (hx : Z0 X e x = some (.ptr id ver off))
  (hy : Z0 X e y = some v) (hc : v.cells = some ys) (hm : tsize X.P t1 = some m) (hl : ys.length = m) (hle : Nat.ble (off + m) cells.length = true) (hc' : splice cells off ys = cells')
  (ha : dr = true → SeenW X e ops base i id)
  (hk' : ∀ σ', Has σ' lo hi (L.set k (.blk id te cells')) → Ops X n dr ops base (i + 1) l e σ' K) : Ops X n dr ops base i (⟨none, .store t1 x y, t, p, af, none⟩ :: l) e σ K := by
 refine .plain0 (x := .undef) (σ1 := σ.put id (.blk te cells' true)) ?_ (fun h => ask_seenW (id := id) rfl ?_ (ha h)) (hk' _ (H.put hk rfl (r' := .blk id te cells') Z0q rfl))
 ·have hle : off + m ≤ cells.length := Yl hle
  simp only [Z4, hx, hy, Z2s, H.blk hk, hv, if_true, hm, hc, hl, hc'];rw [if_pos ⟨trivial, hv ▸ hle⟩]
  rfl
 ·simp only [touched, ZP, YE, YK, hx, vids, YL]
theorem Ops.Z0d {f fo : Nat} {ft : TypeId} {m : Nat} {cells : List FV} (hx : Z0 X e x = some (.fptr cells)) (hf : tfield X.P t1 f = some (fo, ft)) (hs : tsize X.P ft = some (m + 1)) (hd : Nat.blt d n = true)
  (hk' : Ops X n dr ops base (i + 1) l (set e d (.fptr (cells.drop fo))) σ K) : Ops X n dr ops base i (⟨some d, .fieldAddr t1 x f, t, p, af, none⟩ :: l) e σ K := by
 refine .plain (x := .fptr (cells.drop fo)) (σ1 := σ) ?_ (fun h => Z21 rfl ?_) hd hk'
 ·simp only [Z4, hx, Y0, Z0M, hf, hs, Y8]
 ·simp only [touched, ZP, YE, YK, hx, vids, YL]
theorem Ops.loadP {u : FV} {cells : List FV} (hx : Z0 X e x = some (.fptr cells)) (hg : tagg X.P t1 = some false) (hc : cells[0]? = some u) (hd : Nat.blt d n = true)
  (hk' : Ops X n dr ops base (i + 1) l (set e d (.v u)) σ K) : Ops X n dr ops base i (⟨some d, .load t1 x, t, p, af, none⟩ :: l) e σ K := by
 refine .plain (x := .v u) (σ1 := σ) ?_ (fun h => Z21 rfl ?_) hd hk'
 ·simp only [Z4, hx, Y0, Z20, hg, hc, Y8]
 ·simp only [touched, ZP, YE, YK, hx, vids, YL]
theorem Ops.loadPA {m : Nat} {cells cs : List FV} (hx : Z0 X e x = some (.fptr cells)) (hg : tagg X.P t1 = some true) (hm : tsize X.P t1 = some m) (hl : Nat.ble m cells.length = true) (hc : cells.take m = cs) (hd : Nat.blt d n = true)
  (hk' : Ops X n dr ops base (i + 1) l (set e d (.agg (vs cs))) σ K) : Ops X n dr ops base i (⟨some d, .load t1 x, t, p, af, none⟩ :: l) e σ K := by
 refine .plain (x := .agg (vs cs)) (σ1 := σ) ?_ (fun h => Z21 rfl ?_) hd hk'
 ·have hl : m ≤ cells.length := Yl hl
  simp only [Z4, hx, Y0, Z20, hg, hm, hl, if_true, hc, Y8]
 ·simp only [touched, ZP, YE, YK, hx, vids, YL]
def at? {α : Type} (l : List α) (i : Int) : Option α := if 0 ≤ i then l[i.toNat]? else none
theorem at?_some {α : Type} {l : List α} {i : Int} {a : α} (h : at? l i = some a) : 0 ≤ i ∧ l[i.toNat]? = some a := by
 unfold at? at h
 split at h
 ·exact ⟨by assumption, h⟩
 ·cases h
theorem Ops.indexP {α : Type} {c : α → List FV} {xs : List α} {iv : Int} {ik : IntKind} {u : α} {el : TypeId} {m : Nat} (hx : Z0 X e x = some (.v (.sl (xs.map c)))) (hy : Z0 X e y = some (.v (.int ik iv))) (hu : at? xs iv = some u)
  (ht : tslice X.P t1 = some el) (hs : tsize X.P el = some m) (hm : (c u).length = m) (hd : Nat.blt d n = true)
  (hk' : Ops X n dr ops base (i + 1) l (set e d (.fptr (c u))) σ K) : Ops X n dr ops base i (⟨some d, .indexAddr t1 x y, t, p, af, none⟩ :: l) e σ K := by
 obtain ⟨h0, hu⟩ := at?_some hu
 have hu' : (xs.map c)[iv.toNat]? = some (c u) := by rw [YF, hu]; rfl
 refine .plain (x := .fptr (c u)) (σ1 := σ) ?_ (fun h => Z21 rfl ?_) hd hk'
 ·simp only [Z4, hx, hy, Z0I, Z2w, if_pos h0, ht, Y0, hs, hu', hm, if_true, Y8]
 ·simp only [touched, ZP, YE, YK, hx, vids, YL]
theorem Ops.lenP {xs : List (List FV)} {af2 : Array TypeId} {el : TypeId} (hx : Z0 X e x = some (.v (.sl xs))) (ht : tslice X.P t1 = some el) (hd : Nat.blt d n = true)
  (hk' : Ops X n dr ops base (i + 1) l (set e d (.v (.int .i64 xs.length))) σ K) : Ops X n dr ops base i (⟨some d, .call { callee := .builtin .len, args := #[x], argTypes := #[t1] }, t, p, af, none⟩ :: l) e σ K := by
 refine .plain (x := .v (.int .i64 xs.length)) (σ1 := σ) ?_ (fun h => Z21 rfl ?_) hd hk'
 ·simp only [Z4, Za, ZK, hx, Y0, Zx, lenD, ht, Y8]
 ·simp only [touched, ZP, YE, YK, hx, vids, YL]
end
end Go.Dn

namespace Go.Dn
open Go
section
variable {σ : Heap} {lo hi : Nat} {L : List Res} {k : Nat} {r : Res}
theorem Has.sl (H : Has σ lo hi L) {v : PV} {e : TypeId} {sz : Nat} {xs : List (List FV)} {live : Bool} (hk : L[k]? = some (.sl v e sz xs live)) :
  (∀ y ∈ xs, y.length = sz) ∧ ((v = .nils ∧ xs = []) ∨ ∃ id, v = .buf id xs.length sz ∧ σ.ent id = .blk e (vs xs.flatten) live) := H.holds k _ hk
theorem Has.renew (H : Has σ lo hi L) {b : Nat} {en : Ent} {r' : Res} (hk : L[k]? = some r) (hlo : lo ≤ b) (hhi : b < hi) (hr : r'.holds (σ.put b en)) (ho : r'.owner = some b) : Has (σ.put b en) (b + 1) hi (L.set k r') := by
 have hle := H.le
 have hne : ∀ (j : Nat) (s : Res), L[j]? = some s → s.owner ≠ some b := fun j s h e => by
  have := (H.lt j s h b e).1; omega
 have key : ∀ (j : Nat) (s : Res), (L.set k r')[j]? = some s → (j = k ∧ s = r') ∨ (j ≠ k ∧ L[j]? = some s) := by
  intro j s h;rw [Y0M] at h
  by_cases hj : k = j
  ·subst hj;rw [if_pos rfl] at h
   split at h
   ·cases h; exact .inl ⟨rfl, rfl⟩
   ·cases h
  ·rw [if_neg hj] at h;exact .inr ⟨fun e => hj e.symm, h⟩
 refine ⟨fun j s h => ?_, fun j s h id' ho2 => ?_, fun i j s t hij h1 h2 id' hs => ?_, hle⟩
 ·rcases key j s h with ⟨_, rfl⟩ | ⟨hj, h⟩
  ·exact hr
  ·exact Z3n (H.holds j s h) (hne j s h)
 ·rcases key j s h with ⟨_, rfl⟩ | ⟨hj, h⟩
  ·rw [ho] at ho2; cases ho2; exact ⟨.inl (by omega), show _ < σ.nx by omega⟩
  ·have := H.lt j s h id' ho2; exact ⟨by omega, this.2⟩
 ·rcases key i s h1 with ⟨hi', rfl⟩ | ⟨hi', h1'⟩
  ·rw [ho] at hs; cases hs
   rcases key j t h2 with ⟨hj, rfl⟩ | ⟨hj, h2'⟩
   ·omega
   ·exact hne j t h2'
  ·rcases key j t h2 with ⟨hj, rfl⟩ | ⟨hj, h2'⟩
   ·intro e;rw [ho] at e; cases e;exact hne i s h1' hs
   ·exact H.sep i j s t hij h1' h2' id' hs
theorem Has.say (H : Has σ lo hi L) {r' : Res} (hk : L[k]? = some r) (hr : r'.holds σ) (ho : r'.owner = r.owner) : Has σ lo hi (L.set k r') := by
 have key : ∀ (j : Nat) (s : Res), (L.set k r')[j]? = some s → (j = k ∧ s = r') ∨ (j ≠ k ∧ L[j]? = some s) := by
  intro j s h;rw [Y0M] at h
  by_cases hj : k = j
  ·subst hj;rw [if_pos rfl] at h
   split at h
   ·cases h; exact .inl ⟨rfl, rfl⟩
   ·cases h
  ·rw [if_neg hj] at h;exact .inr ⟨fun e => hj e.symm, h⟩
 refine ⟨fun j s h => ?_, fun j s h id' ho2 => ?_, fun i j s t hij h1 h2 id' hs => ?_, H.le⟩
 ·rcases key j s h with ⟨_, rfl⟩ | ⟨hj, h⟩
  ·exact hr
  ·exact H.holds j s h
 ·rcases key j s h with ⟨_, rfl⟩ | ⟨hj, h⟩
  ·rw [ho] at ho2; exact H.lt k r hk id' ho2
  ·exact H.lt j s h id' ho2
 ·rcases key i s h1 with ⟨hi', rfl⟩ | ⟨hi', h1'⟩
  ·rw [ho] at hs
   rcases key j t h2 with ⟨hj, rfl⟩ | ⟨hj, h2'⟩
   ·omega
   ·exact H.sep k j r t (fun e => hj e.symm) hk h2' id' hs
  ·rcases key j t h2 with ⟨hj, rfl⟩ | ⟨hj, h2'⟩
   ·rw [ho]; exact H.sep i k s r hi' h1' hk id' hs
   ·exact H.sep i j s t hij h1' h2' id' hs
theorem Has.same {σ' : Heap} (H : Has σ lo hi L) (he : ∀ id, id < σ.nx → σ'.ent id = σ.ent id) (hn : σ.nx ≤ σ'.nx) : Has σ' lo hi L := by
 refine ⟨fun j s h => ?_, fun j s h id ho => ⟨(H.lt j s h id ho).1, YM (H.lt j s h id ho).2 hn⟩, H.sep, YZ H.le hn⟩
 have h1 := H.holds j s h
 have h2 := H.lt j s h
 cases s with
 | blk id t cells => exact (he id (h2 id rfl).2).trans h1
 | sl v e sz xs live =>
  refine ⟨h1.1, h1.2.imp (fun h => h) fun ⟨id, hv, hb⟩ => ⟨id, hv, ?_⟩⟩
  exact (he id (h2 id (by rw [hv]; rfl)).2).trans hb
 | floor m => exact YZ h1 hn
 | hole id => trivial
 | loop id fn e n ps as_ bo st pd => exact (he id (h2 id rfl).2).trans h1
 | mp id kv => exact (he id (h2 id rfl).2).trans h1
 | fix id en => exact (he id (h2 id rfl).2).trans h1
theorem Has.floor (H : Has σ lo hi L) (m : Nat) (hm : m ≤ σ.nx) : Has σ lo hi (.floor m :: L) := by
 refine ⟨fun j s h => ?_, fun j s h id' ho2 => ?_, fun i j s t hij h1 h2 id' hs => ?_, H.le⟩
 ·cases j with
  | zero => cases h; exact hm
  | succ j => exact H.holds j s h
 ·cases j with
  | zero => cases h; cases ho2
  | succ j => exact H.lt j s h id' ho2
 ·cases i with
  | zero => cases h1; cases hs
  | succ i =>
   cases j with
   | zero => cases h2; intro e; cases e
   | succ j => exact H.sep i j s t (fun e => hij (by rw [e])) h1 h2 id' hs
end
def pick (L : List Res) (ks : List Nat) : List Res := ks.filterMap (L[·]?)
theorem Has.pick {σ : Heap} {lo hi : Nat} {L : List Res} (H : Has σ lo hi L) : ∀ (ks : List Nat), ks.Nodup → Has σ lo hi (Dn.pick L ks)
 | [], _ => Has.nil H.le
 | k :: ks, hn => by
  have hn := List.nodup_cons.1 hn
  have ih := Has.pick H ks hn.2
  cases hr : L[k]? with
  | none => simpa [Dn.pick, hr] using ih
  | some r =>
   have e : Dn.pick L (k :: ks) = r :: Dn.pick L ks := by simp [Dn.pick, hr]
   rw [e];have mem : ∀ (j : Nat) (s : Res), (Dn.pick L ks)[j]? = some s → ∃ k', k' ∈ ks ∧ L[k']? = some s := fun j s h => by
    have := Y7 h
    unfold Dn.pick at this;exact List.mem_filterMap.1 this
   refine ⟨fun j s h => ?_, fun j s h => ?_, fun i j s t hij h1 h2 => ?_, H.le⟩
   ·cases j with
    | zero => cases h; exact H.holds k r hr
    | succ j => exact ih.holds j s h
   ·cases j with
    | zero => cases h; exact H.lt k r hr
    | succ j => exact ih.lt j s h
   ·cases i with
    | zero =>
     cases h1;cases j with
     | zero => exact absurd rfl hij
     | succ j =>
      obtain ⟨k', hk', h2'⟩ := mem j t h2
      exact H.sep k k' r t (fun e => hn.1 (e ▸ hk')) hr h2'
    | succ i =>
     cases j with
     | zero =>
      cases h2;obtain ⟨k', hk', h1'⟩ := mem i s h1
      exact H.sep k' k s r (fun e => hn.1 (e ▸ hk')) h1' hr
     | succ j => exact ih.sep i j s t (fun e => hij (by rw [e])) h1 h2
theorem Z4X (xs ys : List FV) : vs (xs ++ ys) = vs xs ++ vs ys := Y0F ..
theorem Z05 (xs : List FV) : (vs xs).length = xs.length := Yh ..
theorem vs_get (xs : List FV) (j : Nat) : (vs xs)[j]? = (xs[j]?).map .v := YF ..
theorem vs_take (xs : List FV) (j : Nat) : (vs xs).take j = vs (xs.take j) := (List.map_take ..).symm
theorem vs_drop (xs : List FV) (j : Nat) : (vs xs).drop j = vs (xs.drop j) := (List.map_drop ..).symm
theorem Zy {sz : Nat} : ∀ {xs : List (List FV)}, (∀ y ∈ xs, y.length = sz) → xs.flatten.length = xs.length * sz
 | [], _ => by simp
 | x :: xs, h => by
  have := Zy (xs := xs) fun y hy => h y (YJ _ hy)
  simp only [Ya, YX, this, h x YV, YH, Nat.succ_mul];omega
theorem flat_drop {sz : Nat} : ∀ {xs : List (List FV)}, (∀ y ∈ xs, y.length = sz) → ∀ {i : Nat} {y : List FV}, xs[i]? = some y → xs.flatten.drop (i * sz) = y ++ (xs.drop (i + 1)).flatten
 | [], _, i, y, h => by simp at h
 | x :: xs, hs, 0, y, h => by
  simp at h; subst h; simp
 | x :: xs, hs, i + 1, y, h => by
  have hx := hs x YV
  have := flat_drop (xs := xs) (fun y hy => hs y (YJ _ hy)) (i := i) (y := y) (by simpa using h)
  rw [Ya, Nat.succ_mul, Nat.add_comm (i * sz) sz, ← hx, ← List.drop_drop, List.drop_left, hx, this]
  simp
theorem flat_get {sz : Nat} {xs : List (List FV)} (hs : ∀ y ∈ xs, y.length = sz) {i j : Nat} {y : List FV} (h : xs[i]? = some y) (hj : j < sz) : xs.flatten[i * sz + j]? = y[j]? := by
 rw [← Yf, flat_drop hs h, YO (by rw [hs y (Y7 h)]; exact hj)]
theorem flat_le {sz : Nat} {xs : List (List FV)} (hs : ∀ y ∈ xs, y.length = sz) {i : Nat} {y : List FV} (h : xs[i]? = some y) : i * sz + sz ≤ xs.flatten.length := by
 have hi : i < xs.length := by
  rcases YD i xs.length with h1 | h1
  ·exact h1
  ·rw [YU h1] at h; cases h
 rw [Zy hs, ← Nat.succ_mul]
 exact YR _ hi
theorem flat_splice {sz : Nat} : ∀ {xs : List (List FV)}, (∀ y ∈ xs, y.length = sz) → ∀ {i : Nat} {y : List FV}, xs[i]? = some y → ∀ {off : Nat} {zs : List FV}, off + zs.length ≤ sz →
  splice (vs xs.flatten) (i * sz + off) (vs zs) = vs (xs.set i (y.take off ++ zs ++ y.drop (off + zs.length))).flatten := by
 intro xs hs i y h off zs hle
 have hy := hs y (Y7 h)
 have hi : i < xs.length := by
  rcases YD i xs.length with h1 | h1
  ·exact h1
  ·rw [YU h1] at h; cases h
 have e1 : xs.flatten = (xs.take i).flatten ++ (y ++ (xs.drop (i + 1)).flatten) := by
  conv => lhs; rw [← Y0H i xs]
  rw [Y0U, List.drop_eq_getElem_cons hi, Ya];rw [Y2 hi] at h;cases h; rfl
 have e2 : xs.set i (y.take off ++ zs ++ y.drop (off + zs.length)) = xs.take i ++ (y.take off ++ zs ++ y.drop (off + zs.length)) :: xs.drop (i + 1) := by
  rw [List.set_eq_take_append_cons_drop, if_pos hi]
 have hl : (xs.take i).flatten.length = i * sz := by
  rw [Zy (sz := sz) fun y hy => hs y (Yb hy), YG, Nat.min_eq_left (by omega)]
 rw [e2]
 unfold splice
 rw [vs_take, vs_drop, ← Z4X, ← Z4X, Z05]
 congr 1
 rw [e1, Y0U, Ya]
 have t1 : List.take (i * sz + off) ((xs.take i).flatten ++ (y ++ (xs.drop (i + 1)).flatten)) = (xs.take i).flatten ++ y.take off := by
  rw [List.take_append, hl, List.take_of_length_le (by omega), List.take_append_of_le_length (by omega)]
  congr 2; omega
 have t2 : List.drop (i * sz + off + zs.length) ((xs.take i).flatten ++ (y ++ (xs.drop (i + 1)).flatten)) = y.drop (off + zs.length) ++ (xs.drop (i + 1)).flatten := by
  rw [List.drop_append, hl, List.drop_eq_nil_of_le (by omega), List.nil_append, List.drop_append_of_le_length (by omega)]
  congr 2; omega
 rw [t1, t2]
 simp only [Yz]
theorem at?_map {α β : Type} {f : α → β} {l : List α} {i : Int} {a : α} (h : at? l i = some a) : at? (l.map f) i = some (f a) := by
 obtain ⟨h0, h1⟩ := at?_some h
 rw [at?, if_pos h0, YF, h1]; rfl
def set? {α : Type} (l : List α) (i : Int) (a : α) : Option (List α) := if 0 ≤ i ∧ i.toNat < l.length then some (l.set i.toNat a) else none
def app? {α : Type} (by_ : Nat) (l m : List α) : Option (List α) := if (l.length + m.length) * by_ ≤ room then some (l ++ m) else none
def new? {α : Type} (by_ : Nat) (n : Int) (z : α) : Option (List α) := if 0 ≤ n ∧ n.toNat * by_ ≤ room then some (List.replicate n.toNat z) else none
def cut? {α : Type} (l : List α) (i j : Int) : Option (List α) := if 0 ≤ i ∧ i ≤ j ∧ j ≤ l.length then some ((l.take j.toNat).drop i.toNat) else none
section
variable {X : Ctx} {n : Nat} {dr : Bool} {fn : FuncId} {ops : Array Oper} {base i : Nat} {l : List Oper} {e : Env} {σ : Heap} {K : Env → Heap → Prop} {Q : Ex → Env → Heap → Prop} {c a b : Code}
variable {d : Nat} {t t1 t2 : TypeId} {p : String} {af : Array Edge} {x y z : Operand} {v : PV} {lo hi : Nat} {L : List Res}
theorem noBuf {x : PV} (h : Z42 x = false) : Z3p x = [] := by
 cases x with
 | agg cs =>
  simp only [Z42, Z3p, List.any_eq_false] at h ⊢;rw [List.flatMap_eq_nil_iff];intro x hx;have := h x hx
  cases x <;> first | rfl | (simp [isRef] at this)
 | _ => first | rfl | cases h
theorem ask_build {parts : Array (Nat × Operand)} {len : Nat} {pp : List (Nat × PV)} (hp : Z1x X e parts.toList = some pp) (h : (pp.all fun p => !Z42 p.2) = true) : ZZ X ops base i ⟨some d, .buildSlice t1 len parts, t, p, af, none⟩ e = true := by
 refine ask0 ?_
 have : frozen X e (.buildSlice t1 len parts) = [] := by
  simp only [frozen, hp];rw [List.flatMap_eq_nil_iff];intro q hq;have := List.all_eq_true.1 h q hq
  simp only [YT] at this;exact noBuf this
 simp only [ZU, Zd, this]
 rfl
theorem frz_none : ∀ {ps : List (Nat × PV)} {σ : Heap}, (ps.all fun p => !Z42 p.2) = true → Z01 σ ps = some (ps, σ)
 | [], σ, _ => rfl
 | p :: ps, σ, h => by
  simp only [Yi, Y9, YT] at h;simp only [Z01, h.1, YA, if_false, frz_none h.2, Y0]
theorem Ops.Z2R {parts : Array (Nat × Operand)} {len sz : Nat} {el : TypeId} {zs : List PV} {pp : List (Nat × PV)} (xs : List (List FV)) (H : Has σ lo hi L) (hlo : lo ≤ base + i) (hhi : base + i < hi)
  (ht : tslice X.P t1 = some el) (hp : Z1x X e parts.toList = some pp) (hs : tsize X.P el = some sz) (hz : tzero X.P el = some zs) (hc : (zs.length == sz && sz != 0 && Nat.ble (len * sz) 1000000) = true)
  (hf : Z41 (fun i => some (i * sz, sz)) (List.replicate len zs).flatten pp = some (vs xs.flatten)) (hl : xs.length = len) (hx : xs.all (fun y => y.length == sz) = true) (hd : Nat.blt d n = true)
  (hk : ∀ σ', Has σ' (base + i + 1) hi (.sl (.buf (base + i) len sz) el sz xs true :: L) → Ops X n dr ops base (i + 1) l (set e d (.buf (base + i) len sz)) σ' K) (hfr : (pp.all fun p => !Z42 p.2) = true := by rfl) (hlit : (X.lit && len != 0) = false := by first | rfl | exact Bool.and_false _) :
  Ops X n dr ops base i (⟨some d, .buildSlice t1 len parts, t, p, af, none⟩ :: l) e σ K := by
 simp only [Y9, beq_iff_eq, bne_iff_ne, ne_eq, Nat.ble_eq] at hc
 refine .plain (x := .buf (base + i) len sz) (σ1 := σ.put (base + i) (.blk el (vs xs.flatten) true)) ?_ (fun _ => ask_build hp hfr) hd (hk _ (H.push hlo hhi (r' := .sl (.buf (base + i) len sz) el sz xs true) ?_ rfl))
 ·simp only [Z4, Z0R, hp, Y0, frz_none hfr, Z11, ht, hs, hz];rw [if_pos ⟨hc.1.1, hc.1.2, hc.2⟩, hf]; simp only [litR, hlit]; rfl
 ·exact ⟨fun y hy => by have := List.all_eq_true.1 hx y hy; simpa using this, .inr ⟨base + i, by rw [hl], Z0q⟩⟩
theorem Ops.makeS {el : TypeId} {sz by_ : Nat} {m : Int} {zs : List FV} {α : Type} {cc : α → List FV} {za : α} {r : List α} (H : Has σ lo hi L) (hlo : lo ≤ base + i) (hhi : base + i < hi)
  (hx : Z0 X e x = some (.v (.int .i64 m))) (hy : Z0 X e y = some (.v (.int .i64 m))) (hr : new? by_ m za = some r)
  (ht : tslice X.P t1 = some el) (hs : tsize X.P el = some sz) (hb : tbytes X.P el = some by_) (hz : tzero X.P el = some (vs zs)) (hza : cc za = zs) (hc : (zs.length == sz && sz != 0 && by_ != 0) = true) (hd : Nat.blt d n = true)
  (hk : ∀ σ', Has σ' (base + i + 1) hi (.sl (.buf (base + i) m.toNat sz) el sz (r.map cc) true :: L) → Ops X n dr ops base (i + 1) l (set e d (.buf (base + i) m.toNat sz)) σ' K) :
  Ops X n dr ops base i (⟨some d, .makeSlice t1 x y, t, p, af, none⟩ :: l) e σ K := by
 simp only [Y9, beq_iff_eq, bne_iff_ne, ne_eq] at hc
 unfold new? at hr
 split at hr
 ·rename_i hm;cases hr;have e1 : (List.map cc (List.replicate m.toNat za)) = List.replicate m.toNat zs := by rw [List.map_replicate, hza]
  have e2 : (List.replicate m.toNat (vs zs)).flatten = vs (List.replicate m.toNat zs).flatten := by
   unfold vs;rw [List.map_flatten, List.map_replicate]
  refine .plain (x := .buf (base + i) m.toNat sz) (σ1 := σ.put (base + i) (.blk el (vs (List.replicate m.toNat zs).flatten) true)) ?_ (fun _ => Z0E rfl) hd (hk _ (H.push hlo hhi (r' := .sl (.buf (base + i) m.toNat sz) el sz _ true) ?_ rfl))
  ·simp only [Z4, hx, hy, makeD, ht, hs, hb, hz, Z05];rw [if_pos ⟨trivial, hm.1, hm.2, hc.1.1, hc.1.2, hc.2⟩, e2]
  ·rw [e1];exact ⟨fun y hy => by rw [List.eq_of_mem_replicate hy]; exact hc.1.1, .inr ⟨base + i, by simp, Z0q⟩⟩
 ·cases hr
theorem Ops.lenS {el et : TypeId} {sz : Nat} {xs : List (List FV)} {lv : Bool} (H : Has σ lo hi L) (k : Nat) (hk : L[k]? = some (.sl v et sz xs lv)) (hx : Z0 X e x = some v) (ht : tslice X.P t1 = some el)
  (ha : dr = true → ∀ id, v.owner = some id → Seen ops base i id false) (hd : Nat.blt d n = true)
  (hk' : Ops X n dr ops base (i + 1) l (set e d (.v (.int .i64 xs.length))) σ K) : Ops X n dr ops base i (⟨some d, .call { callee := .builtin .len, args := #[x], argTypes := #[t1] }, t, p, af, none⟩ :: l) e σ K := by
 obtain ⟨hs, hv⟩ := H.sl hk
 refine .plain (x := .v (.int .i64 xs.length)) (σ1 := σ) ?_ (fun h => Z1g rfl rfl ?_) hd hk'
 ·simp only [Z4, Za, ZK, hx, Y0, Zx, lenD, ht]
  rcases hv with ⟨rfl, rfl⟩ | ⟨id, rfl, hb⟩
  ·rfl
  ·have : σ.cur id (xs.length * sz) = true := by simp only [Heap.cur, hb, Z05, Zy hs, beq_self_eq_true]
   simp only [this, if_true, Y8]
 ·intro id hid;simp only [touched, ZP, YE, YK, hx, YL] at hid
  rcases hv with ⟨rfl, rfl⟩ | ⟨id', rfl, hb⟩
  ·simp [vids] at hid
  ·simp [vids] at hid; subst hid; exact ha h _ rfl
theorem Ops.Z6J {el et : TypeId} {sz : Nat} {xs : List (List FV)} {u : List FV} {iv : Int} {ik : IntKind} {lv : Bool} (H : Has σ lo hi L) (k : Nat) (hk : L[k]? = some (.sl v et sz xs lv)) (hx : Z0 X e x = some v)
  (hy : Z0 X e y = some (.v (.int ik iv))) (hu : at? xs iv = some u) (ht : tslice X.P t1 = some el) (hs : tsize X.P el = some sz)
  (ha : dr = true → ∀ id, v.owner = some id → Seen ops base i id false) (hd : Nat.blt d n = true)
  (hk' : ∀ id, v = .buf id xs.length sz → Ops X n dr ops base (i + 1) l (set e d (.ptr id (xs.length * sz) (iv.toNat * sz))) σ K) : Ops X n dr ops base i (⟨some d, .indexAddr t1 x y, t, p, af, none⟩ :: l) e σ K := by
 obtain ⟨hsz, hv⟩ := H.sl hk
 obtain ⟨h0, hu⟩ := at?_some hu
 have hlt : iv.toNat < xs.length := by
  rcases YD iv.toNat xs.length with h1 | h1
  ·exact h1
  ·rw [YU h1] at hu; cases hu
 rcases hv with ⟨rfl, rfl⟩ | ⟨id, rfl, hb⟩
 ·simp at hu
 ·have hcur : σ.cur id (xs.length * sz) = true := by simp only [Heap.cur, hb, Z05, Zy hsz, beq_self_eq_true]
  refine .plain (x := .ptr id (xs.length * sz) (iv.toNat * sz)) (σ1 := σ) ?_ (fun h => Z1g rfl rfl ?_) hd (hk' id rfl)
  ·simp only [Z4, hx, hy, Z0I, Z2w, if_pos h0, ht, hcur, hs, Bool.true_and, beq_self_eq_true, decide_eq_true hlt, if_true, Y8]
  ·intro id' hid;simp only [touched, ZP, YE, YK, hx, YL] at hid;simp [vids] at hid; subst hid; exact ha h _ rfl
theorem Ops.Z3m {id : Nat} {et ft : TypeId} {sz f fo m off ver : Nat} {xs : List (List FV)} {lv : Bool} (H : Has σ lo hi L) (k : Nat) (hk : L[k]? = some (.sl v et sz xs lv)) (hv : v = .buf id xs.length sz) (hver : ver = xs.length * sz)
  (hx : Z0 X e x = some (.ptr id ver off)) (hf : tfield X.P t1 f = some (fo, ft)) (hs : tsize X.P ft = some (m + 1)) (ha : dr = true → Seen ops base i id false) (hd : Nat.blt d n = true)
  (hk' : Ops X n dr ops base (i + 1) l (set e d (.ptr id ver (off + fo))) σ K) : Ops X n dr ops base i (⟨some d, .fieldAddr t1 x f, t, p, af, none⟩ :: l) e σ K := by
 subst hver
 obtain ⟨hsz, hv'⟩ := H.sl hk
 rcases hv' with ⟨rfl, rfl⟩ | ⟨id', rfl, hb⟩
 ·cases hv
 ·cases hv;have hcur : σ.cur id (xs.length * sz) = true := by simp only [Heap.cur, hb, Z05, Zy hsz, beq_self_eq_true]
  refine .plain (x := .ptr id (xs.length * sz) (off + fo)) (σ1 := σ) ?_ (fun h => Z1g (ids := [id]) rfl ?_ (fun j hj => by simp at hj; subst hj; exact ha h)) hd hk'
  ·simp only [Z4, hx, Y0, Z0M, hf, hs, hcur, if_true, Y8]
  ·simp only [touched, ZP, YE, YK, hx, vids, YL]
theorem Ops.loadS {id : Nat} {et : TypeId} {sz j off ver : Nat} {xs : List (List FV)} {u : List FV} {w : FV} {iv : Int} {lv : Bool} (H : Has σ lo hi L) (k : Nat) (hk : L[k]? = some (.sl v et sz xs lv)) (hv : v = .buf id xs.length sz) (hver : ver = xs.length * sz)
  (hu : at? xs iv = some u) (hx : Z0 X e x = some (.ptr id ver off)) (hoff : off = iv.toNat * sz + j) (hg : tagg X.P t1 = some false) (hj : Nat.blt j sz = true) (hw : u[j]? = some w) (ha : dr = true → Seen ops base i id false) (hd : Nat.blt d n = true)
  (hk' : Ops X n dr ops base (i + 1) l (set e d (.v w)) σ K) : Ops X n dr ops base i (⟨some d, .load t1 x, t, p, af, none⟩ :: l) e σ K := by
 subst hver; subst hoff
 obtain ⟨hsz, hv'⟩ := H.sl hk
 obtain ⟨h0, hu⟩ := at?_some hu
 rcases hv' with ⟨rfl, rfl⟩ | ⟨id', rfl, hb⟩
 ·cases hv
 ·cases hv;refine .plain (x := .v w) (σ1 := σ) ?_ (fun h => Z1g (ids := [id]) rfl ?_ (fun j hj => by simp at hj; subst hj; exact ha h)) hd hk'
  ·simp only [Z4, hx, Y0, Z20, hb, Z05, Zy hsz, if_true, hg, vs_get, flat_get hsz hu (Z65 hj), hw, Y8]
  ·simp only [touched, ZP, YE, YK, hx, vids, YL]
theorem Ops.storeS {id : Nat} {et : TypeId} {sz j m off ver : Nat} {xs : List (List FV)} {u zs u' : List FV} {iv : Int} {w : PV} (H : Has σ lo hi L) (k : Nat) (hk : L[k]? = some (.sl v et sz xs true)) (hv : v = .buf id xs.length sz) (hver : ver = xs.length * sz)
  (hu : at? xs iv = some u) (hx : Z0 X e x = some (.ptr id ver off)) (hoff : off = iv.toNat * sz + j) (hy : Z0 X e y = some w) (hw : w.cells = some (vs zs)) (hm : tsize X.P t1 = some m) (hz : zs.length = m) (hj : Nat.ble (j + m) sz = true)
  (hu' : u.take j ++ zs ++ u.drop (j + zs.length) = u') (ha : dr = true → Seen ops base i id true)
  (hk' : ∀ σ', Has σ' lo hi (L.set k (.sl v et sz (xs.set iv.toNat u') true)) → Ops X n dr ops base (i + 1) l e σ' K) : Ops X n dr ops base i (⟨none, .store t1 x y, t, p, af, none⟩ :: l) e σ K := by
 subst hver; subst hoff; subst hu'
 obtain ⟨hsz, hv'⟩ := H.sl hk
 obtain ⟨h0, hu⟩ := at?_some hu
 have hj : j + m ≤ sz := Yl hj
 have hul := hsz u (Y7 hu)
 rcases hv' with ⟨rfl, rfl⟩ | ⟨id', rfl, hb⟩
 ·cases hv
 ·cases hv;have hsp := flat_splice hsz hu (off := j) (zs := zs) (by omega)
  have hle : iv.toNat * sz + j + m ≤ (vs xs.flatten).length := by
   have := flat_le hsz hu
   rw [Z05]; omega
  refine .plain0 (x := .undef) (σ1 := σ.put id (.blk et (vs (xs.set iv.toNat (u.take j ++ zs ++ u.drop (j + zs.length))).flatten) true)) ?_ (fun h => Z52 (ids := [id]) rfl ?_ (fun j hj => by simp at hj; subst hj; exact ha h))
   (hk' _ (H.put hk rfl (r' := .sl _ et sz _ true) ⟨?_, .inr ⟨id, ?_, Z0q⟩⟩ rfl))
  ·have hl2 : (vs xs.flatten).length = xs.length * sz := by rw [Z05, Zy hsz]
   simp only [Z4, hx, hy, Z2s, hb, hl2, if_true, hm, hw, Z05, hz];rw [if_pos ⟨trivial, by rw [← hl2]; exact hle⟩, hsp, hz]
   rfl
  ·simp only [touched, ZP, YE, YK, hx, vids, YL]
  ·intro y hy
   rcases List.mem_or_eq_of_mem_set hy with h | rfl
   ·exact hsz y h
   ·simp only [YX, YG, List.length_drop, hul];omega
  ·rw [Y01]
inductive Bring (L : List Res) (sz : Nat) : PV → List (List FV) → Prop
 | p {xs : List (List FV)} (h : xs.all (fun y => y.length == sz) = true) : Bring L sz (.v (.sl xs)) xs
 | m {α : Type} {c : α → List FV} {xs : List α} (h : ∀ a, (c a).length = sz) : Bring L sz (.v (.sl (xs.map c))) (xs.map c)
 | s {v : PV} {et : TypeId} {xs : List (List FV)} {lv : Bool} (k : Nat) (h : L[k]? = some (.sl v et sz xs lv)) : Bring L sz v xs
theorem brought {sz : Nat} {w : PV} {ys : List (List FV)} (H : Has σ lo hi L) (h : Bring L sz w ys) : Z29 σ sz w = some (vs ys.flatten, ys.length) ∧ ∀ y ∈ ys, y.length = sz := by
 cases h with
 | p h =>
  refine ⟨by simp only [Z29, h, if_true], fun y hy => by have := List.all_eq_true.1 h y hy; simpa using this⟩
 | @m α c xs h =>
  have h1 : (xs.map c).all (fun y => y.length == sz) = true := by simp [h]
  refine ⟨by simp only [Z29, h1, if_true], fun y hy => by have := List.all_eq_true.1 h1 y hy; simpa using this⟩
 | s k h =>
  obtain ⟨hs, hv⟩ := H.sl h
  refine ⟨?_, hs⟩
  rcases hv with ⟨rfl, rfl⟩ | ⟨id, rfl, hb⟩
  ·rfl
  ·simp only [Z29, hb, Z05, Zy hs, and_self, if_true]
theorem Ops.appendS {el : TypeId} {sz by_ : Nat} {w : PV} {xs ys : List (List FV)} {zs : List PV} (H : Has σ lo hi L) (hlo : lo ≤ base + i) (hhi : base + i < hi) (k : Nat) (hk : L[k]? = some (.sl v el sz xs true))
  (hx : Z0 X e x = some v) (hy : Z0 X e y = some w) (hb : Bring L sz w ys) (ht : tslice X.P t1 = some el) (hs : tsize X.P el = some sz) (hby : tbytes X.P el = some by_) (hz : tzero X.P el = some zs)
  (hc : (sz != 0 && by_ != 0 && zs.length == sz) = true) (hroom : (xs.length + ys.length) * by_ ≤ room)
  (ha : dr = true → ∀ id ∈ vids v ++ vids w, Seen ops base i id true) (hd : Nat.blt d n = true)
  (hk' : ∀ v' σ', Has σ' (base + i + 1) hi (L.set k (.sl v' el sz (xs ++ ys) true)) → Ops X n dr ops base (i + 1) l (set e d v') σ' K) :
  Ops X n dr ops base i (⟨some d, .call { callee := .builtin .append, args := #[x, y], argTypes := #[t1, t1] }, t, p, af, none⟩ :: l) e σ K := by
 simp only [Y9, beq_iff_eq, bne_iff_ne, ne_eq] at hc
 obtain ⟨hb1, hb2⟩ := brought H hb
 obtain ⟨hsz, hv⟩ := H.sl hk
 have hall : ∀ y ∈ xs ++ ys, y.length = sz := fun y hy => (List.mem_append.1 hy).elim (hsz y) (hb2 y)
 have hn : ¬(sz = 0 ∨ by_ = 0 ∨ (some zs).map List.length ≠ some sz) := by
  rintro (h | h | h)
  ·exact hc.1.1 h
  ·exact hc.1.2 h
  ·exact h (by rw [Y8, hc.2])
 have ask : dr = true → ZZ X ops base i ⟨some d, .call { callee := .builtin .append, args := #[x, y], argTypes := #[t1, t1] }, t, p, af, none⟩ e = true := fun h =>
  Z52 rfl (by simp only [touched, ZP, YE, YK, hx, hy, YL]) (ha h)
 have start : Z4 X (Zu X) e σ (base + i) (.call { callee := .builtin .append, args := #[x, y], argTypes := #[t1, t1] }) = Z0r X.P σ (base + i) t1 v w := by
  simp only [Z4, Za, ZK, hx, hy, Y0, Zx, if_true]
 rcases hv with ⟨rfl, rfl⟩ | ⟨id, rfl, hbl⟩
 ·by_cases h0 : ys = []
  ·subst h0;refine .plain (x := .nils) (σ1 := σ) ?_ ask hd (hk' _ _ ((H.weak (YZ hlo (Nat.le_succ _)) (YB _)).say hk (r' := .sl .nils el sz ([] ++ []) true) ⟨by simp, .inl ⟨rfl, rfl⟩⟩ rfl))
   rw [start];simp only [Z0r, ht, hs, hby, hb1, hz, if_neg hn, YN, if_true]
  ·have hl : ys.length ≠ 0 := fun h => h0 (List.length_eq_zero_iff.1 h)
   refine .plain (x := .buf (base + i) ys.length sz) (σ1 := σ.put (base + i) (.blk el (vs ys.flatten) true)) ?_ ask hd
    (hk' _ _ (H.renew hk hlo hhi (r' := .sl (.buf (base + i) ys.length sz) el sz ([] ++ ys) true) ⟨hall, .inr ⟨base + i, rfl, Z0q⟩⟩ rfl))
   rw [start];simp only [YN, Y05] at hroom;simp only [Z0r, ht, hs, hby, hb1, hz, if_neg hn, if_neg hl, if_pos hroom]
 ·refine .plain (x := .buf id (xs.length + ys.length) sz) (σ1 := σ.put id (.blk el (vs xs.flatten ++ vs ys.flatten) true)) ?_ ask hd
   (hk' _ _ ((H.put hk rfl (r' := .sl (.buf id (xs.length + ys.length) sz) el sz (xs ++ ys) true) ⟨hall, .inr ⟨id, by rw [YX], ?_⟩⟩ rfl).weak (YZ hlo (Nat.le_succ _)) (YB _)))
  ·rw [start];simp only [Z0r, ht, hs, hby, hb1, hz, if_neg hn, hbl];rw [if_pos ⟨trivial, trivial, by rw [Z05, Zy hsz], hroom⟩]
  ·rw [Z0q, Y0U, Z4X]
def RO (v : PV) (xs : List (List FV)) : Prop := (v = .nils ∧ xs = []) ∨ v = .v (.sl xs)
inductive ExpC : List Res → PV → FV → List Res → Prop
 | v {L : List Res} (y : FV) : ExpC L (.v y) y L
 | n {L : List Res} : ExpC L .nils (.sl []) L
 | ro {L : List Res} {v : PV} {xs : List (List FV)} (h : RO v xs) : ExpC L v (.sl xs) L
 | s {L : List Res} {v : PV} {et : TypeId} {sz : Nat} {xs : List (List FV)} {lv : Bool} (k : Nat) (h : L[k]? = some (.sl v et sz xs lv)) : ExpC L v (.sl xs) (L.set k (.sl v et sz xs false))
inductive ExpCs : List Res → List PV → List FV → List Res → Prop
 | nil {L : List Res} : ExpCs L [] [] L
 | cons {L L1 L2 : List Res} {x : PV} {y : FV} {xs : List PV} {ys : List FV} (h : ExpC L x y L1) (t : ExpCs L1 xs ys L2) : ExpCs L (x :: xs) (y :: ys) L2
inductive ExpV : List Res → PV → PV → List Res → Prop
 | c {L L' : List Res} {x : PV} {y : FV} (h : ExpC L x y L') : ExpV L x (.v y) L'
 | a {L L' : List Res} {xs : List PV} {ys : List FV} (h : ExpCs L xs ys L') : ExpV L (.agg xs) (.agg (vs ys)) L'
 | p {L : List Res} {x : PV} (h : x.pure = true) : ExpV L x x L
inductive ExpVs : List Res → List PV → List PV → List Res → Prop
 | nil {L : List Res} : ExpVs L [] [] L
 | cons {L L1 L2 : List Res} {x y : PV} {xs ys : List PV} (h : ExpV L x y L1) (t : ExpVs L1 xs ys L2) : ExpVs L (x :: xs) (y :: ys) L2
theorem Z3o {sz : Nat} : ∀ {xs : List (List FV)}, (∀ y ∈ xs, y.length = sz) → chunk sz xs.length xs.flatten = xs
 | [], _ => rfl
 | x :: xs, h => by
  have hx := h x YV
  have := Z3o (xs := xs) fun y hy => h y (YJ _ hy)
  simp only [YH, chunk, Ya];rw [← hx, List.take_left, List.drop_left, hx, this]
theorem Z6h {d : Nat} {σ : Heap} (cs : List FV) : Zl (ZY (d + 1)) σ (vs cs) = some (cs, σ) := by
 induction cs with
 | nil => rfl
 | cons c cs ih =>
  simp only [vs, List.map_cons, Zl, ZY, Y0] at ih ⊢;rw [ih]; rfl
theorem Z5U {d : Nat} {σ : Heap} {id len sz : Nat} {elem : TypeId} {cells : List PV} {lv : Bool} (h : σ.ent id = .blk elem cells lv) (hl : cells.length = len * sz) :
  ZY (d + 1) σ (.buf id len sz) = (Zl (ZY d) (σ.put id (.blk elem cells false)) cells).bind fun r => some (.sl (chunk sz len r.1), r.2) := by
 rw [ZY]
 simp only [h, hl, if_true]
theorem expC_ok {x : PV} {y : FV} {L' : List Res} (H : Has σ lo hi L) (h : ExpC L x y L') : ∃ σ', ZY 6 σ x = some (y, σ') ∧ Has σ' lo hi L' ∧ σ'.nx = σ.nx := by
 cases h with
 | v y => exact ⟨σ, rfl, H, rfl⟩
 | n => exact ⟨σ, rfl, H, rfl⟩
 | ro h => rcases h with ⟨rfl, rfl⟩ | rfl <;> exact ⟨σ, rfl, H, rfl⟩
 | @s _ et sz xs lv k h =>
  obtain ⟨hs, hv⟩ := H.sl h
  rcases hv with ⟨rfl, rfl⟩ | ⟨id, rfl, hb⟩
  ·exact ⟨σ, rfl, H.say h ⟨by simp, .inl ⟨rfl, rfl⟩⟩ rfl, rfl⟩
  ·refine ⟨σ.put id (.blk et (vs xs.flatten) false), ?_, H.put h rfl (r' := .sl (.buf id xs.length sz) et sz xs false) ⟨hs, .inr ⟨id, rfl, Z0q⟩⟩ rfl, rfl⟩
   rw [Z5U hb (by rw [Z05, Zy hs]), Z6h (d := 4)]
   simp only [Y0, Z3o hs]
theorem expCs_ok : ∀ {xs : List PV} {σ : Heap} {L L' : List Res} {ys : List FV}, Has σ lo hi L → ExpCs L xs ys L' → ∃ σ', Z32 σ xs = some (ys, σ') ∧ Has σ' lo hi L' ∧ σ'.nx = σ.nx
 | [], σ, L, L', ys, H, h => by cases h; exact ⟨σ, rfl, H, rfl⟩
 | x :: xs, σ, L, L', ys, H, h => by
  cases h with
  | cons h t =>
   obtain ⟨σ1, q1, q2, q3⟩ := expC_ok H h
   obtain ⟨σ2, p1, p2, p3⟩ := expCs_ok q2 t
   refine ⟨σ2, ?_, p2, p3.trans q3⟩;unfold Z32 at p1 ⊢;simp only [Zl, q1, Y0, p1]
theorem expV_ok {x y : PV} {L' : List Res} (H : Has σ lo hi L) (h : ExpV L x y L') : ∃ σ', Z07 σ x = some (y, σ') ∧ Has σ' lo hi L' ∧ σ'.nx = σ.nx := by
 cases h with
 | c h =>
  obtain ⟨σ', q1, q2, q3⟩ := expC_ok H h
  refine ⟨σ', ?_, q2, q3⟩;cases h with
  | v y => simp only [Z07, q1, Y0]
  | n => simp only [Z07, q1, Y0]
  | ro h => rcases h with ⟨rfl, rfl⟩ | rfl <;> simp only [Z07, q1, Y0]
  | s k h =>
   obtain ⟨_, ⟨rfl, rfl⟩ | ⟨id, rfl, hb⟩⟩ := H.sl h
   ·simp only [Z07, q1, Y0]
   ·simp only [Z07, q1, Y0]
 | a h =>
  obtain ⟨σ', q1, q2, q3⟩ := expCs_ok H h
  exact ⟨σ', by simp only [Z07, q1, Y0], q2, q3⟩
 | p h => exact ⟨σ, Z2L h, H, rfl⟩
theorem expArg_val {x y : PV} {σ' : Heap} (h : Z07 σ x = some (y, σ')) (hp : ∀ (id ver off : Nat), x ≠ .ptr id ver off) (hc : ∀ (f : FuncId) (a c : List PV), x ≠ .clo f a c) (hy : ∀ id, x ≠ .yld id) : Z0s σ x = some (y, σ') := by
 cases x <;> first | exact h | exact absurd rfl (hp _ _ _) | exact absurd rfl (hc _ _ _) | exact absurd rfl (hy _)
theorem Z76 {x y : PV} {L' : List Res} (H : Has σ lo hi L) (h : ExpV L x y L') : (∀ (id ver off : Nat), x ≠ .ptr id ver off) ∧ (∀ (f : FuncId) (a c : List PV), x ≠ .clo f a c) ∧ (∀ id, x ≠ .yld id) ∧ (∀ xs, x ≠ .tup xs) ∧ y.pure = true := by
 cases h with
 | c h =>
  cases h with
  | v y => exact ⟨by intros; simp, by intros; simp, by intros; simp, by intros; simp, rfl⟩
  | n => exact ⟨by intros; simp, by intros; simp, by intros; simp, by intros; simp, rfl⟩
  | ro h => rcases h with ⟨rfl, rfl⟩ | rfl <;> exact ⟨by intros; simp, by intros; simp, by intros; simp, by intros; simp, rfl⟩
  | s k h =>
   obtain ⟨_, ⟨rfl, rfl⟩ | ⟨id, rfl, hb⟩⟩ := H.sl h
   ·exact ⟨by intros; simp, by intros; simp, by intros; simp, by intros; simp, rfl⟩
   ·exact ⟨by intros; simp, by intros; simp, by intros; simp, by intros; simp, rfl⟩
 | a h => exact ⟨by intros; simp, by intros; simp, by intros; simp, by intros; simp, by simp [PV.pure, vs, PV.isV]⟩
 | p h => cases x <;> simp [PV.pure] at h ⊢; all_goals simp_all
theorem expVs_ok : ∀ {xs : List PV} {σ : Heap} {L L' : List Res} {ys : List PV}, Has σ lo hi L → ExpVs L xs ys L' → ∃ σ', Z12 σ xs = some (ys, σ') ∧ Z06 σ xs = some (ys, σ') ∧ Has σ' lo hi L' ∧ σ'.nx = σ.nx ∧ ys.all PV.pure = true
 | [], σ, L, L', ys, H, h => by cases h; exact ⟨σ, rfl, rfl, H, rfl, rfl⟩
 | x :: xs, σ, L, L', ys, H, h => by
  cases h with
  | cons h t =>
   obtain ⟨σ1, q1, q2, q3⟩ := expV_ok H h
   obtain ⟨s1, s2, s3, _, s4⟩ := Z76 H h
   obtain ⟨σ2, p1, p1', p2, p3, p4⟩ := expVs_ok q2 t
   refine ⟨σ2, ?_, ?_, p2, p3.trans q3, by simp [s4, p4]⟩
   ·simp only [Z12, q1, Y0, p1]
   ·simp only [Z06, expArg_val q1 s1 s2 s3, Y0, p1']
inductive ExpR (L : List Res) : List PV → PV → List Res → Prop
 | one {x y : PV} {L' : List Res} (h : ExpV L x y L') : ExpR L [x] y L'
 | two {x x' : PV} {xs ys : List PV} {L' : List Res} (h : ExpVs L (x :: x' :: xs) ys L') : ExpR L (x :: x' :: xs) (.tup ys) L'
 | zero : ExpR L [] (.tup []) L
theorem expR_ok {xs : List PV} {y : PV} {L' : List Res} (H : Has σ lo hi L) (h : ExpR L xs y L') : ∃ σ', Z0e σ (Z0w xs) = some (y, σ') ∧ Has σ' lo hi L' := by
 cases h with
 | @one x _ _ h =>
  obtain ⟨σ', q1, q2, _⟩ := expV_ok H h
  obtain ⟨_, _, _, s4, _⟩ := Z76 H h
  refine ⟨σ', ?_, q2⟩
  show Z0e σ x = _
  cases x <;> first | exact q1 | exact absurd rfl (s4 _)
 | two h =>
  obtain ⟨σ', q1, _, q2, _⟩ := expVs_ok H h
  exact ⟨σ', by simp only [Z0w, Z0e, q1, Y0], q2⟩
 | zero => exact ⟨σ, rfl, H⟩
theorem callL_exp {f : FuncId} {args args' : List PV} {r : PV} {σ' : Heap} (hF : Fn X f args' r) (hi0 : X.intr f args = none) (hi1 : X.intr f args' = none) (he : Z06 σ args = some (args', σ')) : Zu X (.fn f) args σ = some (r, σ') := by
 obtain ⟨k, hk⟩ := Z1N.1 (hF.call σ')
 refine Z1N.2 ⟨k, ?_⟩
 cases k with
 | zero => simp [Z0H] at hk
 | succ k =>
  simp only [Z0H, hi1, hF.keep, YA, if_false, Z1L hF.pure, hF.opn, hF.pure, if_true] at hk;simp only [Z0H, hi0, hF.keep, YA, if_false, he, hF.opn, hF.pure, if_true];exact hk
theorem Ops.Z1X {f : FuncId} {args : Array Operand} {ts : Array TypeId} {xs ys : List PV} {r : PV} {L' : List Res} (H : Has σ lo hi L) (ha : ZK X e args.toList = some xs) (hE : ExpVs L xs ys L') (hf : Fn X f ys r) (hi0 : X.intr f xs = none) (hi1 : X.intr f ys = none) (hdr : dr = true → Z1h (Region.before ops) ops i = true) (hd : Nat.blt d n = true)
  (hk : ∀ σ', Has σ' lo hi L' → Ops X n dr ops base (i + 1) l (set e d r) σ' K) :
  Ops X n dr ops base i (⟨some d, .call { callee := .value (.func f), args := args, argTypes := ts }, t, p, af, none⟩ :: l) e σ K := by
 obtain ⟨σ', q1, q2, q3, _⟩ := expVs_ok H hE
 exact .plain (x := r) (σ1 := σ') (by simp only [Z4, Za, ha, Z0, callL_exp hf hi0 hi1 q2]) (fun h => Z3e (hdr h)) hd (hk σ' q3)
abbrev Hs (σ : Heap) (L : List Res) : Prop := Has σ σ.nx σ.nx L
def ZA (e : Env) : List (Nat × PV) → Prop
 | [] => True
 | (k, v) :: l => e k = v ∧ ZA e l
def sets (e : Env) : List (Nat × PV) → Env
 | [] => e
 | (k, v) :: l => set (sets e l) k v
theorem ZA.eq : ∀ {l : List (Nat × PV)} {e : Env}, ZA e l → e = sets e l
 | [], e, _ => rfl
 | (k, v) :: l, e, ⟨h, t⟩ => by
  have ih := ZA.eq t
  funext j
  simp only [sets, set];cases hj : Nat.beq j k with
  | true => rw [Yv hj]; exact h
  | false => exact congrFun ih j
theorem ZA.ex {l : List (Nat × PV)} {e : Env} (h : ZA e l) : ∃ e0, e = sets e0 l := ⟨e, h.eq⟩
theorem holds_ent {r : Res} {σ σ' : Heap} (h : r.holds σ) (he : σ'.ent = σ.ent) (hn : σ.nx ≤ σ'.nx) : r.holds σ' := by
 cases r with
 | blk id t cells => show σ'.ent id = _; rw [he]; exact h
 | sl v e sz xs live => exact ⟨h.1, h.2.imp (fun h => h) fun ⟨id, hv, hb⟩ => ⟨id, hv, by rw [he]; exact hb⟩⟩
 | floor m => exact YZ h hn
 | hole id => trivial
 | loop id fn e n ps as_ bo st pd => show σ'.ent id = _; rw [he]; exact h
 | mp id kv => show σ'.ent id = _; rw [he]; exact h
 | fix id en => show σ'.ent id = _; rw [he]; exact h
theorem Has.enter (H : Hs σ L) (m : Nat) : Has ⟨σ.nx + m, σ.ent⟩ σ.nx (σ.nx + m) L :=
 ⟨fun k r hk => holds_ent (H.holds k r hk) rfl (Y0R _ _), fun k r hk id ho => ⟨.inl (H.lt k r hk id ho).2, YM (H.lt k r hk id ho).2 (Y0R _ _)⟩, H.sep, YB _⟩
theorem Runs.ZM {id : Nat} {os : List Oper} (m : Nat) (hm : os.length = m) (H : Hs σ L) (h : ∀ base σ', Has σ' base (base + m) L → Ops X n false os.toArray base 0 os e σ' (Q .normal)) : Runs X n fn (.region id os.toArray false) e σ Q := by
 subst hm
 have h := h σ.nx _ (H.enter os.length)
 exact Runs.region (m' := σ.nx + os.length) rfl h
theorem Runs.Z1B {id : Nat} {os : List Oper} (m : Nat) (hm : os.length = m) (hd : Z24 os.toArray = true) (H : Hs σ L) (h : ∀ base σ', Has σ' base (base + m) L → (∀ (k : Nat) (r : Res), L[k]? = some r → ∀ id, r.owner = some id → id < base) → Ops X n true os.toArray base 0 os e σ' (Q .normal)) : Runs X n fn (.region id os.toArray true) e σ Q := by
 subst hm
 have h := h σ.nx _ (H.enter os.length) (fun k r hk id ho => (H.lt k r hk id ho).2)
 exact Runs.drawn (m' := σ.nx + os.length) hd rfl h
theorem Z4m {call : Zh} : ∀ (l1 l2 : List Oper) (i : Nat) (e : Env) (σ : Heap), Z0u X call n ops base i (l1 ++ l2) e σ = (Z0u X call n ops base i l1 e σ).bind fun r => Z0u X call n ops base (i + l1.length) l2 r.1 r.2
 | [], l2, i, e, σ => rfl
 | o :: l1, l2, i, e, σ => by
  simp only [Y0C, Z0u, YH];cases Z0G X call n ops base i o e σ with
  | none => rfl
  | some r =>
   simp only [Y0];rw [Z4m l1 l2 (i + 1) r.1 r.2, show i + 1 + l1.length = i + (l1.length + 1) by omega]
theorem Z4H {call : Zh} : ∀ (l1 l2 : List Oper) (i : Nat) (e : Env) (σ : Heap), Z0Q X call n ops base i (l1 ++ l2) e σ = (Z0Q X call n ops base i l1 e σ).bind fun r => Z0Q X call n ops base (i + l1.length) l2 r.1 r.2
 | [], l2, i, e, σ => rfl
 | o :: l1, l2, i, e, σ => by
  simp only [Y0C, Z0Q, YH];cases Z0B X call n ops base i o e σ with
  | none => rfl
  | some r =>
   simp only [Y0];rw [Z4H l1 l2 (i + 1) r.1 r.2, show i + 1 + l1.length = i + (l1.length + 1) by omega]
theorem Ops.mid (k : Nat) {K1 : Env → Heap → Prop} (hk : Nat.ble k l.length = true) (h1 : Ops X n dr ops base i (l.take k) e σ K1) (h2 : ∀ e σ, K1 e σ → Ops X n dr ops base (i + k) (l.drop k) e σ K) : Ops X n dr ops base i l e σ K := by
 obtain ⟨e1, σ1, q1, q2⟩ := h1.run
 obtain ⟨e2, σ2, p1, p2⟩ := (h2 e1 σ1 q2).run
 have hl : (l.take k).length = k := by rw [YG]; have := Yl hk; omega
 refine ⟨⟨e2, σ2, ?_, p2⟩⟩
 cases dr with
 | false =>
  simp only [YA, if_false] at q1 p1 ⊢;rw [← Y0H k l, Z4m, q1, Y0, hl]; exact p1
 | true =>
  simp only [if_true] at q1 p1 ⊢;rw [← Y0H k l, Z4H, q1, Y0, hl]; exact p1
def Z1q {S R : Type} (step : S → Option (S ⊕ R)) : Nat → S → Option R
 | 0, _ => none
 | k + 1, s => match step s with
  | some (.inl s') => Z1q step k s'
  | some (.inr r) => some r
  | none => none
def LoopEnd {S R : Type} (I : S → Env → Heap → Prop) (J : R → Ex → Env → Heap → Prop) : S ⊕ R → Ex → Env → Heap → Prop
 | .inl s, x, e, σ => x = .normal ∧ I s e σ
 | .inr r, x, e, σ => x ≠ .normal ∧ J r x e σ
theorem Runs.loopO {S R : Type} {step : S → Option (S ⊕ R)} {s : S} {y : R} {k : Nat} (h : Z1q step k s = some y) (I : S → Env → Heap → Prop) (J : R → Ex → Env → Heap → Prop) (h0 : I s e σ)
  (hs : ∀ s e σ, I s e σ → ∀ z, step s = some z → Runs X n fn c e σ (LoopEnd I J z)) : Runs X n fn (.loop c) e σ (J y) := by
 refine Runs.loop (fun m e σ => ∃ s, Z1q step m s = some y ∧ I s e σ) (m := k) ⟨s, h, h0⟩ ?_
 rintro m e σ ⟨s, h1, h2⟩
 cases m with
 | zero => cases h1
 | succ m =>
  simp only [Z1q] at h1
  split at h1
  ·rename_i s' hst;refine (hs s e σ h2 _ hst).mono ?_;rintro x e' σ' ⟨rfl, hI⟩;exact ⟨m, Nat.lt_succ_self m, s', h1, hI⟩
  ·rename_i r hst;cases h1;refine (hs s e σ h2 _ hst).mono ?_;rintro x e' σ' ⟨hx, hJ⟩;cases x with
   | normal => exact absurd rfl hx
   | exit id => exact hJ
   | ret => exact hJ
  ·cases h1
end
noncomputable def loopO {S R : Type} (step : S → Option (S ⊕ R)) (s : S) : Option R :=
 open Classical in if h : ∃ r, ∃ k, Z1q step k s = some r then some h.choose else none
theorem Z5D {S R : Type} {step : S → Option (S ⊕ R)} : ∀ {k : Nat} {s : S} {r : R}, Z1q step k s = some r → ∀ {m : Nat}, k ≤ m → Z1q step m s = some r
 | 0, s, r, h, _, _ => by cases h
 | k + 1, s, r, h, m, hm => by
  obtain ⟨m, rfl⟩ : ∃ j, m = j + 1 := ⟨m - 1, by omega⟩
  simp only [Z1q] at h ⊢
  split at h
  ·rename_i s' hs; exact Z5D h (by omega)
  ·exact h
  ·cases h
theorem ZI {S R : Type} {step : S → Option (S ⊕ R)} {s : S} {r : R} : loopO step s = some r ↔ ∃ k, Z1q step k s = some r := by
 unfold loopO
 constructor
 ·intro h
  split at h
  ·rename_i hex; cases h; exact hex.choose_spec
  ·cases h
 ·rintro ⟨k, h⟩;have hex : ∃ r, ∃ k, Z1q step k s = some r := ⟨r, k, h⟩
  rw [dif_pos hex];obtain ⟨k', h'⟩ := hex.choose_spec
  have e1 := Z5D h (Y0X k k')
  have e2 := Z5D h' (Y0S k k')
  rw [e1] at e2;exact e2.symm
theorem loopO_eq {S R : Type} (step : S → Option (S ⊕ R)) (s : S) : loopO step s = match step s with | some (.inl s') => loopO step s' | some (.inr r) => some r | none => none := by
 cases hs : step s with
 | none =>
  cases h : loopO step s with
  | none => rfl
  | some r =>
   obtain ⟨k, hk⟩ := ZI.1 h
   cases k with
   | zero => cases hk
   | succ k => simp [Z1q, hs] at hk
 | some z =>
  cases z with
  | inr r => exact ZI.2 ⟨1, by simp [Z1q, hs]⟩
  | inl s' =>
   simp only;cases h : loopO step s' with
   | some r =>
    obtain ⟨k, hk⟩ := ZI.1 h
    exact ZI.2 ⟨k + 1, by simp only [Z1q, hs]; exact hk⟩
   | none =>
    cases h2 : loopO step s with
    | none => rfl
    | some r =>
     obtain ⟨k, hk⟩ := ZI.1 h2
     cases k with
     | zero => cases hk
     | succ k =>
      simp only [Z1q, hs] at hk;rw [ZI.2 ⟨k, hk⟩] at h;cases h
inductive Jx (A R : Type) where
 | go (a : A)
 | ret (r : R)
theorem bind_some {α β : Type} {x : Option α} {f : α → Option β} {b : β} (h : x.bind f = some b) : ∃ a, x = some a ∧ f a = some b := Option.bind_eq_some_iff.1 h
theorem cond_T {α : Type} {c : Bool} {a b r : α} (hc : c = true) (h : (bif c then a else b) = r) : a = r := by rw [hc] at h; exact h
theorem cond_F {α : Type} {c : Bool} {a b r : α} (hc : c = false) (h : (bif c then a else b) = r) : b = r := by rw [hc] at h; exact h
section
variable {X : Ctx} {n : Nat} {fn : FuncId} {e : Env} {σ : Heap} {lo hi : Nat} {L : List Res}
inductive ResD (P : Program) (e : Env) (L : List Res) : List ResultVar → List PV → Prop
 | nil : ResD P e L [] []
 | tmp {t : Nat} {v : PV} {rs : List ResultVar} {xs : List PV} (h : e t = v) (k : ResD P e L rs xs) : ResD P e L (.tmp t :: rs) (v :: xs)
 | cell {a : Nat} {t : TypeId} {id off ver : Nat} {te : TypeId} {cells : List PV} {v : PV} {rs : List ResultVar} {xs : List PV} (i : Nat) (hi : L[i]? = some (.blk id te cells)) (h : e a = .ptr id ver off) (hv : cells.length = ver) (hg : tagg P t = some false) (hc : cells[off]? = some v) (k : ResD P e L rs xs) : ResD P e L (.cell a t :: rs) (v :: xs)
 | agg {a : Nat} {t : TypeId} {id off ver m : Nat} {te : TypeId} {cells cs : List PV} {rs : List ResultVar} {xs : List PV} (i : Nat) (hi : L[i]? = some (.blk id te cells)) (h : e a = .ptr id ver off) (hv : cells.length = ver) (hg : tagg P t = some true) (hm : tsize P t = some m) (hl : Nat.ble (off + m) cells.length = true) (hc : (cells.drop off).take m = cs) (k : ResD P e L rs xs) : ResD P e L (.cell a t :: rs) (.agg cs :: xs)
theorem Z2Y {P : Program} {rs : List ResultVar} {xs : List PV} (H : Has σ lo hi L) (h : ResD P e L rs xs) : Zq P e σ rs = some xs := by
 induction h with
 | nil => rfl
 | tmp h k ih => simp only [Zq, ih, Y8, h]
 | cell i hi h hv hg hc k ih => simp only [Zq, h, Z20, H.blk hi, hv, if_true, hg, hc, Y0, ih, Y8]
 | agg i hi h hv hg hm hl hc k ih =>
  have h2 := Yl hl
  rw [hv] at h2;simp only [Zq, h, Z20, H.blk hi, hv, if_true, hg, hm, if_pos h2, hc, Y0, ih, Y8]
theorem Ends.H {rs : List ResultVar} {xs : List PV} {r : PV} {x : Ex} {L' : List Res} (hx : x = .normal ∨ x = .ret) (H : Has σ lo hi L) (h : ResD X.P e L rs xs) (hr : ExpR L xs r L') : Ends X rs r x e σ := by
 obtain ⟨σ', q, _⟩ := expR_ok H hr
 exact ⟨hx, xs, σ', Z2Y H h, q⟩
structure EndsH (X : Ctx) (rs : List ResultVar) (r : PV) (L : List Res) (x : Ex) (e : Env) (σ : Heap) : Prop where
 out : (x = .normal ∨ x = .ret) ∧ ∃ xs σ' lo hi, Zq X.P e σ rs = some xs ∧ Z0e σ (Z0w xs) = some (r, σ') ∧ Has σ' lo hi L
theorem Has.drop (H : Has σ lo hi L) : ∀ n : Nat, Has σ lo hi (L.drop n)
 | 0 => H
 | n + 1 => by
  have h1 := (Has.drop H n).erase 0
  rwa [List.eraseIdx_zero, List.tail_drop] at h1
theorem EndsH.H {rs : List ResultVar} {xs : List PV} {r : PV} {x : Ex} {L' L0 : List Res} (hx : x = .normal ∨ x = .ret) (H : Has σ lo hi L) (h : ResD X.P e L rs xs) (hr : ExpR L xs r L') (k : Nat) (hk : L'.drop k = L0) : EndsH X rs r L0 x e σ := by
 obtain ⟨σ', q, H'⟩ := expR_ok H hr
 exact ⟨hx, xs, σ', lo, hi, Z2Y H h, q, hk ▸ H'.drop k⟩
end
end Go.Dn

namespace Go.Dn
open Go
def Z56 {S T : Type} (yb : S → T → Option (S × Nat)) : S × Nat → T → Option ((S × Nat) × Bool) := fun s t => if s.2 = 0 then (yb s.1 t).map fun r => (r, r.2 == 0) else none
def cI (k : IntKind) (x : Int) : List FV := [.int k x]
def cB (x : Bool) : List FV := [.bool x]
def cS (x : ByteArray) : List FV := [.str x]
def cL {α : Type} (c : α → List FV) (x : List α) : List FV := [.sl (x.map c)]
abbrev w64 (x : Int) : Int := IntKind.i64.wrap x
def nz? (b : Int) : Option Unit := if b = 0 then none else some ()
theorem nz_ne {b : Int} {u : Unit} (h : nz? b = some u) : b ≠ 0 := by
 unfold nz? at h
 split at h
 ·cases h
 ·assumption
abbrev iAnd (k : IntKind) (x y : Int) : Int := k.wrap (BitVec.ofInt k.bits x &&& BitVec.ofInt k.bits y).toNat
abbrev iOr (k : IntKind) (x y : Int) : Int := k.wrap (BitVec.ofInt k.bits x ||| BitVec.ofInt k.bits y).toNat
abbrev iXor (k : IntKind) (x y : Int) : Int := k.wrap (BitVec.ofInt k.bits x ^^^ BitVec.ofInt k.bits y).toNat
abbrev iAndNot (k : IntKind) (x y : Int) : Int := k.wrap (BitVec.ofInt k.bits x &&& ~~~ BitVec.ofInt k.bits y).toNat
abbrev iMin (x y : Int) : Int := if y < x then y else x
abbrev iMax (x y : Int) : Int := if y > x then y else x
def clone? {α : Type} (by_ : Nat) (l : List α) : Option (List α) := if l.length * by_ ≤ room then some l else none
theorem clone_some {α : Type} {by_ : Nat} {l r : List α} (h : clone? by_ l = some r) : l.length * by_ ≤ room ∧ r = l := by
 unfold clone? at h
 split at h
 ·cases h; exact ⟨by assumption, rfl⟩
 ·cases h
def gcd? (a b : Int) : Option Int := if (0 ≤ a ∧ a ≤ 18446744073709551615) ∧ 0 ≤ b ∧ b ≤ 18446744073709551615 then some (Int.gcd a b) else none
def Jx.elim {A R B : Type} (j : Jx A R) (g : R → Option B) (f : A → Option B) : Option B := match j with | .go a => f a | .ret r => g r
theorem jgo {A R B : Type} {a : A} {g : R → Option B} {f : A → Option B} {b : B} (h : (Jx.go a : Jx A R).elim g f = some b) : f a = some b := h
theorem jret {A R B : Type} {r : R} {g : R → Option B} {f : A → Option B} {b : B} (h : (Jx.ret r : Jx A R).elim g f = some b) : g r = some b := h
theorem or_T {c t : Bool} (h : c = true) : PV.v (.bool true) = .v (.bool (c || t)) := by rw [h]; rfl
theorem or_F {c t : Bool} (h : c = false) : PV.v (.bool t) = .v (.bool (c || t)) := by rw [h]; rfl
theorem Z2W {c t : Bool} (h : c = true) : PV.v (.bool t) = .v (.bool (c && t)) := by rw [h]; rfl
theorem Z2X {c t : Bool} (h : c = false) : PV.v (.bool false) = .v (.bool (c && t)) := by rw [h]; rfl
section
variable {X : Ctx} {n : Nat} {dr : Bool} {fn : FuncId} {ops : Array Oper} {base i : Nat} {l : List Oper} {e : Env} {σ : Heap} {K : Env → Heap → Prop} {Q : Ex → Env → Heap → Prop} {c a b : Code}
variable {d : Nat} {t t1 t2 : TypeId} {p : String} {af : Array Edge} {x y z : Operand} {v : PV} {lo hi : Nat} {L : List Res}
theorem Ops.lenPt {α : Type} {c : α → List FV} {xs : List α} {el : TypeId} (hx : Z0 X e x = some (.v (.sl (xs.map c)))) (ht : tslice X.P t1 = some el) (hd : Nat.blt d n = true)
  (hk' : Ops X n dr ops base (i + 1) l (set e d (.v (.int .i64 xs.length))) σ K) : Ops X n dr ops base i (⟨some d, .call { callee := .builtin .len, args := #[x], argTypes := #[t1] }, t, p, af, none⟩ :: l) e σ K := by
 refine Ops.lenP (af2 := #[]) hx ht hd ?_
 rw [Yh]; exact hk'
theorem Ops.lenSt {α : Type} {c : α → List FV} {xs : List α} {el et : TypeId} {sz : Nat} {lv : Bool} (H : Has σ lo hi L) (k : Nat) (hk : L[k]? = some (.sl v et sz (xs.map c) lv)) (hx : Z0 X e x = some v) (ht : tslice X.P t1 = some el)
  (ha : dr = true → ∀ id, v.owner = some id → Seen ops base i id false) (hd : Nat.blt d n = true)
  (hk' : Ops X n dr ops base (i + 1) l (set e d (.v (.int .i64 xs.length))) σ K) : Ops X n dr ops base i (⟨some d, .call { callee := .builtin .len, args := #[x], argTypes := #[t1] }, t, p, af, none⟩ :: l) e σ K := by
 refine Ops.lenS H k hk hx ht ha hd ?_
 rw [Yh]; exact hk'
theorem Z3d {v : PV} {id : Nat} (h : id ∈ vids v) (hv : ∀ i v' o, v ≠ .ptr i v' o) : v.owner = some id := by
 cases v <;> simp [vids] at h
 ·exact h ▸ rfl
 ·exact absurd rfl (hv _ _ _)
theorem Z6m {sz : Nat} {w : PV} {ys : List (List FV)} (H : Has σ lo hi L) (h : Bring L sz w ys) : ∀ i v' o, w ≠ .ptr i v' o := by
 intro i v' o e
 subst e
 cases h with
 | s k h => obtain ⟨_, ⟨h, _⟩ | ⟨_, h, _⟩⟩ := H.sl h <;> cases h
theorem Ops.Z17 {α : Type} {c : α → List FV} {xs ys r : List α} {el : TypeId} {sz by_ : Nat} {w : PV} {zs : List PV} (H : Has σ lo hi L) (hlo : lo ≤ base + i) (hhi : base + i < hi) (k : Nat) (hk : L[k]? = some (.sl v el sz (xs.map c) true))
  (hx : Z0 X e x = some v) (hy : Z0 X e y = some w) (hb : Bring L sz w (ys.map c)) (hr : app? by_ xs ys = some r) (ht : tslice X.P t1 = some el) (hs : tsize X.P el = some sz) (hby : tbytes X.P el = some by_) (hz : tzero X.P el = some zs)
  (hc : (sz != 0 && by_ != 0 && zs.length == sz) = true)
  (ha : dr = true → (∀ id, v.owner = some id → Seen ops base i id true) ∧ (∀ id, w.owner = some id → Seen ops base i id true)) (hd : Nat.blt d n = true)
  (hk' : ∀ v' σ', Has σ' (base + i + 1) hi (L.set k (.sl v' el sz (r.map c) true)) → Ops X n dr ops base (i + 1) l (set e d v') σ' K) :
  Ops X n dr ops base i (⟨some d, .call { callee := .builtin .append, args := #[x, y], argTypes := #[t1, t1] }, t, p, af, none⟩ :: l) e σ K := by
 unfold app? at hr
 split at hr
 ·rename_i hroom;cases hr;refine Ops.appendS H hlo hhi k hk hx hy hb ht hs hby hz hc (by simpa using hroom) (fun h id hid => ?_) hd ?_
  ·rcases List.mem_append.1 hid with hid | hid
   ·refine (ha h).1 id (Z3d hid ?_);intro i v' o e;subst e;obtain ⟨_, ⟨h, _⟩ | ⟨_, h, _⟩⟩ := H.sl hk <;> cases h
   ·exact (ha h).2 id (Z3d hid (Z6m H hb))
  ·rw [Y0F] at hk';exact hk'
 ·cases hr
def cpy {α : Type} (xs ys : List α) : List α := ys.take (min ys.length xs.length) ++ xs.drop (min ys.length xs.length)
theorem flat_take {sz : Nat} : ∀ {ys : List (List FV)}, (∀ y ∈ ys, y.length = sz) → ∀ k, ys.flatten.take (k * sz) = (ys.take k).flatten
 | [], _, k => by simp
 | y :: ys, h, 0 => by simp
 | y :: ys, h, k + 1 => by
  have hy := h y YV
  have ih := flat_take (ys := ys) (fun z hz => h z (YJ _ hz)) k
  rw [Ya, List.take_succ_cons, Ya, Nat.succ_mul, Nat.add_comm (k * sz) sz, ← hy, List.take_length_add_append, hy, ih]
theorem Z77 {sz : Nat} : ∀ {ys : List (List FV)}, (∀ y ∈ ys, y.length = sz) → ∀ k, ys.flatten.drop (k * sz) = (ys.drop k).flatten
 | [], _, k => by simp
 | y :: ys, h, 0 => by simp
 | y :: ys, h, k + 1 => by
  have hy := h y YV
  have ih := Z77 (ys := ys) (fun z hz => h z (YJ _ hz)) k
  rw [Ya, List.drop_succ_cons, Nat.succ_mul, Nat.add_comm (k * sz) sz, ← hy, List.drop_length_add_append, hy, ih]
theorem Ops.copyS {α : Type} {c : α → List FV} {xs ys : List α} {el : TypeId} {sz m : Nat} {w : PV} {t9 : TypeId} {id : Nat} (H : Has σ lo hi L) (k : Nat) (hk : L[k]? = some (.sl v el sz (xs.map c) true)) (hv : v = .buf id m sz)
  (hx : Z0 X e x = some v) (hy : Z0 X e y = some w) (hb : Bring L sz w (ys.map c)) (ht : tslice X.P t1 = some el) (hs : tsize X.P el = some sz)
  (ha : dr = true → (∀ id, v.owner = some id → Seen ops base i id true) ∧ (∀ id, w.owner = some id → Seen ops base i id true)) (hd : Nat.blt d n = true)
  (hk' : ∀ σ', Has σ' lo hi (L.set k (.sl v el sz ((cpy xs ys).map c) true)) → Ops X n dr ops base (i + 1) l (set e d (.v (.int .i64 (min ys.length xs.length : Nat)))) σ' K) :
  Ops X n dr ops base i (⟨some d, .call { callee := .builtin .copy, args := #[x, y], argTypes := #[t1, t9] }, t, p, af, none⟩ :: l) e σ K := by
 obtain ⟨hb1, hb2⟩ := brought H hb
 obtain ⟨hsz, hv'⟩ := H.sl hk
 subst hv
 rcases hv' with ⟨h, _⟩ | ⟨id', hid, hbl⟩
 ·cases h
 cases hid
 have hl2 : (vs (xs.map c).flatten).length = (xs.map c).length * sz := by rw [Z05, Zy hsz]
 have hcp : splice (vs (xs.map c).flatten) 0 ((vs (ys.map c).flatten).take (min (ys.map c).length (xs.map c).length * sz)) = vs ((cpy xs ys).map c).flatten := by
  rw [vs_take, flat_take hb2];unfold splice;rw [List.take_zero, List.nil_append, Z05, Y05, vs_drop, Zy (sz := sz) (fun y hy => hb2 y (Yb hy)), Z77 hsz, ← Z4X, ← Y0U]
  congr 1
  unfold cpy;rw [Y0F, List.map_take, List.map_drop];simp only [YG, Yh]
  congr 3
  omega
 refine .plain (x := .v (.int .i64 (min ys.length xs.length : Nat))) (σ1 := σ.put id (.blk el (vs ((cpy xs ys).map c).flatten) true)) ?_ (fun h => Z52 rfl rfl ?_) hd
  (hk' _ (H.put hk rfl (r' := .sl (.buf id (xs.map c).length sz) el sz ((cpy xs ys).map c) true) ⟨fun y hy => ?_, .inr ⟨id, ?_, Z0q⟩⟩ rfl))
 ·simp only [Z4, Za, ZK, hx, hy, Y0, Zx, Z4o, ht, hs, hb1, hbl];rw [if_pos ⟨trivial, trivial, hl2⟩, hcp];simp only [Yh]
 ·intro id' hid;simp only [touched, ZP, YE, YK, hx, hy, YL] at hid
  rcases List.mem_append.1 hid with hid | hid
  ·exact (ha h).1 _ (Z3d hid (by intros; simp))
  ·exact (ha h).2 _ (Z3d hid (Z6m H hb))
 ·obtain ⟨a, ha', rfl⟩ := List.mem_map.1 hy
  unfold cpy at ha'
  rcases List.mem_append.1 ha' with h | h
  ·exact hb2 _ (List.mem_map.2 ⟨a, Yb h, rfl⟩)
  ·exact hsz _ (List.mem_map.2 ⟨a, List.mem_of_mem_drop h, rfl⟩)
 ·have : ((cpy xs ys).map c).length = (xs.map c).length := by
   unfold cpy;simp only [Yh, YX, YG, List.length_drop];omega
  rw [this]
theorem Ops.storeSt {α : Type} {c : α → List FV} {xs : List α} {u u' : α} {id : Nat} {et : TypeId} {sz j m off ver : Nat} {zs : List FV} {iv : Int} {w : PV} (H : Has σ lo hi L) (k : Nat) (hk : L[k]? = some (.sl v et sz (xs.map c) true)) (hv : v = .buf id (xs.map c).length sz) (hver : ver = (xs.map c).length * sz)
  (hu : at? xs iv = some u) (hx : Z0 X e x = some (.ptr id ver off)) (hoff : off = iv.toNat * sz + j) (hy : Z0 X e y = some w) (hw : w.cells = some (vs zs)) (hm : tsize X.P t1 = some m) (hz : zs.length = m) (hj : Nat.ble (j + m) sz = true)
  (hu' : (c u).take j ++ zs ++ (c u).drop (j + zs.length) = c u') (ha : dr = true → Seen ops base i id true)
  (hk' : ∀ σ', Has σ' lo hi (L.set k (.sl v et sz ((xs.set iv.toNat u').map c) true)) → Ops X n dr ops base (i + 1) l e σ' K) : Ops X n dr ops base i (⟨none, .store t1 x y, t, p, af, none⟩ :: l) e σ K := by
 refine Ops.storeS H k hk hv hver (at?_map hu) hx hoff hy hw hm hz hj hu' ha ?_
 rw [List.map_set] at hk'
 exact hk'
theorem Ops.binA {op : BinOp} {u w : PV} {r : FV} (hx : Z0 X e x = some u) (hy : Z0 X e y = some w) (hr : binD X.P σ op t1 u w = some r) (ha : dr = true → ZZ X ops base i ⟨some d, .binOp op t1 x y t2, t, p, af, none⟩ e = true) (hd : Nat.blt d n = true)
  (hk : Ops X n dr ops base (i + 1) l (set e d (.v r)) σ K) : Ops X n dr ops base i (⟨some d, .binOp op t1 x y t2, t, p, af, none⟩ :: l) e σ K :=
 .plain (x := .v r) (σ1 := σ) (by simp only [Z4, hx, hy, hr, Y8]) ha hd hk
theorem ask_eqA {op : BinOp} {us ws : List PV} {o : Oper} (hx : Z0 X e x = some (.agg us)) (hy : Z0 X e y = some (.agg ws)) (hop : Zd (.binOp op t1 x y t2) = .read) (ho : o.op = .binOp op t1 x y t2) : ZZ X ops base i o e = true :=
 Z21 (by rw [ho]; exact hop) (by rw [ho]; simp only [touched, ZP, YE, YK, hx, hy, vids, YL])
theorem Ops.buildA {parts : Array (Nat × Operand)} {cs : List PV} (hb : Z67 X e t1 parts.toList = some (.agg cs)) (hd : Nat.blt d n = true) (hk : Ops X n dr ops base (i + 1) l (set e d (.agg cs)) σ K) : Ops X n dr ops base i (⟨some d, .build t1 parts, t, p, af, none⟩ :: l) e σ K :=
 .plain (x := .agg cs) (σ1 := σ) (by simp only [Z4, hb, Y8]) (fun _ => Z0E rfl) hd hk
theorem Ops.makeClo {f : FuncId} {first caps : Array Operand} {fs cs : List PV} (hf : ZK X e first.toList = some fs) (hc : ZK X e caps.toList = some cs) (hn : (fs.isEmpty && cs.isEmpty) = false) (hd : Nat.blt d n = true)
  (hk : Ops X n dr ops base (i + 1) l (set e d (.clo f fs cs)) σ K) : Ops X n dr ops base i (⟨some d, .makeFunc (.func f) first caps, t, p, af, none⟩ :: l) e σ K := by
 refine .plain (x := .clo f fs cs) (σ1 := σ) ?_ (fun _ => Z0E rfl) hd hk
 simp only [Z4, hf, hc]
 cases fs <;> cases cs <;> first | rfl | cases hn
theorem Ops.min2 {k : IntKind} {u w : Int} {ts : Array TypeId} (hx : Z0 X e x = some (.v (.int k u))) (hy : Z0 X e y = some (.v (.int k w))) (hd : Nat.blt d n = true) (hk : Ops X n dr ops base (i + 1) l (set e d (.v (.int k (iMin u w)))) σ K) :
  Ops X n dr ops base i (⟨some d, .call { callee := .builtin .min, args := #[x, y], argTypes := ts }, t, p, af, none⟩ :: l) e σ K :=
 .plain (x := .v (.int k (iMin u w))) (σ1 := σ) (by simp only [Z4, Za, ZK, hx, hy, Y0, Zx, Z1s, if_true, Y8]) (fun _ => Z0E rfl) hd hk
theorem Ops.max2 {k : IntKind} {u w : Int} {ts : Array TypeId} (hx : Z0 X e x = some (.v (.int k u))) (hy : Z0 X e y = some (.v (.int k w))) (hd : Nat.blt d n = true) (hk : Ops X n dr ops base (i + 1) l (set e d (.v (.int k (iMax u w)))) σ K) :
  Ops X n dr ops base i (⟨some d, .call { callee := .builtin .max, args := #[x, y], argTypes := ts }, t, p, af, none⟩ :: l) e σ K :=
 .plain (x := .v (.int k (iMax u w))) (σ1 := σ) (by simp only [Z4, Za, ZK, hx, hy, Y0, Zx, Z1s, if_true, Y8]) (fun _ => Z0E rfl) hd hk
theorem cut?_some {α : Type} {xs r : List α} {i j : Int} (h : cut? xs i j = some r) : 0 ≤ i ∧ i ≤ j ∧ j ≤ xs.length ∧ r = (xs.take j.toNat).drop i.toNat := by
 unfold cut? at h
 split at h
 ·rename_i h1; cases h; exact ⟨h1.1, h1.2.1, h1.2.2, rfl⟩
 ·cases h
theorem sliceP_ok {α : Type} {c : α → List FV} {xs r : List α} {i0 j0 : Int} {P : Program} {el : TypeId} {m : Nat} {lo hi : Option PV} (h : cut? xs i0 j0 = some r) (ht : tslice P t1 = some el) (hs : tsize P el = some m) (hm : ∀ u, (c u).length = m)
  (hlo : (match lo with | none => some 0 | some v => Z2w v) = some i0.toNat) (hhi : (match hi with | none => some xs.length | some v => Z2w v) = some j0.toNat) : Z6G P t1 (.v (.sl (xs.map c))) lo hi none = some (.v (.sl (r.map c))) := by
 obtain ⟨h1, h2, h3, rfl⟩ := cut?_some h
 have hc : i0.toNat ≤ j0.toNat ∧ j0.toNat ≤ xs.length ∧ Z4Z (xs.map c) i0.toNat m = true := by
  refine ⟨by omega, by omega, ?_⟩
  simp only [Z4Z, YF];cases xs[i0.toNat]? with
  | none => rfl
  | some u => simp [hm]
 have hc' : xs.length = j0.toNat → i0.toNat ≤ j0.toNat ∧ j0.toNat ≤ j0.toNat ∧ Z4Z (xs.map c) i0.toNat m = true := fun _ => ⟨hc.1, YB _, hc.2.2⟩
 cases lo <;> cases hi <;> simp only [Y5] at hlo hhi <;> simp only [Z6G, ht, Y0, hs, Yh, hlo, hhi, List.map_drop, List.map_take] <;> first | rw [if_pos hc] | rw [if_pos (hc' hhi)]
theorem asNat_int {k : IntKind} {m : Int} (h : 0 ≤ m) : Z2w (.v (.int k m)) = some m.toNat := by simp [Z2w, h]
theorem Ops.sliceP01 {α : Type} {c : α → List FV} {xs r : List α} {el : TypeId} {m : Nat} {k : IntKind} {j0 : Int} (h : cut? xs 0 j0 = some r) (hx : Z0 X e x = some (.v (.sl (xs.map c)))) (hl : Z0 X e y = some (.v (.int k j0))) (ht : tslice X.P t1 = some el) (hs : tsize X.P el = some m) (hm : ∀ u, (c u).length = m) (hd : Nat.blt d n = true)
  (hk : Ops X n dr ops base (i + 1) l (set e d (.v (.sl (r.map c)))) σ K) : Ops X n dr ops base i (⟨some d, .slice t1 x none (some y) none, t, p, af, none⟩ :: l) e σ K := by
 refine .plain (x := .v (.sl (r.map c))) (σ1 := σ) ?_ (fun _ => ?_) hd hk
 ·have h' := cut?_some h
  simp only [Z4, hx, hl, optD, Y8, sliceP_ok h ht hs hm (lo := none) (hi := some (.v (.int k j0))) rfl (asNat_int (by omega))]
 ·exact ask0 (by simp only [ZU, Zd, hx])
end
inductive Sub : List Res → List Res → Prop
 | nil {L : List Res} : Sub [] L
 | cons {c : Res} {C L : List Res} (k : Nat) (h : L[k]? = some c) (t : Sub C L) : Sub (c :: C) L
theorem Sub.push {C L : List Res} {r : Res} (h : Sub C L) : Sub C (r :: L) := by
 induction h with
 | nil => exact .nil
 | cons k h t ih => exact .cons (k + 1) h ih
theorem Sub.inv {c : Res} {C L : List Res} (h : Sub (c :: C) L) : ∃ k : Nat, L[k]? = some c ∧ Sub C L := by
 cases h with
 | cons k h t => exact ⟨k, h, t⟩
noncomputable def callV (X : Ctx) (cv : PV) (args : List PV) (σ : Heap) : Option (PV × Heap) :=
 match cv with
 | .v (.fn f) => Zu X (.fn f) args σ
 | .clo f first caps => Zu X (.fn f) (first ++ args ++ caps) σ
 | _ => none
def FnH (X : Ctx) (f : FuncId) (args : List PV) (r : PV) (C : List Res) : Prop :=
 ∀ σ lo hi L, Sub C L → Has σ lo hi L → ∃ σ', Zu X (.fn f) args σ = some (r, σ') ∧ Has σ' lo hi L
def CloH (X : Ctx) (cv : PV) (args : List PV) (r : PV) (C : List Res) : Prop :=
 ∀ σ lo hi L, Sub C L → Has σ lo hi L → ∃ σ', callV X cv args σ = some (r, σ') ∧ Has σ' lo hi L
section
variable {X : Ctx} {f : FuncId} {args : List PV} {r : PV} {C : List Res}
theorem Fn.toH (h : Fn X f args r) (C : List Res) : FnH X f args r C := fun σ lo hi L _ H => ⟨σ, h.call σ, H⟩
theorem CloH.fn (h : FnH X f args r C) : CloH X (.v (.fn f)) args r C := h
theorem CloH.clo {first caps : List PV} (h : FnH X f (first ++ args ++ caps) r C) : CloH X (.clo f first caps) args r C := h
theorem CloH.weak {cv : PV} (h : CloH X cv args r []) : CloH X cv args r C := fun σ lo hi L _ H => h σ lo hi L .nil H
theorem all_nil {α : Type} {p : α → Bool} : ([] : List α).all p = true := rfl
theorem Z2V {α : Type} {p : α → Bool} {x : α} {l : List α} (h : p x = true) (t : l.all p = true) : (x :: l).all p = true := by rw [Yi, h, t]; rfl
theorem Z3y {α : Type} {p : α → Bool} {x : α} {l : List α} (h : l.all p = true) (i : Nat) (hx : l[i]? = some x) : p x = true := List.all_eq_true.1 h x (Y7 hx)
def PV.still : PV → Bool
 | .ptr _ _ _ => true
 | .clo _ _ _ => true
 | .yld _ => true
 | x => x.pure
theorem expArg_still {σ : Heap} {x : PV} (h : x.still = true) : Z0s σ x = some (x, σ) := by
 cases x <;> first | rfl | exact Z2z h
theorem Z3D {σ : Heap} : ∀ {xs : List PV}, xs.all PV.still = true → Z06 σ xs = some (xs, σ)
 | [], _ => rfl
 | x :: xs, h => by
  simp only [Yi, Y9] at h;simp only [Z06, expArg_still h.1, Y0, Z3D h.2]
theorem FnH.of {fu : Func} {c : Code} {m : Nat} (hf : X.P.funcs[f]? = some fu) (hb : fu.body = some c) (hi : X.intr f args = none) (hk : X.keep f = false) (ho : X.opn f = false) (hs : args.all PV.still = true) (hm : max fu.ntmps args.length = m)
  (hp : args.all PV.pure = true → C = [])
  (h : ∀ σ L, Sub C L → Hs σ L → Runs X m f c (Z40 args) σ (EndsH X fu.results.toList r L)) : FnH X f args r C := by
 subst hm
 intro σ lo hi' L hC H
 by_cases hpu : args.all PV.pure = true
 ·have hC0 := hp hpu
  subst hC0;obtain ⟨lf, x, e', σ1, h1, hE⟩ := (h Heap.empty [] .nil (Has.nil (YB _))).run
  obtain ⟨hx, xs, σ2, _, _, h2, h3, _⟩ := hE.out
  refine ⟨σ, Z1f (lf := lf) ?_, H⟩
  have hbody : Z0m X (Zu X) lf f args Heap.empty = some (Z0w xs, σ1) := by
   simp only [Z0m, hf, hb, h1]
   rcases hx with rfl | rfl <;> simp only [h2, Y8]
  simp only [Z3A, hi, hk, YA, if_false, Z1L hpu, ho, hpu, if_true, hbody, Y0, h3, Y8]
 ·obtain ⟨lf, x, e', σ1, h1, hE⟩ := (h σ (.floor hi' :: L) hC.push (H.all.floor hi' H.le)).run
  obtain ⟨hx, xs, σ2, lo2, hi2, h2, h3, H2⟩ := hE.out
  refine ⟨σ2, Z1f (lf := lf) ?_, ?_⟩
  ·have hbody : Z0m X (Zu X) lf f args σ = some (Z0w xs, σ1) := by
    simp only [Z0m, hf, hb, h1]
    rcases hx with rfl | rfl <;> simp only [h2, Y8]
   simp only [Z3A, hi, hk, YA, if_false, Z3D hs, ho, if_neg hpu, hbody, Y0, h3]
  ·have hfl : hi' ≤ σ2.nx := H2.holds 0 _ rfl
   have H3 := H2.erase 0
   exact ⟨H3.holds, fun k r hk id ho => ⟨(H.lt k r hk id ho).1, (H3.lt k r hk id ho).2⟩, H.sep, hfl⟩
end
section
variable {X : Ctx} {n : Nat} {dr : Bool} {fn : FuncId} {ops : Array Oper} {base i : Nat} {l : List Oper} {e : Env} {σ : Heap} {K : Env → Heap → Prop}
variable {d : Nat} {t : TypeId} {p : String} {af : Array Edge} {x : Operand} {lo hi : Nat} {L C : List Res}
theorem Ops.callH {f : FuncId} {args : Array Operand} {ts : Array TypeId} {ys : List PV} {r : PV} (H : Has σ lo hi L) (ha : ZK X e args.toList = some ys) (hf : FnH X f ys r C) (hs : Sub C L)
  (hdr : dr = true → (ys.all PV.pure && !X.opn f && !X.keep f) = true ∨ Z1h (Region.before ops) ops i = true) (hd : Nat.blt d n = true)
  (hk : ∀ σ', Has σ' lo hi L → Ops X n dr ops base (i + 1) l (set e d r) σ' K) :
  Ops X n dr ops base i (⟨some d, .call { callee := .value (.func f), args := args, argTypes := ts }, t, p, af, none⟩ :: l) e σ K := by
 obtain ⟨σ', q1, q2⟩ := hf σ lo hi L hs H
 refine .plain (x := r) (σ1 := σ') (by simp only [Z4, Za, ha, Z0, q1]) (fun h => ?_) hd (hk σ' q2)
 rcases hdr h with this | this
 case inr => exact Z3e this
 simp only [Y9, YT] at this
 exact ask0 (by simp only [ZU, Zd, ha, Z3q, Z0, pure_calm this.1.1, this.1.2, this.2, Y0D, Y07])
theorem Ops.callV {cv : PV} {args : Array Operand} {ts : Array TypeId} {ys : List PV} {r : PV} (H : Has σ lo hi L) (hx : Z0 X e x = some cv) (ha : ZK X e args.toList = some ys) (hf : CloH X cv ys r C) (hs : Sub C L)
  (hdr : dr = true → Z1h (Region.before ops) ops i = true) (hd : Nat.blt d n = true)
  (hk : ∀ σ', Has σ' lo hi L → Ops X n dr ops base (i + 1) l (set e d r) σ' K) :
  Ops X n dr ops base i (⟨some d, .call { callee := .value x, args := args, argTypes := ts }, t, p, af, none⟩ :: l) e σ K := by
 obtain ⟨σ', q1, q2⟩ := hf σ lo hi L hs H
 refine .plain (x := r) (σ1 := σ') ?_ (fun h => Z3e (hdr h)) hd (hk σ' q2)
 simp only [Z4, Za, ha, hx]
 unfold Dn.callV at q1
 split at q1
 ·exact q1
 ·exact q1
 ·cases q1
end
end Go.Dn

namespace Go.Dn
open Go Go.ChangeShapes
def consec (P : Program) : Nat → List Field → Option Nat
 | o, [] => some o
 | o, f :: fs => if f.offset = o then consec P (o + P.cellsOf f.type) fs else none
def supp (P : Program) : Nat → TypeId → Bool
 | 0, _ => false
 | d + 1, t =>
  match P.underlying t with
  | some .bool => P.cellsOf t == 1
  | some (.int _) => P.cellsOf t == 1
  | some .string => P.cellsOf t == 1
  | some (.slice e) => P.cellsOf t == 1 && P.cellsOf e != 0 && supp P d e
  | some (.struct fs) => fs.toList.all (fun f => supp P d f.type) && (consec P 0 fs.toList == some (P.cellsOf t))
  | _ => false
def OKC (P : Program) : Nat → TypeId → List FV → Prop
 | 0, _, _ => False
 | d + 1, t, ys =>
  match P.underlying t with
  | some .bool => ∃ b, ys = [.bool b]
  | some (.int k) => ∃ m, ys = [.int k m] ∧ (Lit.int k m).wf = true
  | some .string => ∃ s, ys = [.str s] ∧ s.size ≤ maxLen
  | some (.slice e) => ∃ xs, ys = [.sl xs] ∧ xs.length * P.bytesOf e ≤ reachBytes ∧ ∀ x ∈ xs, OKC P d e x
  | some (.struct fs) => ys.length = P.cellsOf t ∧ ∀ f ∈ fs.toList, OKC P d f.type ((ys.drop f.offset).take (P.cellsOf f.type))
  | _ => False
section
variable {H : Type} {enc : TypeId × Value → H} {P : Program} {w : World} {base : Nat} {spare : Nat → Bool} {held : Bool} {Im : Nat → Prop}
def Cov (w : World) (Im : Nat → Prop) (ys : List FV) (cs : List Value) : Prop := ys.length = cs.length ∧ ∀ (i : Nat) (y : FV) (v : Value), ys[i]? = some y → cs[i]? = some v → FVR w Im y v
theorem Cov.one {y : FV} {v : Value} (h : FVR w Im y v) : Cov w Im [y] [v] := ⟨rfl, fun i y' v' hy hv => by
 cases i with
 | zero => cases hy; cases hv; exact h
 | succ i => simp at hy⟩
theorem consec_le : ∀ {fs : List Field} {o m : Nat}, consec P o fs = some m → o ≤ m
 | [], o, m, h => by simp [consec] at h; omega
 | f :: fs, o, m, h => by
  simp only [consec] at h
  split at h
  ·have := consec_le h; omega
  ·cases h
theorem fields_ok {d n : Nat} {cs : List Value} (ih : ∀ (t : TypeId) (cs : List Value) (x : DataW H × List MemPlace), supp P d t = true → DataW.trod enc P w base spare held n t cs = some x → (∀ p ∈ x.2, Im p.block) → (∀ n ∈ x.1.weights P t, n ≤ reachBytes) → ∃ ys, Cov w Im ys cs ∧ OKC P d t ys) :
  ∀ (fs : List Field) (o m : Nat), consec P o fs = some m → m ≤ cs.length → (∀ f ∈ fs, supp P d f.type = true) →
   (∀ f ∈ fs, ∃ x, DataW.trod enc P w base spare held n f.type ((cs.drop f.offset).take (P.cellsOf f.type)) = some x ∧ (∀ p ∈ x.2, Im p.block) ∧ ∀ n ∈ x.1.weights P f.type, n ≤ reachBytes) →
   ∃ ys, Cov w Im ys ((cs.drop o).take (m - o)) ∧ ∀ f ∈ fs, o ≤ f.offset ∧ OKC P d f.type ((ys.drop (f.offset - o)).take (P.cellsOf f.type))
 | [], o, m, hc, hm, _, _ => by
  simp [consec] at hc;subst hc;exact ⟨[], ⟨by simp, by simp⟩, by simp⟩
 | f :: fs, o, m, hc, hm, hs, hx => by
  simp only [consec] at hc
  split at hc
  ·rename_i ho;subst ho;obtain ⟨x, hx1, hx2, hx3⟩ := hx f YV
   obtain ⟨ys, ⟨hl, hv⟩, hok⟩ := ih f.type _ x (hs f YV) hx1 hx2 hx3
   have hle := consec_le hc
   obtain ⟨zs, ⟨hl2, hv2⟩, hok2⟩ := fields_ok ih fs _ m hc hm (fun g hg => hs g (YJ _ hg)) (fun g hg => hx g (YJ _ hg))
   simp only [YG, List.length_drop] at hl hl2;have hy : ys.length = P.cellsOf f.type := by omega
   refine ⟨ys ++ zs, ⟨by simp only [YX, YG, List.length_drop]; omega, fun i y v h1 h2 => ?_⟩, fun g hg => ?_⟩
   ·by_cases hi : i < ys.length
    ·rw [YO hi] at h1;refine hv i y v h1 ?_;rw [YP] at h2 ⊢;rw [if_pos (by omega)] at h2 ⊢
     exact h2
    ·rw [YY (by omega)] at h1
     have hi2 : i - ys.length < zs.length := by
      rcases YD (i - ys.length) zs.length with h | h
      ·exact h
      ·rw [YU h] at h1; cases h1
     refine hv2 (i - ys.length) y v h1 ?_;rw [YP, Yf] at h2 ⊢;rw [if_pos (by omega)] at h2 ⊢
     rw [← h2]
     congr 1; omega
   ·rcases List.mem_cons.1 hg with rfl | hg
    ·refine ⟨YB _, ?_⟩;rw [Nat.sub_self, List.drop_zero, List.take_append_of_le_length (by omega), List.take_of_length_le (by omega)]
     exact hok
    ·obtain ⟨h1, h2⟩ := hok2 g hg
     refine ⟨by omega, ?_⟩
     have : (ys ++ zs).drop (g.offset - f.offset) = zs.drop (g.offset - (f.offset + P.cellsOf f.type)) := by
      rw [List.drop_append, List.drop_eq_nil_of_le (by omega), List.nil_append]
      congr 1; omega
     rw [this];exact h2
  ·cases hc
theorem Z6c {e : TypeId} : ∀ {ds : List (DataW H)} {d : DataW H}, d ∈ ds → ∀ n ∈ d.weights P e, n ∈ DataW.weightsAll P e ds
 | d0 :: ds, d, h, n, hn => by
  simp only [DataW.weightsAll, Yq]
  rcases List.mem_cons.1 h with rfl | h
  ·exact .inl hn
  ·exact .inr (Z6c h n hn)
def Sized (P : Program) (t : TypeId) (d : DataW H) : Prop := ∀ n ∈ d.weights P t, n ≤ reachBytes
theorem OKC.length : ∀ {d : Nat} {t : TypeId} {ys : List FV}, supp P d t = true → OKC P d t ys → ys.length = P.cellsOf t
 | 0, t, ys, h, _ => by simp [supp] at h
 | d + 1, t, ys, h, ho => by
  unfold supp at h;unfold OKC at ho
  split at h
  all_goals (rename_i hu; simp only [hu] at ho)
  ·obtain ⟨b, rfl⟩ := ho; simp at h; simp [h]
  ·obtain ⟨b, rfl, _⟩ := ho; simp at h; simp [h]
  ·obtain ⟨b, rfl, _⟩ := ho; simp at h; simp [h]
  ·obtain ⟨b, rfl, _⟩ := ho; simp at h; simp [h]
  ·exact ho.1
theorem trod_ok : ∀ (d n : Nat) (t : TypeId) (cs : List Value) (x : DataW H × List MemPlace), supp P d t = true → DataW.trod enc P w base spare held n t cs = some x → (∀ p ∈ x.2, Im p.block) → (∀ n ∈ x.1.weights P t, n ≤ reachBytes) → ∃ ys, Cov w Im ys cs ∧ OKC P d t ys
 | 0, n, t, cs, x, hs, h, hp, hw => by simp [supp] at hs
 | d + 1, n, t, cs, x, hs, h, hp, hw => by
  unfold supp at hs
  split at hs
  ·rename_i hu;cases n with
   | zero => simp [DataW.trod] at h
   | succ n =>
    simp only [DataW.trod, hu] at h
    split at h <;> simp_all
    rename_i b;exact ⟨[.bool b], Cov.one (.bool b), by simp [OKC, hu]⟩
  ·rename_i k hu;cases n with
   | zero => simp [DataW.trod] at h
   | succ n =>
    simp only [DataW.trod, hu] at h
    split at h <;> try (simp_all; done)
    rename_i k2 m he1 ;simp only [Y5, TypeDesc.int.injEq] at he1;subst he1
    split at h
    ·rename_i k' n' hk;obtain ⟨rfl, hwf⟩ := hk
     exact ⟨[.int _ _], Cov.one (.int _ _), by simp [OKC, hu, hwf]⟩
    ·cases h
  ·rename_i hu;cases n with
   | zero => simp [DataW.trod] at h
   | succ n =>
    simp only [DataW.trod, hu] at h
    split at h <;> try (simp_all; done)
    split at h
    ·rename_i s hk;exact ⟨[.str _], Cov.one (.str _), by simp [OKC, hu, hk]⟩
    ·cases h
  ·rename_i e hu;simp only [Y9, beq_iff_eq, bne_iff_ne, ne_eq] at hs
   rcases DataW.trod_slice hu h with ⟨rfl, rfl⟩ | ⟨a, len, cap, elems, rest, m, rfl, rfl, rfl, hb, hl, hm, hlen, hel, hsp, hns⟩
   ·exact ⟨[.sl []], Cov.one .nil, by simp [OKC, hu]⟩
   ·by_cases h0 : len = 0
    ·subst h0;exact ⟨[.sl []], Cov.one (.empty a cap), by simp [OKC, hu]⟩
    ·have each : ∀ i, i < len → ∃ cs' ys, w.cells? base (a.add (i * P.cellsOf e)) (P.cellsOf e) = some cs' ∧ Cov w Im ys cs' ∧ OKC P d e ys := by
      intro i hi;have h1 := hel i hi
      obtain ⟨y, hy⟩ : ∃ y, elems[i]? = some y := ⟨_, Y2 (by omega)⟩
      rw [hy, Y4] at h1;obtain ⟨cs', hcs, ht⟩ := h1
      obtain ⟨ys, h2, h3⟩ := trod_ok d m e cs' y hs.2 ht (fun p hpm => hp p (by
       refine Yu _ (List.mem_flatMap.2 ⟨y, Yn _ (Y7 hy), hpm⟩))) (fun n hn => hw n (by
       simp only [DataW.weights, hu, List.mem_cons, Yq];exact .inr (.inl (Z6c (List.mem_map.2 ⟨y, Y7 hy, rfl⟩) n hn))))
      exact ⟨cs', ys, hcs, h2, h3⟩
     let F : Nat → List FV := fun i => if hi : i < len then (each i hi).choose_spec.choose else []
     let C : Nat → List Value := fun i => if hi : i < len then (each i hi).choose else []
     have hF : ∀ i, i < len → w.cells? base (a.add (i * P.cellsOf e)) (P.cellsOf e) = some (C i) ∧ Cov w Im (F i) (C i) ∧ OKC P d e (F i) := by
      intro i hi;simp only [F, C, dif_pos hi];exact (each i hi).choose_spec.choose_spec
     have hFl : ∀ i, i < len → (F i).length = P.cellsOf e := fun i hi => OKC.length hs.2 (hF i hi).2.2
     have hxs : ∀ y ∈ (List.range len).map F, ∃ i, i < len ∧ y = F i := fun y hy => by
      obtain ⟨i, hi, rfl⟩ := List.mem_map.1 hy
      exact ⟨i, List.mem_range.1 hi, rfl⟩
     refine ⟨[.sl ((List.range len).map F)], Cov.one ?_, ?_⟩
     ·by_cases hz : P.cellsOf e = 0
      ·exact absurd hz hs.1.2
      ·have hsp0 : a.spot = none := by
        have h1 := (World.cells?_some (hF 0 (by omega)).1).2.2 0 (by omega)
        have hl0 := (World.cells?_some (hF 0 (by omega)).1).2.1
        simp only [Nat.zero_mul, Addr.add, if_true] at h1;unfold World.cell? at h1
        split at h1
        ·split at h1
         ·have : (C 0)[0]? = none := h1.symm
          rw [List.getElem?_eq_none_iff] at this;omega
         ·rename_i hq; simpa using hq
        ·have : (C 0)[0]? = none := h1.symm
         rw [List.getElem?_eq_none_iff] at this;omega
       obtain ⟨bl, off, spot⟩ := a
       simp only at hsp0;subst hsp0;have hcov := FVR.sl (w := w) (Imm := Im) ((List.range len).map F) bl off cap (P.cellsOf e) (fun i j => (C i).getD j Go.undef) ?_ (by simpa using hl) (fun y hy => by
        obtain ⟨i, hi, rfl⟩ := hxs y hy; exact hFl i hi) (fun i j hi hj => ?_) (fun i j y x h1 h2 => ?_)
       ·simpa using hcov
       ·refine hp (.cell bl (off + 0)) (Yn _ ?_);simp only [MemPlace.row, List.mem_map, List.mem_range];refine ⟨0, ?_, rfl⟩;exact Nat.mul_pos (by omega) (by omega)
       ·simp only [Yh, List.length_range] at hi;have h1 := (World.cells?_some (hF i hi).1).2.2 j hj
        have hl0 := (World.cells?_some (hF i hi).1).2.1
        have e1 : (Addr.add (Addr.add ⟨bl, off, none⟩ (i * P.cellsOf e)) j) = ⟨bl, off + i * P.cellsOf e + j, none⟩ := by
         simp only [Z2N]
        rw [e1] at h1;rw [h1, Y2 (by omega)]
        simp [List.getD, Y2 (show j < (C i).length by omega)]
       ·rw [YF, Y1] at h1;obtain ⟨i', hi', rfl⟩ := h1
        have hi2 := List.mem_range.1 (Y7 hi')
        have : i' = i := by
         rw [List.getElem?_eq_some_iff] at hi';obtain ⟨q1, q2⟩ := hi'
         simpa using q2.symm
        subst this;have hj : j < (C i').length := by
         rw [← (hF i' hi2).2.1.1]; exact (List.getElem?_eq_some_iff.1 h2).1
        refine (hF i' hi2).2.1.2 j x _ h2 ?_;rw [Y2 hj];simp [List.getD, Y2 hj]
     ·simp only [OKC, hu];refine ⟨_, rfl, ?_, fun y hy => ?_⟩
      ·have h1 := hw ((elems.length + rest.length) * P.bytesOf e) (by simp [DataW.weights, hu])
       refine YZ (YR _ ?_) h1
       simp; omega
      obtain ⟨i, hi, rfl⟩ := hxs y hy
      exact (hF i hi).2.2
  ·rename_i fs hu;simp only [Y9, beq_iff_eq, YI] at hs;obtain ⟨xs, m, rfl, rfl, hl, hx, hf⟩ := DataW.trod_struct hu h
   obtain ⟨ys, hc, ho⟩ := fields_ok (cs := cs) (fun t cs x h1 h2 h3 h4 => trod_ok d m t cs x h1 h2 h3 h4) fs.toList 0 (P.cellsOf t) hs.2 (by omega) hs.1 (fun f hfm => by
    obtain ⟨i, hi⟩ := YC hfm
    have hi' : fs[i]? = some f := by simpa using hi
    have h1 := hf i f hi'
    have hlt : i < xs.length := by
     have := (Array.getElem?_eq_some_iff.1 hi').1
     omega
    rw [Y2 hlt] at h1;exact ⟨_, h1, fun p hpm => hp p (List.mem_flatMap.2 ⟨_, Yc hlt, hpm⟩), fun n hn => hw n (by
     simp only [DataW.weights, hu];exact DataW.weights_mem_each (j := i) (t := f.type) (d := (xs[i]).1) (by simp [hi]) (by simp [hlt]) n hn)⟩)
   rw [List.drop_zero, Nat.sub_zero, List.take_of_length_le (by omega)] at hc
   refine ⟨ys, hc, ?_⟩;simp only [OKC, hu];exact ⟨hc.1.trans hl, fun f hfm => by simpa using (ho f hfm).2⟩
  ·cases hs
end
def okI (k : IntKind) (x : Int) : Prop := k.min ≤ x ∧ x ≤ k.max
def okB (_ : Bool) : Prop := True
def okS (x : ByteArray) : Prop := x.size ≤ maxLen
def okL {α : Type} (b : Nat) (p : α → Prop) (xs : List α) : Prop := xs.length * b ≤ reachBytes ∧ ∀ x ∈ xs, p x
def Dec (P : Program) {α : Type} (t : TypeId) (c : α → List FV) (ok : α → Prop) : Prop := ∀ d ys, OKC P d t ys → ∃ x, ys = c x ∧ ok x
section
variable {P : Program} {t e : TypeId}
theorem Dec.int {k : IntKind} (h : P.underlying t = some (.int k)) : Dec P t (cI k) (okI k) := fun d ys ho => by
 cases d with
 | zero => exact ho.elim
 | succ d =>
  simp only [OKC, h] at ho;obtain ⟨m, rfl, hw⟩ := ho
  exact ⟨m, rfl, by simpa [Lit.wf, okI] using hw⟩
theorem Dec.bool (h : P.underlying t = some .bool) : Dec P t cB okB := fun d ys ho => by
 cases d with
 | zero => exact ho.elim
 | succ d =>
  simp only [OKC, h] at ho;obtain ⟨m, rfl⟩ := ho
  exact ⟨m, rfl, trivial⟩
theorem Dec.str (h : P.underlying t = some .string) : Dec P t cS okS := fun d ys ho => by
 cases d with
 | zero => exact ho.elim
 | succ d =>
  simp only [OKC, h] at ho;obtain ⟨m, rfl, hw⟩ := ho
  exact ⟨m, rfl, hw⟩
theorem Dec.sl {α : Type} {c : α → List FV} {ok : α → Prop} {b : Nat} (h : P.underlying t = some (.slice e)) (hb : P.bytesOf e = b) (he : Dec P e c ok) : Dec P t (cL c) (okL b ok) := fun d ys ho => by
 cases d with
 | zero => exact ho.elim
 | succ d =>
  simp only [OKC, h] at ho;obtain ⟨xs, rfl, hl, hx⟩ := ho
  have : ∀ xs : List (List FV), (∀ x ∈ xs, OKC P d e x) → ∃ as_ : List α, xs = as_.map c ∧ ∀ a ∈ as_, ok a := by
   intro xs
   induction xs with
   | nil => intro _; exact ⟨[], rfl, by simp⟩
   | cons x xs ih =>
    intro hx;obtain ⟨a, rfl, ha⟩ := he d x (hx x YV)
    obtain ⟨as_, rfl, has⟩ := ih fun y hy => hx y (YJ _ hy)
    exact ⟨a :: as_, rfl, fun b hb => by
     rcases List.mem_cons.1 hb with rfl | hb
     ·exact ha
     ·exact has b hb⟩
  obtain ⟨as_, rfl, has⟩ := this xs hx
  exact ⟨as_, rfl, by subst hb; simpa using hl, has⟩
theorem fld (ys : List FV) (o s : Nat) : (ys.drop o).take s ++ ys.drop (o + s) = ys.drop o := by
 rw [← List.drop_drop]; exact Y0H s (ys.drop o)
theorem fld_nil {ys : List FV} {n : Nat} (h : ys.length = n) : ys.drop n = [] := List.drop_eq_nil_of_le (by omega)
end
theorem pvr_agg {P : Program} {t : TypeId} {W : World} {base : Nat} {v : Value} {s : St} {ys : List FV} {fs : Array Field} (hu : P.underlying t = some (.struct fs)) (hval : Value.okWide P W .any base t v) (hs : s.w = W) (hc : Cov W s.imm ys v.cells.toList) : PVR s (.agg (vs ys)) v := by
 unfold Value.okWide at hval
 rw [hu] at hval
 obtain ⟨cs, rfl, _, _⟩ := hval
 obtain ⟨hl, hc⟩ := hc
 subst hs
 simp only [Value.cells, Yp] at hl hc
 have each : ∀ (i : Nat) (u : Value), cs[i]? = some u → ∃ y, ys[i]? = some y ∧ FVR s.w s.imm y u := fun i u hu => by
  have hi := (Array.getElem?_eq_some_iff.1 hu).1
  exact ⟨ys[i], Y2 (by omega), hc i _ u (Y2 (by omega)) (by simpa using hu)⟩
 refine .agg (by rw [Z05]; exact hl) (fun i x hx => ?_) (fun i u hu => (each i u hu).choose_spec.2.Z31)
 rw [vs_get, Y1] at hx
 obtain ⟨y, hy, rfl⟩ := hx
 have hi := (List.getElem?_eq_some_iff.1 hy).1
 refine .v (hc i y _ hy ?_)
 rw [Yt, YW (by omega), Y6, YW (by omega)]
 rfl
theorem pvr_one {P : Program} {t : TypeId} {W : World} {base : Nat} {v : Value} {s : St} {y : FV} (hu : (match P.underlying t with | some .bool | some (.int _) | some .string | some (.slice _) => true | _ => false) = true) (hval : Value.okWide P W .any base t v) (hs : s.w = W) (hc : Cov W s.imm [y] v.cells.toList) : PVR s (.v y) v := by
 subst hs
 have hv : v.cells.toList = [v] := by
  unfold Value.okWide Cell.okWide Cell.ok at hval
  split at hu
  all_goals (first | (rename_i h1; rw [h1] at hval) | skip)
  ·cases v <;> first | rfl | exact hval.elim
  ·cases v <;> first | rfl | exact hval.elim
  ·cases v <;> first | rfl | exact hval.elim
  ·cases v <;> first | rfl | exact hval.elim
  ·cases hu
 rw [hv] at hc
 exact .v (hc.2 0 y v rfl rfl)
end Go.Dn

namespace Go.Dn
open Go
def cloneA (t b : TypeId) : Code := .region 0 #[{ dst := some 2, op := .assign (.const (.slice none 0 0)), type := t, pos := "slices.go:355", after := #[], guard := none }] false
def Z2H (t b : TypeId) : Array Oper := #[{ dst := some 3, op := .move (.tmp 0), type := t, pos := "slices.go:357", after := #[], guard := none },
 { dst := some 4, op := .binOp .eql t (.tmp 3) (.const (.slice none 0 0)) t, type := b, pos := "slices.go:357", after := #[{ on := 0, ground := .data }], guard := none }]
def cloneC (t : TypeId) : Code := .cond (.tmp 4) ((Code.region 2 #[{ dst := some 2, op := .assign (.const (.slice none 0 0)), type := t, pos := "slices.go:358", after := #[], guard := none }] false).seq .ret) .skip
def cloneD (t : TypeId) : Code := (Code.region 3
 #[{ dst := some 5, op := .buildSlice t 0 #[], type := t, pos := "slices.go:362", after := #[], guard := none },
  { dst := some 6, op := .move (.tmp 0), type := t, pos := "slices.go:362", after := #[], guard := none },
  { dst := some 7, op := .call { callee := .builtin .append, args := #[.tmp 5, .tmp 6], argTypes := #[t, t] }, type := t, pos := "slices.go:362", after := #[{ on := 0, ground := .data }, { on := 1, ground := .data }], guard := none },
  { dst := some 2, op := .assign (.tmp 7), type := t, pos := "slices.go:362", after := #[{ on := 2, ground := .data }, { on := 2, ground := .chain }, { on := 0, ground := .phase }, { on := 1, ground := .phase }, { on := 2, ground := .phase }], guard := none }] false).seq .ret
def cloneBody (t b : TypeId) : Code := (cloneA t b).seq (((Code.region 1 (Z2H t b) false).seq (cloneC t)).seq (cloneD t))
structure CloneT (P : Program) (t el : TypeId) (sz by_ : Nat) (zs : List PV) : Prop where
 ht : tslice P t = some el
 hs : tsize P el = some sz
 hb : tbytes P el = some by_
 hz : tzero P el = some zs
 hc : (sz != 0 && by_ != 0 && zs.length == sz) = true
variable {X : Ctx} {fn : FuncId} {t b el : TypeId} {sz by_ : Nat} {zs : List PV}
theorem cloneD_runs (hT : CloneT X.P t el sz by_ zs) {xs : List (List FV)} (hl : xs.all (fun y => y.length == sz) = true) (hroom : xs.length * by_ ≤ room) {e : Env} {σ : Heap} (h0 : e 0 = .v (.sl xs)) :
  Runs X 8 fn (cloneD t) e σ fun x e' σ' => x = .ret ∧ ∃ (lo hi : Nat) (L : List Res) (k : Nat), Has σ' lo hi L ∧ L[k]? = some (.sl (e' 2) el sz xs true) := by
 have hc := hT.hc
 simp only [Y9, beq_iff_eq, bne_iff_ne, ne_eq] at hc
 have H : Hs σ [] := Has.nil (YB _)
 obtain ⟨e0, rfl⟩ := (show ZA e [(0, .v (.sl xs))] from ⟨h0, trivial⟩).ex
 show Runs X 8 fn (Code.seq _ _) _ _ _
 apply Runs.then
 refine Runs.ZM 4 rfl H ?_; intro b1 σ H
 refine Ops.Z2R (zs := zs) (sz := sz) (pp := []) [] H (by omega) (by omega) hT.ht rfl hT.hs hT.hz (by simp only [Y9, beq_iff_eq, bne_iff_ne, ne_eq]; exact ⟨⟨hc.2, hc.1.1⟩, by simp⟩) rfl rfl rfl rfl ?_; intro σ H
 refine Ops.move (v := .v (.sl xs)) rfl rfl ?_
 refine Ops.appendS (v := .buf (b1 + 0) 0 sz) (w := .v (.sl xs)) (xs := []) (ys := xs) H (by omega) (by omega) 0 rfl rfl rfl (.p hl) hT.ht hT.hs hT.hb hT.hz hT.hc (by simpa using hroom) nofun rfl ?_; intro w σ H
 refine Ops.assign (v := w) rfl rfl ?_
 apply Ops.nil
 apply Runs.ret
 exact ⟨rfl, _, _, _, 0, H, rfl⟩
theorem cloneOps_wp {s : St} {e : Env} {a : Act} (hX : CtxOK X) (hG : Z0A X s) (hi : Inv s) (he : EnvR s 8 e a) (hT : CloneT X.P t el sz by_ zs) {xs : List (List FV)} (h0 : e 0 = .v (.sl xs)) {Q : Exit → Act → World → Prop}
  (hQ : ∀ (o : Option Addr) (a' : Act) (w' : World) (ι' : Nat → Nat), (o = none → xs = []) → Then s 8 a (putD 8 (putD 8 e (some 3) (.v (.sl xs))) (some 4) (.v (.bool o.isNone))) ⟨s.σ.nx + 2, s.σ.ent⟩ a' w' ι' → Q .normal a' w') :
  (Code.region 1 (Z2H t b) false).wp X.P Q a s.w := by
 refine (wpIn_wide (n := 0)).1 (wpIn_region ?_)
 have hi' := Z4I hi 2
 have he' := he.mono (Z1O (s := s) 2)
 have hG' := hG.mono (Z1O (s := s) 2)
 have st : Z0G X (Zu X) 8 (Z2H t b) s.σ.nx 0 { dst := some 3, op := .move (.tmp 0), type := t, pos := "slices.go:357", after := #[], guard := none } e (s.more 2).σ = some (putD 8 e (some 3) (.v (.sl xs)), (s.more 2).σ) := by
  simp only [Z0G, Zg, Z4, Z0, h0, Y8, Y0]
 have first := stepO_ok (m := 0) (Q := Q) (rd := none) (s := s.more 2) (a := a) (callL_ok hX) hG' hi' he' (hi.nx _ (by omega)) (by simp only [St.more]; omega) st (K := wpOpsIn (Fw none) 0 X.P (Z2H t b) Q [1]) ?_
 ·have h0' : (Z2H t b)[0]? = some { dst := some 3, op := .move (.tmp 0), type := t, pos := "slices.go:357", after := #[], guard := none } := rfl
  have hr : List.range (Z2H t b).size = [0, 1] := rfl
  rw [hr];simp only [wpOpsIn, h0'];exact first
 ·intro a1 w1 ι1 ht;have hn := ht.env
  have hw : Region.wanted ⟨some 4, .binOp .eql t (.tmp 3) (.const (.slice none 0 0)) t, b, "slices.go:357", #[{ on := 0, ground := .data }], none⟩ (yielded (Z2H t b) a1.tmps) = true := rfl
  have h1' : (Z2H t b)[1]? = some ⟨some 4, .binOp .eql t (.tmp 3) (.const (.slice none 0 0)) t, b, "slices.go:357", #[{ on := 0, ground := .data }], none⟩ := rfl
  simp only [wpOpsIn, h1'];rw [if_pos hw];have hp : PVR ⟨w1, (s.more 2).Y, (s.more 2).σ, ι1⟩ (.v (.sl xs)) (a1.eval (.tmp 3)) := by
   refine Z3 (X := X) (hG.mono ((Z1O (s := s) 2).trans ht.ev)) hn ?_
   simp [Z0, putD, upd]
  obtain ⟨o, cap, hv, hcap, hf⟩ := sl_inv hp
  have hs : ∀ o4 : Oper, o4 = ⟨some 4, .binOp .eql t (.tmp 3) (.const (.slice none 0 0)) t, b, "slices.go:357", #[{ on := 0, ground := .data }], none⟩ → o4.uponIn (Fw none) 0 X.P a1 (Z49 ⟨w1, (s.more 2).Y, (s.more 2).σ, ι1⟩ a1 (some 4) (.v (.bool o.isNone)) (s.more 2).σ) Q ((o4.semAt (Fw none).round a1.eval).run X.P w1) := by
   intro o4 ho4;have hop : o4.op = .binOp .eql t (.tmp 3) (.const (.slice none 0 0)) t := by rw [ho4]
   have hd4 : o4.dst = some 4 := by rw [ho4]
   rw [Oper.semAt_eq _ _ _ (by intro c hc; rw [hop] at hc; cases hc)]
   simp only [execOp, hop];rw [← hd4];refine Z0t (s := ⟨w1, (s.more 2).Y, (s.more 2).σ, ι1⟩) ht.inv ?_
   rw [hv];have hg : (eqGuard .eql t (.tmp 3) (.const (.slice none 0 0)) (.slice o xs.length cap) (.slice none 0 0)).run X.P w1 = .ok () w1 := by simp [eqGuard]
   refine ⟨.bool o.isNone, ?_, .v (.bool _)⟩
   show (do eqGuard .eql t (.tmp 3) (.const (.slice none 0 0)) (.slice o xs.length cap) (.slice none 0 0); binOp .eql t (.slice o xs.length cap) (.slice none 0 0) : Sem Value).run X.P w1 = _
   simp only [Sem.run_bind, hg, Result.andThen_ok];exact (Z2o (eqNil 9999 (Z0c hT.ht) o xs.length cap w1) (.inr (.inr ⟨_, _, _, _, _, _, rfl, rfl⟩))).1
  refine Oper.wpIn_mono (K := Z49 ⟨w1, (s.more 2).Y, (s.more 2).σ, ι1⟩ a1 (some 4) (.v (.bool o.isNone)) (s.more 2).σ) (fun a' w' hh => ?_) ⟨fun _ _ => trivial, hs _ rfl⟩
  obtain ⟨v, rfl, ι', h2, h3, h4⟩ := hh
  refine hQ o _ w' ι' (fun ho => ?_) ⟨h2, ((Z1O (s := s) 2).trans ht.ev).trans h3, (hn.mono h3).put h4, (Z57 _ _ _).trans ht.defers⟩
  subst ho;generalize hz : Value.slice none xs.length cap = z at hf;cases hf with
  | nil => rfl
  | empty => rfl
  | sl => cases hz
theorem Z4R (hX : CtxOK X) {f : FuncId} {fu : Func} (hf : X.P.funcs[f]? = some fu) (hb : fu.body = some (cloneBody t b)) (hn : fu.ntmps = 8) (hr : fu.results = #[.tmp 2]) (hg : ∀ g, X.glob g = none)
  (hT : CloneT X.P t el sz by_ zs) {s : St} (hi : Inv s) {xs : List (List FV)} {v : Value} (hl : xs.all (fun y => y.length == sz) = true) (hroom : xs.length * by_ ≤ room) (hv : PVR s (.v (.sl xs)) v) :
  Calls X.P f #[v] s.w fun en w' => ∃ v', en = .returned v' ∧ Post s (.v (.sl xs)) s.σ v' w' := by
 have hv1 : PVRs s.under [.v (.sl xs)] #[v] := ⟨rfl, fun i x hx => by
  cases i with
  | zero => cases hx; exact Z64 rfl hv
  | succ i => simp at hx⟩
 have hiu := under_inv hi
 have he := env_of (s := s.under) (k := 8) hv1
 have hG : ∀ s, Z0A X s := fun s g cells h => by rw [hg] at h; cases h
 refine (callsIn_wide (n := 0)).1 (callsIn_of_wp_marks hf hb trivial ?_ rfl)
 rw [hn]
 refine wpIn_wide.2 ?_
 have fin : ∀ e σ a' w ι (σ3 : Heap), Aft s.under 8 { tmps := #[v] ++ Array.replicate (8 - (#[v] : Array Value).size) undef, defers := [] } e σ a' w ι → Z0e σ (e 2) = some (.v (.sl xs), σ3) →
   bodyPostM Fence.wide 0 X.P fu (fun en w' => ∃ v', en = .returned v' ∧ Post s (.v (.sl xs)) s.σ v' w') .ret a' w := by
  intro e σ a' w ι σ3 ht h4;refine leaves_ok (X := X) (fu := fu) (xs := [e 2]) rfl ht (by rw [hr]; rfl) fun v w' hp => ⟨v, rfl, ?_⟩
  exact Z7d hi hp h4
 refine wp_seq ?_
 refine wp_mono (code_wp (X := X) (s := s.under) hX (fn := f) (hG _) hiu he (Q := fun ex e' σ' => ex = .normal ∧ e' 0 = .v (.sl xs)) ?_) ?_
 ·show Runs X 8 f (Code.region 0 (List.toArray [_]) false) _ ⟨0, fun _ => .none⟩ _
  refine Runs.region rfl ?_;refine Ops.assign (v := .nils) rfl rfl ?_
  exact Ops.nil ⟨rfl, rfl⟩
 rintro ex a1 w1 ⟨x1, e1, σ1, ι1, ⟨rfl, k0⟩, rfl, ht1⟩
 simp only [Ex.out, Exit.then]
 refine wp_seq (wp_seq ?_)
 refine cloneOps_wp (s := ⟨w1, s.under.Y, σ1, ι1⟩) hX (hG _) ht1.inv ht1.env hT k0 ?_
 intro o a2 w2 ι2 ho ht2
 have ht12 := ht1.trans ht2.aft
 simp only [Exit.then]
 generalize he2 : putD 8 (putD 8 e1 (some 3) (.v (.sl xs))) (some 4) (.v (.bool o.isNone)) = e2 at ht2 ht12
 have q0 : e2 0 = .v (.sl xs) := by rw [← he2]; simpa [putD, upd] using k0
 have q4 : e2 4 = .v (.bool o.isNone) := by rw [← he2]; simp [putD, upd]
 refine wp_mono (code_wp (X := X) (s := ⟨w2, s.under.Y, ⟨σ1.nx + 2, σ1.ent⟩, ι2⟩) hX (fn := f) (hG _) ht2.inv ht2.env (Q := fun ex e' σ' => (xs = [] ∧ ex = .ret ∧ e' 2 = .nils) ∨ (ex = .normal ∧ e' 0 = .v (.sl xs))) ?_) ?_
 ·cases o with
  | none =>
   refine Runs.yes (by simp only [Z0, q4]; rfl) ?_
   refine Runs.then ?_;refine Runs.region (l := [_]) rfl ?_
   refine Ops.assign (v := .nils) rfl rfl ?_
   refine Ops.nil ?_;refine Runs.ret ?_;exact .inl ⟨ho rfl, rfl, rfl⟩
  | some o =>
   refine Runs.no (by simp only [Z0, q4]; rfl) ?_
   exact Runs.skip (.inr ⟨rfl, q0⟩)
 rintro ex a3 w3 ⟨x3, e3, σ3, ι3, hq, rfl, ht3⟩
 have ht13 := ht12.trans ht3
 rcases hq with ⟨rfl, rfl, k2⟩ | ⟨rfl, k3⟩
 ·simp only [Ex.out, Exit.then];exact fin e3 σ3 a3 w3 ι3 σ3 ht13 (by rw [k2]; rfl)
 ·simp only [Ex.out, Exit.then];refine wp_mono (code_wp (X := X) (s := ⟨w3, s.under.Y, σ3, ι3⟩) hX (fn := f) (hG _) ht3.inv ht3.env (cloneD_runs hT hl hroom k3)) ?_
  rintro ex a4 w4 ⟨x4, e4, σ4, ι4, ⟨rfl, lo, hi4, L, k, H4, hk⟩, rfl, ht4⟩;obtain ⟨σ5, q, _⟩ := expR_ok H4 (ExpR.one (.c (.s k hk)))
  exact fin e4 σ4 a4 w4 ι4 σ5 (ht13.trans ht4) q
end Go.Dn
