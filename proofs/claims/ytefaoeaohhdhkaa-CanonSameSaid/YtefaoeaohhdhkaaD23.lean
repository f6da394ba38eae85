/- What a law is handed: from the model's reading of an argument to the interpreter's values. -/
import Derived.Test.YtefaoeaohhdhkaaD22
import Derived.Test.YtefaoeaohhdhkaaD19
import Derived.Below
import Derived.ChangeArms
import Derived.ChangeOld
import Derived.SizedLaws
set_option linter.unusedVariables false
set_option linter.unusedSimpArgs false
namespace Go.Dn
open Go Go.ChangeShapes

/-- Fields that lie one behind the other, from a place on. -/
def consec (P : Program) : Nat → List Field → Option Nat
  | o, [] => some o
  | o, f :: fs => if f.offset = o then consec P (o + P.cellsOf f.type) fs else none

/-- Types of numbers, bools, texts, slices and structs. -/
def supp (P : Program) : Nat → TypeId → Bool
  | 0, _ => false
  | d + 1, t =>
    match P.underlying t with
    | some .bool => P.cellsOf t == 1
    | some (.int _) => P.cellsOf t == 1
    | some .string => P.cellsOf t == 1
    | some (.slice e) => P.cellsOf t == 1 && P.cellsOf e != 0 && supp P d e
    | some (.struct fs) => fs.toList.all (fun f => supp P d f.type) && (consec P 0 fs.toList == some (P.cellsOf t))
    | _ => false

/-- Values of a type. -/
def OKC (P : Program) : Nat → TypeId → List FV → Prop
  | 0, _, _ => False
  | d + 1, t, ys =>
    match P.underlying t with
    | some .bool => ∃ b, ys = [.bool b]
    | some (.int k) => ∃ m, ys = [.int k m] ∧ (Lit.int k m).wf = true
    | some .string => ∃ s, ys = [.str s] ∧ s.size ≤ maxLen
    | some (.slice e) => ∃ xs, ys = [.sl xs] ∧ xs.length * P.bytesOf e ≤ reachBytes ∧ ∀ x ∈ xs, OKC P d e x
    | some (.struct fs) => ys.length = P.cellsOf t ∧ ∀ f ∈ fs.toList, OKC P d f.type ((ys.drop f.offset).take (P.cellsOf f.type))
    | _ => False

section
variable {H : Type} {enc : TypeId × Value → H} {P : Program} {w : World} {base : Nat} {spare : Nat → Bool} {held : Bool} {Im : Nat → Prop}

def Cov (w : World) (Im : Nat → Prop) (ys : List FV) (cs : List Value) : Prop := ys.length = cs.length ∧ ∀ (i : Nat) (y : FV) (v : Value), ys[i]? = some y → cs[i]? = some v → FVR w Im y v

theorem Cov.one {y : FV} {v : Value} (h : FVR w Im y v) : Cov w Im [y] [v] := ⟨rfl, fun i y' v' hy hv => by
  cases i with
  | zero => cases hy; cases hv; exact h
  | succ i => simp at hy⟩

theorem consec_le : ∀ {fs : List Field} {o m : Nat}, consec P o fs = some m → o ≤ m
  | [], o, m, h => by simp [consec] at h; omega
  | f :: fs, o, m, h => by
    simp only [consec] at h
    split at h
    · have := consec_le h; omega
    · cases h

theorem fields_ok {d n : Nat} {cs : List Value} (ih : ∀ (t : TypeId) (cs : List Value) (x : DataW H × List MemPlace), supp P d t = true → DataW.trod enc P w base spare held n t cs = some x → (∀ p ∈ x.2, Im p.block) → (∀ n ∈ x.1.weights P t, n ≤ reachBytes) → ∃ ys, Cov w Im ys cs ∧ OKC P d t ys) :
    ∀ (fs : List Field) (o m : Nat), consec P o fs = some m → m ≤ cs.length → (∀ f ∈ fs, supp P d f.type = true) →
      (∀ f ∈ fs, ∃ x, DataW.trod enc P w base spare held n f.type ((cs.drop f.offset).take (P.cellsOf f.type)) = some x ∧ (∀ p ∈ x.2, Im p.block) ∧ ∀ n ∈ x.1.weights P f.type, n ≤ reachBytes) →
      ∃ ys, Cov w Im ys ((cs.drop o).take (m - o)) ∧ ∀ f ∈ fs, o ≤ f.offset ∧ OKC P d f.type ((ys.drop (f.offset - o)).take (P.cellsOf f.type))
  | [], o, m, hc, hm, _, _ => by
    simp [consec] at hc
    subst hc
    exact ⟨[], ⟨by simp, by simp⟩, by simp⟩
  | f :: fs, o, m, hc, hm, hs, hx => by
    simp only [consec] at hc
    split at hc
    · rename_i ho
      subst ho
      obtain ⟨x, hx1, hx2, hx3⟩ := hx f List.mem_cons_self
      obtain ⟨ys, ⟨hl, hv⟩, hok⟩ := ih f.type _ x (hs f List.mem_cons_self) hx1 hx2 hx3
      have hle := consec_le hc
      obtain ⟨zs, ⟨hl2, hv2⟩, hok2⟩ := fields_ok ih fs _ m hc hm (fun g hg => hs g (List.mem_cons_of_mem _ hg)) (fun g hg => hx g (List.mem_cons_of_mem _ hg))
      simp only [List.length_take, List.length_drop] at hl hl2
      have hy : ys.length = P.cellsOf f.type := by omega
      refine ⟨ys ++ zs, ⟨by simp only [List.length_append, List.length_take, List.length_drop]; omega, fun i y v h1 h2 => ?_⟩, fun g hg => ?_⟩
      · by_cases hi : i < ys.length
        · rw [List.getElem?_append_left hi] at h1
          refine hv i y v h1 ?_
          rw [List.getElem?_take] at h2 ⊢
          rw [if_pos (by omega)] at h2 ⊢
          exact h2
        · rw [List.getElem?_append_right (by omega)] at h1
          have hi2 : i - ys.length < zs.length := by
            rcases Nat.lt_or_ge (i - ys.length) zs.length with h | h
            · exact h
            · rw [List.getElem?_eq_none h] at h1; cases h1
          refine hv2 (i - ys.length) y v h1 ?_
          rw [List.getElem?_take, List.getElem?_drop] at h2 ⊢
          rw [if_pos (by omega)] at h2 ⊢
          rw [← h2]
          congr 1; omega
      · rcases List.mem_cons.1 hg with rfl | hg
        · refine ⟨Nat.le_refl _, ?_⟩
          rw [Nat.sub_self, List.drop_zero, List.take_append_of_le_length (by omega), List.take_of_length_le (by omega)]
          exact hok
        · obtain ⟨h1, h2⟩ := hok2 g hg
          refine ⟨by omega, ?_⟩
          have : (ys ++ zs).drop (g.offset - f.offset) = zs.drop (g.offset - (f.offset + P.cellsOf f.type)) := by
            rw [List.drop_append, List.drop_eq_nil_of_le (by omega), List.nil_append]
            congr 1; omega
          rw [this]
          exact h2
    · cases hc

theorem weights_all {e : TypeId} : ∀ {ds : List (DataW H)} {d : DataW H}, d ∈ ds → ∀ n ∈ d.weights P e, n ∈ DataW.weightsAll P e ds
  | d0 :: ds, d, h, n, hn => by
    simp only [DataW.weightsAll, List.mem_append]
    rcases List.mem_cons.1 h with rfl | h
    · exact .inl hn
    · exact .inr (weights_all h n hn)

/-- All that is met is small enough. -/
def Sized (P : Program) (t : TypeId) (d : DataW H) : Prop := ∀ n ∈ d.weights P t, n ≤ reachBytes

theorem OKC.length : ∀ {d : Nat} {t : TypeId} {ys : List FV}, supp P d t = true → OKC P d t ys → ys.length = P.cellsOf t
  | 0, t, ys, h, _ => by simp [supp] at h
  | d + 1, t, ys, h, ho => by
    unfold supp at h
    unfold OKC at ho
    split at h
    all_goals (rename_i hu; simp only [hu] at ho)
    · obtain ⟨b, rfl⟩ := ho; simp at h; simp [h]
    · obtain ⟨b, rfl, _⟩ := ho; simp at h; simp [h]
    · obtain ⟨b, rfl, _⟩ := ho; simp at h; simp [h]
    · obtain ⟨b, rfl, _⟩ := ho; simp at h; simp [h]
    · exact ho.1

/-- **What is read of an argument.** -/
theorem trod_ok : ∀ (d n : Nat) (t : TypeId) (cs : List Value) (x : DataW H × List MemPlace), supp P d t = true → DataW.trod enc P w base spare held n t cs = some x → (∀ p ∈ x.2, Im p.block) → (∀ n ∈ x.1.weights P t, n ≤ reachBytes) → ∃ ys, Cov w Im ys cs ∧ OKC P d t ys
  | 0, n, t, cs, x, hs, h, hp, hw => by simp [supp] at hs
  | d + 1, n, t, cs, x, hs, h, hp, hw => by
    unfold supp at hs
    split at hs
    · rename_i hu
      cases n with
      | zero => simp [DataW.trod] at h
      | succ n =>
        simp only [DataW.trod, hu] at h
        split at h <;> simp_all
        rename_i b
        exact ⟨[.bool b], Cov.one (.bool b), by simp [OKC, hu]⟩
    · rename_i k hu
      cases n with
      | zero => simp [DataW.trod] at h
      | succ n =>
        simp only [DataW.trod, hu] at h
        split at h <;> try (simp_all; done)
        rename_i k2 m he1 
        simp only [Option.some.injEq, TypeDesc.int.injEq] at he1
        subst he1
        split at h
        · rename_i k' n' hk
          obtain ⟨rfl, hwf⟩ := hk
          exact ⟨[.int _ _], Cov.one (.int _ _), by simp [OKC, hu, hwf]⟩
        · cases h
    · rename_i hu
      cases n with
      | zero => simp [DataW.trod] at h
      | succ n =>
        simp only [DataW.trod, hu] at h
        split at h <;> try (simp_all; done)
        split at h
        · rename_i s hk
          exact ⟨[.str _], Cov.one (.str _), by simp [OKC, hu, hk]⟩
        · cases h
    · rename_i e hu
      simp only [Bool.and_eq_true, beq_iff_eq, bne_iff_ne, ne_eq] at hs
      rcases DataW.trod_slice hu h with ⟨rfl, rfl⟩ | ⟨a, len, cap, elems, rest, m, rfl, rfl, rfl, hb, hl, hm, hlen, hel, hsp, hns⟩
      · exact ⟨[.sl []], Cov.one .nil, by simp [OKC, hu]⟩
      · by_cases h0 : len = 0
        · subst h0
          exact ⟨[.sl []], Cov.one (.empty a cap), by simp [OKC, hu]⟩
        · have each : ∀ i, i < len → ∃ cs' ys, w.cells? base (a.add (i * P.cellsOf e)) (P.cellsOf e) = some cs' ∧ Cov w Im ys cs' ∧ OKC P d e ys := by
            intro i hi
            have h1 := hel i hi
            obtain ⟨y, hy⟩ : ∃ y, elems[i]? = some y := ⟨_, List.getElem?_eq_getElem (by omega)⟩
            rw [hy, Option.bind_eq_some_iff] at h1
            obtain ⟨cs', hcs, ht⟩ := h1
            obtain ⟨ys, h2, h3⟩ := trod_ok d m e cs' y hs.2 ht (fun p hpm => hp p (by
              refine List.mem_append_right _ (List.mem_flatMap.2 ⟨y, List.mem_append_left _ (List.mem_of_getElem? hy), hpm⟩))) (fun n hn => hw n (by
              simp only [DataW.weights, hu, List.mem_cons, List.mem_append]
              exact .inr (.inl (weights_all (List.mem_map.2 ⟨y, List.mem_of_getElem? hy, rfl⟩) n hn))))
            exact ⟨cs', ys, hcs, h2, h3⟩
          let F : Nat → List FV := fun i => if hi : i < len then (each i hi).choose_spec.choose else []
          let C : Nat → List Value := fun i => if hi : i < len then (each i hi).choose else []
          have hF : ∀ i, i < len → w.cells? base (a.add (i * P.cellsOf e)) (P.cellsOf e) = some (C i) ∧ Cov w Im (F i) (C i) ∧ OKC P d e (F i) := by
            intro i hi
            simp only [F, C, dif_pos hi]
            exact (each i hi).choose_spec.choose_spec
          have hFl : ∀ i, i < len → (F i).length = P.cellsOf e := fun i hi => OKC.length hs.2 (hF i hi).2.2
          have hxs : ∀ y ∈ (List.range len).map F, ∃ i, i < len ∧ y = F i := fun y hy => by
            obtain ⟨i, hi, rfl⟩ := List.mem_map.1 hy
            exact ⟨i, List.mem_range.1 hi, rfl⟩
          refine ⟨[.sl ((List.range len).map F)], Cov.one ?_, ?_⟩
          · by_cases hz : P.cellsOf e = 0
            · exact absurd hz hs.1.2
            · have hsp0 : a.spot = none := by
                have h1 := (World.cells?_some (hF 0 (by omega)).1).2.2 0 (by omega)
                have hl0 := (World.cells?_some (hF 0 (by omega)).1).2.1
                simp only [Nat.zero_mul, Addr.add, if_true] at h1
                unfold World.cell? at h1
                split at h1
                · split at h1
                  · have : (C 0)[0]? = none := h1.symm
                    rw [List.getElem?_eq_none_iff] at this
                    omega
                  · rename_i hq; simpa using hq
                · have : (C 0)[0]? = none := h1.symm
                  rw [List.getElem?_eq_none_iff] at this
                  omega
              obtain ⟨bl, off, spot⟩ := a
              simp only at hsp0
              subst hsp0
              have hcov := FVR.sl (w := w) (Imm := Im) ((List.range len).map F) bl off cap (P.cellsOf e) (fun i j => (C i).getD j Go.undef) ?_ (by simpa using hl) (fun y hy => by
                obtain ⟨i, hi, rfl⟩ := hxs y hy; exact hFl i hi) (fun i j hi hj => ?_) (fun i j y x h1 h2 => ?_)
              · simpa using hcov
              · refine hp (.cell bl (off + 0)) (List.mem_append_left _ ?_)
                simp only [MemPlace.row, List.mem_map, List.mem_range]
                refine ⟨0, ?_, rfl⟩
                exact Nat.mul_pos (by omega) (by omega)
              · simp only [List.length_map, List.length_range] at hi
                have h1 := (World.cells?_some (hF i hi).1).2.2 j hj
                have hl0 := (World.cells?_some (hF i hi).1).2.1
                have e1 : (Addr.add (Addr.add ⟨bl, off, none⟩ (i * P.cellsOf e)) j) = ⟨bl, off + i * P.cellsOf e + j, none⟩ := by
                  simp only [addr_add]
                rw [e1] at h1
                rw [h1, List.getElem?_eq_getElem (by omega)]
                simp [List.getD, List.getElem?_eq_getElem (show j < (C i).length by omega)]
              · rw [List.getElem?_map, Option.map_eq_some_iff] at h1
                obtain ⟨i', hi', rfl⟩ := h1
                have hi2 := List.mem_range.1 (List.mem_of_getElem? hi')
                have : i' = i := by
                  rw [List.getElem?_eq_some_iff] at hi'
                  obtain ⟨q1, q2⟩ := hi'
                  simpa using q2.symm
                subst this
                have hj : j < (C i').length := by
                  rw [← (hF i' hi2).2.1.1]; exact (List.getElem?_eq_some_iff.1 h2).1
                refine (hF i' hi2).2.1.2 j x _ h2 ?_
                rw [List.getElem?_eq_getElem hj]
                simp [List.getD, List.getElem?_eq_getElem hj]
          · simp only [OKC, hu]
            refine ⟨_, rfl, ?_, fun y hy => ?_⟩
            · have h1 := hw ((elems.length + rest.length) * P.bytesOf e) (by simp [DataW.weights, hu])
              refine Nat.le_trans (Nat.mul_le_mul_right _ ?_) h1
              simp; omega
            obtain ⟨i, hi, rfl⟩ := hxs y hy
            exact (hF i hi).2.2
    · rename_i fs hu
      simp only [Bool.and_eq_true, beq_iff_eq, List.all_eq_true] at hs
      obtain ⟨xs, m, rfl, rfl, hl, hx, hf⟩ := DataW.trod_struct hu h
      obtain ⟨ys, hc, ho⟩ := fields_ok (cs := cs) (fun t cs x h1 h2 h3 h4 => trod_ok d m t cs x h1 h2 h3 h4) fs.toList 0 (P.cellsOf t) hs.2 (by omega) hs.1 (fun f hfm => by
        obtain ⟨i, hi⟩ := List.getElem?_of_mem hfm
        have hi' : fs[i]? = some f := by simpa using hi
        have h1 := hf i f hi'
        have hlt : i < xs.length := by
          have := (Array.getElem?_eq_some_iff.1 hi').1
          omega
        rw [List.getElem?_eq_getElem hlt] at h1
        exact ⟨_, h1, fun p hpm => hp p (List.mem_flatMap.2 ⟨_, List.getElem_mem hlt, hpm⟩), fun n hn => hw n (by
          simp only [DataW.weights, hu]
          exact DataW.weights_mem_each (j := i) (t := f.type) (d := (xs[i]).1) (by simp [hi]) (by simp [hlt]) n hn)⟩)
      rw [List.drop_zero, Nat.sub_zero, List.take_of_length_le (by omega)] at hc
      refine ⟨ys, hc, ?_⟩
      simp only [OKC, hu]
      exact ⟨hc.1.trans hl, fun f hfm => by simpa using (ho f hfm).2⟩
    · cases hs
end

/-! ### What the arguments are -/
def okI (k : IntKind) (x : Int) : Prop := k.min ≤ x ∧ x ≤ k.max
def okB (_ : Bool) : Prop := True
def okS (x : ByteArray) : Prop := x.size ≤ maxLen
def okL {α : Type} (b : Nat) (p : α → Prop) (xs : List α) : Prop := xs.length * b ≤ reachBytes ∧ ∀ x ∈ xs, p x
def Dec (P : Program) {α : Type} (t : TypeId) (c : α → List FV) (ok : α → Prop) : Prop := ∀ d ys, OKC P d t ys → ∃ x, ys = c x ∧ ok x

section
variable {P : Program} {t e : TypeId}
theorem Dec.int {k : IntKind} (h : P.underlying t = some (.int k)) : Dec P t (cI k) (okI k) := fun d ys ho => by
  cases d with
  | zero => exact ho.elim
  | succ d =>
    simp only [OKC, h] at ho
    obtain ⟨m, rfl, hw⟩ := ho
    exact ⟨m, rfl, by simpa [Lit.wf, okI] using hw⟩
theorem Dec.bool (h : P.underlying t = some .bool) : Dec P t cB okB := fun d ys ho => by
  cases d with
  | zero => exact ho.elim
  | succ d =>
    simp only [OKC, h] at ho
    obtain ⟨m, rfl⟩ := ho
    exact ⟨m, rfl, trivial⟩
theorem Dec.str (h : P.underlying t = some .string) : Dec P t cS okS := fun d ys ho => by
  cases d with
  | zero => exact ho.elim
  | succ d =>
    simp only [OKC, h] at ho
    obtain ⟨m, rfl, hw⟩ := ho
    exact ⟨m, rfl, hw⟩
theorem Dec.sl {α : Type} {c : α → List FV} {ok : α → Prop} {b : Nat} (h : P.underlying t = some (.slice e)) (hb : P.bytesOf e = b) (he : Dec P e c ok) : Dec P t (cL c) (okL b ok) := fun d ys ho => by
  cases d with
  | zero => exact ho.elim
  | succ d =>
    simp only [OKC, h] at ho
    obtain ⟨xs, rfl, hl, hx⟩ := ho
    have : ∀ xs : List (List FV), (∀ x ∈ xs, OKC P d e x) → ∃ as : List α, xs = as.map c ∧ ∀ a ∈ as, ok a := by
      intro xs
      induction xs with
      | nil => intro _; exact ⟨[], rfl, by simp⟩
      | cons x xs ih =>
        intro hx
        obtain ⟨a, rfl, ha⟩ := he d x (hx x List.mem_cons_self)
        obtain ⟨as, rfl, has⟩ := ih fun y hy => hx y (List.mem_cons_of_mem _ hy)
        exact ⟨a :: as, rfl, fun b hb => by
          rcases List.mem_cons.1 hb with rfl | hb
          · exact ha
          · exact has b hb⟩
    obtain ⟨as, rfl, has⟩ := this xs hx
    exact ⟨as, rfl, by subst hb; simpa using hl, has⟩

theorem fld (ys : List FV) (o s : Nat) : (ys.drop o).take s ++ ys.drop (o + s) = ys.drop o := by
  rw [← List.drop_drop]; exact List.take_append_drop s (ys.drop o)
theorem fld_nil {ys : List FV} {n : Nat} (h : ys.length = n) : ys.drop n = [] := List.drop_eq_nil_of_le (by omega)
end

theorem pvr_agg {P : Program} {t : TypeId} {W : World} {base : Nat} {v : Value} {s : St} {ys : List FV} {fs : Array Field} (hu : P.underlying t = some (.struct fs)) (hval : Value.okWide P W .any base t v) (hs : s.w = W) (hc : Cov W s.imm ys v.cells.toList) : PVR s (.agg (vs ys)) v := by
  unfold Value.okWide at hval
  rw [hu] at hval
  obtain ⟨cs, rfl, _, _⟩ := hval
  obtain ⟨hl, hc⟩ := hc
  subst hs
  simp only [Value.cells, Array.length_toList] at hl hc
  have each : ∀ (i : Nat) (u : Value), cs[i]? = some u → ∃ y, ys[i]? = some y ∧ FVR s.w s.imm y u := fun i u hu => by
    have hi := (Array.getElem?_eq_some_iff.1 hu).1
    exact ⟨ys[i], List.getElem?_eq_getElem (by omega), hc i _ u (List.getElem?_eq_getElem (by omega)) (by simpa using hu)⟩
  refine .agg (by rw [vs_length]; exact hl) (fun i x hx => ?_) (fun i u hu => (each i u hu).choose_spec.2.oneCell)
  rw [vs_get, Option.map_eq_some_iff] at hx
  obtain ⟨y, hy, rfl⟩ := hx
  have hi := (List.getElem?_eq_some_iff.1 hy).1
  refine .v (hc i y _ hy ?_)
  rw [Array.getElem?_toList, Array.getElem?_eq_getElem (by omega), Array.getD_eq_getD_getElem?, Array.getElem?_eq_getElem (by omega)]
  rfl

theorem pvr_one {P : Program} {t : TypeId} {W : World} {base : Nat} {v : Value} {s : St} {y : FV} (hu : (match P.underlying t with | some .bool | some (.int _) | some .string | some (.slice _) => true | _ => false) = true) (hval : Value.okWide P W .any base t v) (hs : s.w = W) (hc : Cov W s.imm [y] v.cells.toList) : PVR s (.v y) v := by
  subst hs
  have hv : v.cells.toList = [v] := by
    unfold Value.okWide Cell.okWide Cell.ok at hval
    split at hu
    all_goals (first | (rename_i h1; rw [h1] at hval) | skip)
    · cases v <;> first | rfl | exact hval.elim
    · cases v <;> first | rfl | exact hval.elim
    · cases v <;> first | rfl | exact hval.elim
    · cases v <;> first | rfl | exact hval.elim
    · cases hu
  rw [hv] at hc
  exact .v (hc.2 0 y v rfl rfl)

end Go.Dn
