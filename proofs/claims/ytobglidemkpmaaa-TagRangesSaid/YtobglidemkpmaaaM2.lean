/- Part 2 of what the row stands on. -/
import Derived.Below
import Derived.ChangeArms
import Derived.ChangeOld
import Derived.SizedLaws
import Derived.KernelRfl
import Derived.Test.YtobglidemkpmaaaProg
import Derived.Test.YtobglidemkpmaaaM1
set_option linter.unusedVariables false
set_option linter.unusedSimpArgs false
namespace Go.Dn
open Go Go.ChangeShapes

def consec (P : Program) : Nat → List Field → Option Nat
 | o, [] => some o
 | o, f :: fs => if f.offset = o then consec P (o + P.cellsOf f.type) fs else none

def supp (P : Program) : Nat → TypeId → Bool
 | 0, _ => false
 | d + 1, t =>
  match P.underlying t with
  | some .bool => P.cellsOf t == 1
  | some (.int _) => P.cellsOf t == 1
  | some .string => P.cellsOf t == 1
  | some (.slice e) => P.cellsOf t == 1 && P.cellsOf e != 0 && supp P d e
  | some (.struct fs) => fs.toList.all (fun f => supp P d f.type) && (consec P 0 fs.toList == some (P.cellsOf t))
  | _ => false

def OKC (P : Program) : Nat → TypeId → List FV → Prop
 | 0, _, _ => False
 | d + 1, t, ys =>
  match P.underlying t with
  | some .bool => ∃ b, ys = [.bool b]
  | some (.int k) => ∃ m, ys = [.int k m] ∧ (Lit.int k m).wf = true
  | some .string => ∃ s, ys = [.str s] ∧ s.size ≤ maxLen
  | some (.slice e) => ∃ xs, ys = [.sl xs] ∧ xs.length * P.bytesOf e ≤ reachBytes ∧ ∀ x ∈ xs, OKC P d e x
  | some (.struct fs) => ys.length = P.cellsOf t ∧ ∀ f ∈ fs.toList, OKC P d f.type ((ys.drop f.offset).take (P.cellsOf f.type))
  | _ => False

section
variable {H : Type} {enc : TypeId × Value → H} {P : Program} {w : World} {base : Nat} {spare : Nat → Bool} {held : Bool} {Im : Nat → Prop}

def Cov (w : World) (Im : Nat → Prop) (ys : List FV) (cs : List Value) : Prop := ys.length = cs.length ∧ ∀ (i : Nat) (y : FV) (v : Value), ys[i]? = some y → cs[i]? = some v → FVR w Im y v

theorem Cov.one {y : FV} {v : Value} (h : FVR w Im y v) : Cov w Im [y] [v] := ⟨rfl, fun i y' v' hy hv => by
 cases i with
 | zero => cases hy; cases hv; exact h
 | succ i => simp at hy⟩

theorem consec_le : ∀ {fs : List Field} {o m : Nat}, consec P o fs = some m → o ≤ m
 | [], o, m, h => by simp [consec] at h; omega
 | f :: fs, o, m, h => by
  simp only [consec] at h
  split at h
  ·have := consec_le h; omega
  ·cases h

theorem fields_ok {d n : Nat} {cs : List Value} (ih : ∀ (t : TypeId) (cs : List Value) (x : DataW H × List MemPlace), supp P d t = true → DataW.trod enc P w base spare held n t cs = some x → (∀ p ∈ x.2, Im p.block) → (∀ n ∈ x.1.weights P t, n ≤ reachBytes) → ∃ ys, Cov w Im ys cs ∧ OKC P d t ys) :
  ∀ (fs : List Field) (o m : Nat), consec P o fs = some m → m ≤ cs.length → (∀ f ∈ fs, supp P d f.type = true) →
   (∀ f ∈ fs, ∃ x, DataW.trod enc P w base spare held n f.type ((cs.drop f.offset).take (P.cellsOf f.type)) = some x ∧ (∀ p ∈ x.2, Im p.block) ∧ ∀ n ∈ x.1.weights P f.type, n ≤ reachBytes) →
   ∃ ys, Cov w Im ys ((cs.drop o).take (m - o)) ∧ ∀ f ∈ fs, o ≤ f.offset ∧ OKC P d f.type ((ys.drop (f.offset - o)).take (P.cellsOf f.type))
 | [], o, m, hc, hm, _, _ => by
  simp [consec] at hc
  subst hc
  exact ⟨[], ⟨by simp, by simp⟩, by simp⟩
 | f :: fs, o, m, hc, hm, hs, hx => by
  simp only [consec] at hc
  split at hc
  ·rename_i ho
   subst ho
   obtain ⟨x, hx1, hx2, hx3⟩ := hx f List.mem_cons_self
   obtain ⟨ys, ⟨hl, hv⟩, hok⟩ := ih f.type _ x (hs f List.mem_cons_self) hx1 hx2 hx3
   have hle := consec_le hc
   obtain ⟨zs, ⟨hl2, hv2⟩, hok2⟩ := fields_ok ih fs _ m hc hm (fun g hg => hs g (List.mem_cons_of_mem _ hg)) (fun g hg => hx g (List.mem_cons_of_mem _ hg))
   simp only [List.length_take, List.length_drop] at hl hl2
   have hy : ys.length = P.cellsOf f.type := by omega
   refine ⟨ys ++ zs, ⟨by simp only [List.length_append, List.length_take, List.length_drop]; omega, fun i y v h1 h2 => ?_⟩, fun g hg => ?_⟩
   ·by_cases hi : i < ys.length
    ·rw [List.getElem?_append_left hi] at h1
     refine hv i y v h1 ?_
     rw [List.getElem?_take] at h2 ⊢
     rw [if_pos (by omega)] at h2 ⊢
     exact h2
    ·rw [List.getElem?_append_right (by omega)] at h1
     have hi2 : i - ys.length < zs.length := by
      rcases Nat.lt_or_ge (i - ys.length) zs.length with h | h
      ·exact h
      ·rw [List.getElem?_eq_none h] at h1; cases h1
     refine hv2 (i - ys.length) y v h1 ?_
     rw [List.getElem?_take, List.getElem?_drop] at h2 ⊢
     rw [if_pos (by omega)] at h2 ⊢
     rw [← h2]
     congr 1; omega
   ·rcases List.mem_cons.1 hg with rfl | hg
    ·refine ⟨Nat.le_refl _, ?_⟩
     rw [Nat.sub_self, List.drop_zero, List.take_append_of_le_length (by omega), List.take_of_length_le (by omega)]
     exact hok
    ·obtain ⟨h1, h2⟩ := hok2 g hg
     refine ⟨by omega, ?_⟩
     have : (ys ++ zs).drop (g.offset - f.offset) = zs.drop (g.offset - (f.offset + P.cellsOf f.type)) := by
      rw [List.drop_append, List.drop_eq_nil_of_le (by omega), List.nil_append]
      congr 1; omega
     rw [this]
     exact h2
  ·cases hc

theorem Z8a {e : TypeId} : ∀ {ds : List (DataW H)} {d : DataW H}, d ∈ ds → ∀ n ∈ d.weights P e, n ∈ DataW.weightsAll P e ds
 | d0 :: ds, d, h, n, hn => by
  simp only [DataW.weightsAll, List.mem_append]
  rcases List.mem_cons.1 h with rfl | h
  ·exact .inl hn
  ·exact .inr (Z8a h n hn)

def Sized (P : Program) (t : TypeId) (d : DataW H) : Prop := ∀ n ∈ d.weights P t, n ≤ reachBytes

theorem OKC.length : ∀ {d : Nat} {t : TypeId} {ys : List FV}, supp P d t = true → OKC P d t ys → ys.length = P.cellsOf t
 | 0, t, ys, h, _ => by simp [supp] at h
 | d + 1, t, ys, h, ho => by
  unfold supp at h
  unfold OKC at ho
  split at h
  all_goals (rename_i hu; simp only [hu] at ho)
  ·obtain ⟨b, rfl⟩ := ho; simp at h; simp [h]
  ·obtain ⟨b, rfl, _⟩ := ho; simp at h; simp [h]
  ·obtain ⟨b, rfl, _⟩ := ho; simp at h; simp [h]
  ·obtain ⟨b, rfl, _⟩ := ho; simp at h; simp [h]
  ·exact ho.1

theorem Z6J : ∀ (d n : Nat) (t : TypeId) (cs : List Value) (x : DataW H × List MemPlace), supp P d t = true → DataW.trod enc P w base spare held n t cs = some x → (∀ p ∈ x.2, Im p.block) → (∀ n ∈ x.1.weights P t, n ≤ reachBytes) → ∃ ys, Cov w Im ys cs ∧ OKC P d t ys
 | 0, n, t, cs, x, hs, h, hp, hw => by simp [supp] at hs
 | d + 1, n, t, cs, x, hs, h, hp, hw => by
  unfold supp at hs
  split at hs
  ·rename_i hu
   cases n with
   | zero => simp [DataW.trod] at h
   | succ n =>
    simp only [DataW.trod, hu] at h
    split at h <;> simp_all
    rename_i b
    exact ⟨[.bool b], Cov.one (.bool b), by simp [OKC, hu]⟩
  ·rename_i k hu
   cases n with
   | zero => simp [DataW.trod] at h
   | succ n =>
    simp only [DataW.trod, hu] at h
    split at h <;> try (simp_all; done)
    rename_i k2 m he1 
    simp only [Option.some.injEq, TypeDesc.int.injEq] at he1
    subst he1
    split at h
    ·rename_i k' n' hk
     obtain ⟨rfl, hwf⟩ := hk
     exact ⟨[.int _ _], Cov.one (.int _ _), by simp [OKC, hu, hwf]⟩
    ·cases h
  ·rename_i hu
   cases n with
   | zero => simp [DataW.trod] at h
   | succ n =>
    simp only [DataW.trod, hu] at h
    split at h <;> try (simp_all; done)
    split at h
    ·rename_i s hk
     exact ⟨[.str _], Cov.one (.str _), by simp [OKC, hu, hk]⟩
    ·cases h
  ·rename_i e hu
   simp only [Bool.and_eq_true, beq_iff_eq, bne_iff_ne, ne_eq] at hs
   rcases DataW.trod_slice hu h with ⟨rfl, rfl⟩ | ⟨a, len, cap, elems, rest, m, rfl, rfl, rfl, hb, hl, hm, hlen, hel, hsp, hns⟩
   ·exact ⟨[.sl []], Cov.one .nil, by simp [OKC, hu]⟩
   ·by_cases h0 : len = 0
    ·subst h0
     exact ⟨[.sl []], Cov.one (.empty a cap), by simp [OKC, hu]⟩
    ·have each : ∀ i, i < len → ∃ cs' ys, w.cells? base (a.add (i * P.cellsOf e)) (P.cellsOf e) = some cs' ∧ Cov w Im ys cs' ∧ OKC P d e ys := by
      intro i hi
      have h1 := hel i hi
      obtain ⟨y, hy⟩ : ∃ y, elems[i]? = some y := ⟨_, List.getElem?_eq_getElem (by omega)⟩
      rw [hy, Option.bind_eq_some_iff] at h1
      obtain ⟨cs', hcs, ht⟩ := h1
      obtain ⟨ys, h2, h3⟩ := Z6J d m e cs' y hs.2 ht (fun p hpm => hp p (by
       refine List.mem_append_right _ (List.mem_flatMap.2 ⟨y, List.mem_append_left _ (List.mem_of_getElem? hy), hpm⟩))) (fun n hn => hw n (by
       simp only [DataW.weights, hu, List.mem_cons, List.mem_append]
       exact .inr (.inl (Z8a (List.mem_map.2 ⟨y, List.mem_of_getElem? hy, rfl⟩) n hn))))
      exact ⟨cs', ys, hcs, h2, h3⟩
     let F : Nat → List FV := fun i => if hi : i < len then (each i hi).choose_spec.choose else []
     let C : Nat → List Value := fun i => if hi : i < len then (each i hi).choose else []
     have hF : ∀ i, i < len → w.cells? base (a.add (i * P.cellsOf e)) (P.cellsOf e) = some (C i) ∧ Cov w Im (F i) (C i) ∧ OKC P d e (F i) := by
      intro i hi
      simp only [F, C, dif_pos hi]
      exact (each i hi).choose_spec.choose_spec
     have hFl : ∀ i, i < len → (F i).length = P.cellsOf e := fun i hi => OKC.length hs.2 (hF i hi).2.2
     have hxs : ∀ y ∈ (List.range len).map F, ∃ i, i < len ∧ y = F i := fun y hy => by
      obtain ⟨i, hi, rfl⟩ := List.mem_map.1 hy
      exact ⟨i, List.mem_range.1 hi, rfl⟩
     refine ⟨[.sl ((List.range len).map F)], Cov.one ?_, ?_⟩
     ·by_cases hz : P.cellsOf e = 0
      ·exact absurd hz hs.1.2
      ·have hsp0 : a.spot = none := by
        have h1 := (World.cells?_some (hF 0 (by omega)).1).2.2 0 (by omega)
        have hl0 := (World.cells?_some (hF 0 (by omega)).1).2.1
        simp only [Nat.zero_mul, Addr.add, if_true] at h1
        unfold World.cell? at h1
        split at h1
        ·split at h1
         ·have : (C 0)[0]? = none := h1.symm
          rw [List.getElem?_eq_none_iff] at this
          omega
         ·rename_i hq; simpa using hq
        ·have : (C 0)[0]? = none := h1.symm
         rw [List.getElem?_eq_none_iff] at this
         omega
       obtain ⟨bl, off, spot⟩ := a
       simp only at hsp0
       subst hsp0
       have hcov := FVR.sl (w := w) (Imm := Im) ((List.range len).map F) bl off cap (P.cellsOf e) (fun i j => (C i).getD j Go.undef) ?_ (by simpa using hl) (fun y hy => by
        obtain ⟨i, hi, rfl⟩ := hxs y hy; exact hFl i hi) (fun i j hi hj => ?_) (fun i j y x h1 h2 => ?_)
       ·simpa using hcov
       ·refine hp (.cell bl (off + 0)) (List.mem_append_left _ ?_)
        simp only [MemPlace.row, List.mem_map, List.mem_range]
        refine ⟨0, ?_, rfl⟩
        exact Nat.mul_pos (by omega) (by omega)
       ·simp only [List.length_map, List.length_range] at hi
        have h1 := (World.cells?_some (hF i hi).1).2.2 j hj
        have hl0 := (World.cells?_some (hF i hi).1).2.1
        have e1 : (Addr.add (Addr.add ⟨bl, off, none⟩ (i * P.cellsOf e)) j) = ⟨bl, off + i * P.cellsOf e + j, none⟩ := by
         simp only [Z3d]
        rw [e1] at h1
        rw [h1, List.getElem?_eq_getElem (by omega)]
        simp [List.getD, List.getElem?_eq_getElem (show j < (C i).length by omega)]
       ·rw [List.getElem?_map, Option.map_eq_some_iff] at h1
        obtain ⟨i', hi', rfl⟩ := h1
        have hi2 := List.mem_range.1 (List.mem_of_getElem? hi')
        have : i' = i := by
         rw [List.getElem?_eq_some_iff] at hi'
         obtain ⟨q1, q2⟩ := hi'
         simpa using q2.symm
        subst this
        have hj : j < (C i').length := by
         rw [← (hF i' hi2).2.1.1]; exact (List.getElem?_eq_some_iff.1 h2).1
        refine (hF i' hi2).2.1.2 j x _ h2 ?_
        rw [List.getElem?_eq_getElem hj]
        simp [List.getD, List.getElem?_eq_getElem hj]
     ·simp only [OKC, hu]
      refine ⟨_, rfl, ?_, fun y hy => ?_⟩
      ·have h1 := hw ((elems.length + rest.length) * P.bytesOf e) (by simp [DataW.weights, hu])
       refine Nat.le_trans (Nat.mul_le_mul_right _ ?_) h1
       simp; omega
      obtain ⟨i, hi, rfl⟩ := hxs y hy
      exact (hF i hi).2.2
  ·rename_i fs hu
   simp only [Bool.and_eq_true, beq_iff_eq, List.all_eq_true] at hs
   obtain ⟨xs, m, rfl, rfl, hl, hx, hf⟩ := DataW.trod_struct hu h
   obtain ⟨ys, hc, ho⟩ := fields_ok (cs := cs) (fun t cs x h1 h2 h3 h4 => Z6J d m t cs x h1 h2 h3 h4) fs.toList 0 (P.cellsOf t) hs.2 (by omega) hs.1 (fun f hfm => by
    obtain ⟨i, hi⟩ := List.getElem?_of_mem hfm
    have hi' : fs[i]? = some f := by simpa using hi
    have h1 := hf i f hi'
    have hlt : i < xs.length := by
     have := (Array.getElem?_eq_some_iff.1 hi').1
     omega
    rw [List.getElem?_eq_getElem hlt] at h1
    exact ⟨_, h1, fun p hpm => hp p (List.mem_flatMap.2 ⟨_, List.getElem_mem hlt, hpm⟩), fun n hn => hw n (by
     simp only [DataW.weights, hu]
     exact DataW.weights_mem_each (j := i) (t := f.type) (d := (xs[i]).1) (by simp [hi]) (by simp [hlt]) n hn)⟩)
   rw [List.drop_zero, Nat.sub_zero, List.take_of_length_le (by omega)] at hc
   refine ⟨ys, hc, ?_⟩
   simp only [OKC, hu]
   exact ⟨hc.1.trans hl, fun f hfm => by simpa using (ho f hfm).2⟩
  ·cases hs
end

def okI (k : IntKind) (x : Int) : Prop := k.min ≤ x ∧ x ≤ k.max
def okB (_ : Bool) : Prop := True
def okS (x : ByteArray) : Prop := x.size ≤ maxLen
def okL {α : Type} (b : Nat) (p : α → Prop) (xs : List α) : Prop := xs.length * b ≤ reachBytes ∧ ∀ x ∈ xs, p x
def Dec (P : Program) {α : Type} (t : TypeId) (c : α → List FV) (ok : α → Prop) : Prop := ∀ d ys, OKC P d t ys → ∃ x, ys = c x ∧ ok x

section
variable {P : Program} {t e : TypeId}
theorem Dec.int {k : IntKind} (h : P.underlying t = some (.int k)) : Dec P t (cI k) (okI k) := fun d ys ho => by
 cases d with
 | zero => exact ho.elim
 | succ d =>
  simp only [OKC, h] at ho
  obtain ⟨m, rfl, hw⟩ := ho
  exact ⟨m, rfl, by simpa [Lit.wf, okI] using hw⟩
theorem Dec.bool (h : P.underlying t = some .bool) : Dec P t cB okB := fun d ys ho => by
 cases d with
 | zero => exact ho.elim
 | succ d =>
  simp only [OKC, h] at ho
  obtain ⟨m, rfl⟩ := ho
  exact ⟨m, rfl, trivial⟩
theorem Dec.str (h : P.underlying t = some .string) : Dec P t cS okS := fun d ys ho => by
 cases d with
 | zero => exact ho.elim
 | succ d =>
  simp only [OKC, h] at ho
  obtain ⟨m, rfl, hw⟩ := ho
  exact ⟨m, rfl, hw⟩
theorem Dec.sl {α : Type} {c : α → List FV} {ok : α → Prop} {b : Nat} (h : P.underlying t = some (.slice e)) (hb : P.bytesOf e = b) (he : Dec P e c ok) : Dec P t (cL c) (okL b ok) := fun d ys ho => by
 cases d with
 | zero => exact ho.elim
 | succ d =>
  simp only [OKC, h] at ho
  obtain ⟨xs, rfl, hl, hx⟩ := ho
  have : ∀ xs : List (List FV), (∀ x ∈ xs, OKC P d e x) → ∃ as_ : List α, xs = as_.map c ∧ ∀ a ∈ as_, ok a := by
   intro xs
   induction xs with
   | nil => intro _; exact ⟨[], rfl, by simp⟩
   | cons x xs ih =>
    intro hx
    obtain ⟨a, rfl, ha⟩ := he d x (hx x List.mem_cons_self)
    obtain ⟨as_, rfl, has⟩ := ih fun y hy => hx y (List.mem_cons_of_mem _ hy)
    exact ⟨a :: as_, rfl, fun b hb => by
     rcases List.mem_cons.1 hb with rfl | hb
     ·exact ha
     ·exact has b hb⟩
  obtain ⟨as_, rfl, has⟩ := this xs hx
  exact ⟨as_, rfl, by subst hb; simpa using hl, has⟩

theorem fld (ys : List FV) (o s : Nat) : (ys.drop o).take s ++ ys.drop (o + s) = ys.drop o := by
 rw [← List.drop_drop]; exact List.take_append_drop s (ys.drop o)
theorem fld_nil {ys : List FV} {n : Nat} (h : ys.length = n) : ys.drop n = [] := List.drop_eq_nil_of_le (by omega)
end

theorem pvr_agg {P : Program} {t : TypeId} {W : World} {base : Nat} {v : Value} {s : St} {ys : List FV} {fs : Array Field} (hu : P.underlying t = some (.struct fs)) (hval : Value.okWide P W .any base t v) (hs : s.w = W) (hc : Cov W s.imm ys v.cells.toList) : PVR s (.agg (vs ys)) v := by
 unfold Value.okWide at hval
 rw [hu] at hval
 obtain ⟨cs, rfl, _, _⟩ := hval
 obtain ⟨hl, hc⟩ := hc
 subst hs
 simp only [Value.cells, Array.length_toList] at hl hc
 have each : ∀ (i : Nat) (u : Value), cs[i]? = some u → ∃ y, ys[i]? = some y ∧ FVR s.w s.imm y u := fun i u hu => by
  have hi := (Array.getElem?_eq_some_iff.1 hu).1
  exact ⟨ys[i], List.getElem?_eq_getElem (by omega), hc i _ u (List.getElem?_eq_getElem (by omega)) (by simpa using hu)⟩
 refine .agg (by rw [Z2j]; exact hl) (fun i x hx => ?_) (fun i u hu => (each i u hu).choose_spec.2.Z4Z)
 rw [vs_get, Option.map_eq_some_iff] at hx
 obtain ⟨y, hy, rfl⟩ := hx
 have hi := (List.getElem?_eq_some_iff.1 hy).1
 refine .v (hc i y _ hy ?_)
 rw [Array.getElem?_toList, Array.getElem?_eq_getElem (by omega), Array.getD_eq_getD_getElem?, Array.getElem?_eq_getElem (by omega)]
 rfl

theorem pvr_one {P : Program} {t : TypeId} {W : World} {base : Nat} {v : Value} {s : St} {y : FV} (hu : (match P.underlying t with | some .bool | some (.int _) | some .string | some (.slice _) => true | _ => false) = true) (hval : Value.okWide P W .any base t v) (hs : s.w = W) (hc : Cov W s.imm [y] v.cells.toList) : PVR s (.v y) v := by
 subst hs
 have hv : v.cells.toList = [v] := by
  unfold Value.okWide Cell.okWide Cell.ok at hval
  split at hu
  all_goals (first | (rename_i h1; rw [h1] at hval) | skip)
  ·cases v <;> first | rfl | exact hval.elim
  ·cases v <;> first | rfl | exact hval.elim
  ·cases v <;> first | rfl | exact hval.elim
  ·cases v <;> first | rfl | exact hval.elim
  ·cases hu
 rw [hv] at hc
 exact .v (hc.2 0 y v rfl rfl)

end Go.Dn

namespace Go.Dn
open Go

def cloneA (t b : TypeId) : Code := .region 0 #[{ dst := some 2, op := .assign (.const (.slice none 0 0)), type := t, pos := "slices.go:355", after := #[], guard := none }] false
def cloneOps (t b : TypeId) : Array Oper := #[{ dst := some 3, op := .move (.tmp 0), type := t, pos := "slices.go:357", after := #[], guard := none },
 { dst := some 4, op := .binOp .eql t (.tmp 3) (.const (.slice none 0 0)) t, type := b, pos := "slices.go:357", after := #[{ on := 0, ground := .data }], guard := none }]
def cloneC (t : TypeId) : Code := .cond (.tmp 4) ((Code.region 2 #[{ dst := some 2, op := .assign (.const (.slice none 0 0)), type := t, pos := "slices.go:358", after := #[], guard := none }] false).seq .ret) .skip
def cloneD (t : TypeId) : Code := (Code.region 3
 #[{ dst := some 5, op := .buildSlice t 0 #[], type := t, pos := "slices.go:362", after := #[], guard := none },
  { dst := some 6, op := .move (.tmp 0), type := t, pos := "slices.go:362", after := #[], guard := none },
  { dst := some 7, op := .call { callee := .builtin .append, args := #[.tmp 5, .tmp 6], argTypes := #[t, t] }, type := t, pos := "slices.go:362", after := #[{ on := 0, ground := .data }, { on := 1, ground := .data }], guard := none },
  { dst := some 2, op := .assign (.tmp 7), type := t, pos := "slices.go:362", after := #[{ on := 2, ground := .data }, { on := 2, ground := .chain }, { on := 0, ground := .phase }, { on := 1, ground := .phase }, { on := 2, ground := .phase }], guard := none }] false).seq .ret
def cloneBody (t b : TypeId) : Code := (cloneA t b).seq (((Code.region 1 (cloneOps t b) false).seq (cloneC t)).seq (cloneD t))

structure CloneT (P : Program) (t el : TypeId) (sz by_ : Nat) (zs : List PV) : Prop where
 ht : tslice P t = some el
 hs : tsize P el = some sz
 hb : tbytes P el = some by_
 hz : tzero P el = some zs
 hc : (sz != 0 && by_ != 0 && zs.length == sz) = true

variable {X : Ctx} {fn : FuncId} {t b el : TypeId} {sz by_ : Nat} {zs : List PV}

end Go.Dn

namespace Go.Dn
open Go

theorem Has.perm {σ : Heap} {lo hi : Nat} {L L' : List Res} (H : Has σ lo hi L) (hp : L.Perm L') : Has σ lo hi L' := by
 have mem : ∀ {A : List Res}, (∀ (k : Nat) (r : Res), A[k]? = some r → r.holds σ) ↔ ∀ r ∈ A, r.holds σ := fun {A} =>
  ⟨fun h r hr => by obtain ⟨k, hk⟩ := List.getElem?_of_mem hr; exact h k r hk, fun h k r hk => h r (List.mem_of_getElem? hk)⟩
 have pw : L.Pairwise (fun r s => ∀ id, r.owner = some id → s.owner ≠ some id) := by
  rw [List.pairwise_iff_getElem]
  intro i j hi' hj hij
  exact H.sep i j _ _ (by omega) (List.getElem?_eq_getElem hi') (List.getElem?_eq_getElem hj)
 have pw' : L'.Pairwise (fun r s => ∀ id, r.owner = some id → s.owner ≠ some id) := (hp.pairwise_iff (fun {a b} h id h1 h2 => h id h2 h1)).1 pw
 refine ⟨mem.2 fun r hr => mem.1 H.holds r (hp.mem_iff.2 hr), fun k r hk => ?_, fun i j r s hij h1 h2 => ?_, H.le⟩
 ·obtain ⟨k', hk'⟩ := List.getElem?_of_mem (hp.mem_iff.2 (List.mem_of_getElem? hk))
  exact H.lt k' r hk'
 ·obtain ⟨hi', rfl⟩ := List.getElem?_eq_some_iff.1 h1
  obtain ⟨hj', rfl⟩ := List.getElem?_eq_some_iff.1 h2
  rw [List.pairwise_iff_getElem] at pw'
  rcases Nat.lt_or_ge i j with h | h
  ·exact pw' i j hi' hj' h
  ·intro id h3 h4
   exact pw' j i hj' hi' (by omega) id h4 h3

def pdOf : Ex → Option Code
 | .normal => none
 | .exit t => some (.exit t)
 | .ret => some .ret
theorem Has.slCells {σ : Heap} {lo hi : Nat} {L : List Res} {k : Nat} {v : PV} {et : TypeId} {sz : Nat} {xs : List (List FV)} {lv : Bool} (H : Has σ lo hi L) (h : L[k]? = some (.sl v et sz xs lv)) : v.cells = some [v] := by
 rcases (H.holds k _ h).2 with ⟨rfl, _⟩ | ⟨id, rfl, _⟩ <;> rfl

theorem Runs.env {X : Ctx} {n : Nat} {fn : FuncId} {c : Code} {e : Env} {σ : Heap} {Q : Ex → Env → Heap → Prop} (l : List (Nat × PV)) (he : Z5 e l) (h : ∀ e0, Runs X n fn c (sets e0 l) σ Q) : Runs X n fn c e σ Q := by
 obtain ⟨e0, rfl⟩ := he.ex
 exact h e0

section
variable {X : Ctx}

def YldH (X : Ctx) (id : Nat) {S T : Type} (C : S → List Res → Prop) (pvT : T → List PV) (y : S → T → Option (S × Bool)) : Prop :=
 ∀ s t s' b, y s t = some (s', b) → ∀ σ lo hi O L, C s L → Has σ lo hi (O ++ L) → ∃ σ' L', Z0P X (.yld id) (pvT t) σ = some (.v (.bool b), σ') ∧ C s' L' ∧ Hs σ' (O ++ L')

def ItF (X : Ctx) (f : FuncId) (args : List PV) {S : Type} (C : S → List Res → Prop) (s s' : S) : Prop :=
 ∀ σ L, C s L → Hs σ L → ∃ σ' L', Z0P X (.fn f) args σ = some (.tup [], σ') ∧ C s' L' ∧ Hs σ' L'

structure EndsI {S : Type} (C : S → List Res → Prop) (s : S) (x : Ex) (e : Env) (σ : Heap) : Prop where
 out : (x = .normal ∨ x = .ret) ∧ ∃ L, C s L ∧ Hs σ L

theorem EndsI.H {S : Type} {C : S → List Res → Prop} {s : S} {x : Ex} {e : Env} {σ : Heap} {lo hi : Nat} {L L0 : List Res} (hx : x = .normal ∨ x = .ret) (H : Has σ lo hi L) (k : Nat) (hk : L.drop k = L0) (hC : C s L0) : EndsI C s x e σ :=
 ⟨hx, L0, hC, (hk ▸ H.drop k : Has σ lo hi L0).all⟩

theorem ItF.of {f : FuncId} {args : List PV} {S : Type} {C : S → List Res → Prop} {s s' : S} {fu : Func} {c : Code} {m : Nat} (hf : X.P.funcs[f]? = some fu) (hb : fu.body = some c) (hr : fu.results = #[]) (hi : X.intr f args = none) (hk : X.keep f = false) (ho : X.opn f = false) (hs : args.all PV.still = true)
  (hp : args.all PV.pure = false) (hm : max fu.ntmps args.length = m) (h : ∀ σ L, C s L → Hs σ L → Runs X m f c (Z5i args) σ (EndsI C s')) : ItF X f args C s s' := by
 subst hm
 intro σ L hC H
 obtain ⟨lf, x, e', σ1, h1, hE⟩ := (h σ L hC H).run
 obtain ⟨hx, L', hC', H'⟩ := hE.out
 refine ⟨σ1, L', Z2A (lf := lf) ?_, hC', H'⟩
 have hbody : Z1F X (Z0P X) lf f args σ = some (.tup [], σ1) := by
  simp only [Z1F, hf, hb, h1]
  rcases hx with rfl | rfl <;> simp [hr, Z0I, Z1g]
 simp only [Z4C, hi, hk, Bool.false_eq_true, if_false, Z4u hs, ho, hp, hbody, Option.bind_some]
 rfl

section
variable {n : Nat} {dr : Bool} {fn : FuncId} {ops : Array Oper} {base i : Nat} {l : List Oper} {e : Env} {σ : Heap} {K : Env → Heap → Prop} {Q : Ex → Env → Heap → Prop}
variable {d : Nat} {t : TypeId} {p : String} {af : Array Edge} {x : Operand} {lo hi : Nat} {L : List Res}

theorem Ops.callY {S T : Type} {C : S → List Res → Prop} {pvT : T → List PV} {y : S → T → Option (S × Bool)} {id : Nat} {args : Array Operand} {ts : Array TypeId} {s s' : S} {z : T} {b : Bool} (O : List Res) (H : Has σ lo hi (O ++ L)) (hC : C s L) (hx : Z1 X e x = some (.yld id)) (ha : Zb X e args.toList = some (pvT z))
  (hy : YldH X id C pvT y) (hq : y s z = some (s', b)) (hdr : dr = false) (hd : Nat.blt d n = true)
  (hk : ∀ σ' L', C s' L' → Hs σ' (O ++ L') → Ops X n dr ops base (i + 1) l (set e d (.v (.bool b))) σ' K) :
  Ops X n dr ops base i (⟨some d, .call { callee := .value x, args := args, argTypes := ts }, t, p, af, none⟩ :: l) e σ K := by
 obtain ⟨σ', L', q1, q2, q3⟩ := hy _ _ _ _ hq σ lo hi O L hC H
 exact .plain (x := .v (.bool b)) (σ1 := σ') (by simp only [ZE, Zv, ha, hx, q1]) (fun h => by rw [hdr] at h; cases h) hd (hk σ' L' q2 q3)
end

def RangeC (id : Nat) (fn : FuncId) (e : Env) (n : Nat) (ps : List Nat) (as_ bo : Code) {S : Type} (Co : S → List Res → Prop) (pd : Nat → Option Code) : S × Nat → List Res → Prop :=
 fun s L => ∃ M, Co s.1 M ∧ L = .loop id fn e n ps as_ bo (if s.2 = 0 then .ready else .done) (pd s.2) :: M

variable {n : Nat} {fn : FuncId} {e : Env} {σ : Heap} {Q : Ex → Env → Heap → Prop}

def BodyOK (X : Ctx) (n : Nat) (fn : FuncId) (e : Env) (ps : List Nat) (as_ bo : Code) {S T : Type} (Co : S → List Res → Prop) (pvT : T → List PV) (yb : S → T → Option (S × Nat)) (pd : Nat → Option Code) : Prop :=
 ∀ (R0 R1 : Res) s t s' p, yb s t = some (s', p) → ∀ σ M O, Co s M → Hs σ (R0 :: (M ++ O)) →
  Runs X n fn as_ (Z3a e n ps (pvT t)) σ fun x e1 σ1 => x = .normal ∧ ∃ M1, Hs σ1 (R0 :: (M1 ++ O)) ∧
   ∀ σ2, Hs σ2 (R1 :: (M1 ++ O)) → Runs X n fn bo e1 σ2 fun x e2 σ3 => (pdOf x = pd p ∧ (x = .normal ↔ p = 0)) ∧ ∃ M2, Co s' M2 ∧ Hs σ3 (R1 :: (M2 ++ O))

theorem rangeY_ok {S T : Type} {ps : List Nat} {as_ bo : Code} {Co : S → List Res → Prop} {pvT : T → List PV} {yb : S → T → Option (S × Nat)} {pd : Nat → Option Code} (hpd : pd 0 = none) (hlen : ∀ t, ps.length = (pvT t).length) (hpure : ∀ t, (pvT t).all PV.pure = true)
  (hbody : BodyOK X n fn e ps as_ bo Co pvT yb pd) (id : Nat) : YldH X id (RangeC id fn e n ps as_ bo Co pd) pvT (Z30 yb) := by
 rintro ⟨s, p⟩ t ⟨s', p'⟩ b hy σ lo hi O L ⟨M, hM, rfl⟩ H
 unfold Z30 at hy
 simp only at hy hM
 split at hy
 ·rename_i hp0
  subst hp0
  rw [Option.map_eq_some_iff] at hy
  obtain ⟨r, hr, he⟩ := hy
  simp only [Prod.mk.injEq] at he
  obtain ⟨rfl, rfl⟩ := he
  simp only [if_true, hpd] at H
  have H1 : Hs σ (.loop id fn e n ps as_ bo .ready none :: (M ++ O)) := (H.perm (by rw [← List.cons_append]; exact List.perm_append_comm)).all
  obtain ⟨l1, x1, e1, σ1, r1, rfl, M1, H2, hb⟩ := (hbody (.loop id fn e n ps as_ bo .ready none) (.loop id fn e n ps as_ bo .busy none) s t s' p' hr σ M O hM H1).run
  have hent : σ1.ent id = .loop fn e n ps as_ bo .ready none := H2.holds 0 _ rfl
  have H3 : Hs (σ1.put id (.loop fn e n ps as_ bo .busy none)) (.loop id fn e n ps as_ bo .busy none :: (M1 ++ O)) := (H2.put (k := 0) rfl rfl (r' := .loop id fn e n ps as_ bo .busy none) Z1p rfl).all
  obtain ⟨l2, x2, e2, σ3, r2, ⟨hx, hx0⟩, M2, hM2, H4⟩ := (hb _ H3).run
  have hent0 : σ.ent id = .loop fn e n ps as_ bo .ready none := H1.holds 0 _ rfl
  have fin : ∀ (st : LoopState) (pc : Option Code), Hs (σ3.put id (.loop fn e n ps as_ bo st pc)) (O ++ (.loop id fn e n ps as_ bo st pc :: M2)) := fun st pc =>
   ((H4.put (k := 0) rfl rfl (r' := .loop id fn e n ps as_ bo st pc) Z1p rfl).perm (by rw [List.set_cons_zero, ← List.cons_append]; exact List.perm_append_comm)).all
  have call : ∀ (st : LoopState) (pc : Option Code) (b : Bool), (match x2 with
    | .normal => some (PV.v (.bool true), σ3.put id (.loop fn e n ps as_ bo .ready none))
    | .exit t => some (PV.v (.bool false), σ3.put id (.loop fn e n ps as_ bo .done (some (.exit t))))
    | .ret => some (PV.v (.bool false), σ3.put id (.loop fn e n ps as_ bo .done (some .ret)))) = some (.v (.bool b), σ3.put id (.loop fn e n ps as_ bo st pc)) →
    Z0P X (.yld id) (pvT t) σ = some (.v (.bool b), σ3.put id (.loop fn e n ps as_ bo st pc)) := by
   intro st pc b hm
   refine Z2A (lf := max l1 l2) ?_
   simp only [Z4C, hent0, hlen t, if_true, Z2J (hpure t), Z24 (Nat.le_max_left l1 l2) r1, hent, Z24 (Nat.le_max_right l1 l2) r2]
   exact hm
  cases x2 with
  | normal =>
   have hp0 := hx0.1 rfl
   subst hp0
   exact ⟨_, _, call .ready none true rfl, ⟨M2, hM2, by simp [hpd]⟩, fin .ready none⟩
  | exit t' =>
   have hp0 : p' ≠ 0 := fun h => by have := hx0.2 h; cases this
   have hbeq : (p' == 0) = false := by simpa using hp0
   rw [hbeq]
   exact ⟨_, _, call .done (some (.exit t')) false rfl, ⟨M2, hM2, by simp only [if_neg hp0, ← hx, pdOf]⟩, fin .done _⟩
  | ret =>
   have hp0 : p' ≠ 0 := fun h => by have := hx0.2 h; cases this
   have hbeq : (p' == 0) = false := by simpa using hp0
   rw [hbeq]
   exact ⟨_, _, call .done (some .ret) false rfl, ⟨M2, hM2, by simp only [if_neg hp0, ← hx, pdOf]⟩, fin .done _⟩
 ·cases hy

theorem Runs.rangeH {S T : Type} {g : Operand} {ps : Array Tmp} {as_ bo : Code} {f : FuncId} {first caps : List PV} {M0 : List Res} (H : Hs σ M0) (hg : Z1 X e g = some (.clo f first caps))
  (Co : S → List Res → Prop) (pvT : T → List PV) (yb : S → T → Option (S × Nat)) (pd : Nat → Option Code) (hpd : pd 0 = none) (hjd : ∀ p, ∃ x, Z5j (pd p) = some x) {s0 : S} {r : S × Nat} (h0 : Co s0 M0) (hlen : ∀ t, ps.toList.length = (pvT t).length) (hpure : ∀ t, (pvT t).all PV.pure = true)
  (hbody : BodyOK X n fn e ps.toList as_ bo Co pvT yb pd)
  (hit : ∀ id, YldH X id (RangeC id fn e n ps.toList as_ bo Co pd) pvT (Z30 yb) → ItF X f (first ++ [.yld id] ++ caps) (RangeC id fn e n ps.toList as_ bo Co pd) (s0, 0) r)
  (hq : ∀ x σ' M', Z5j (pd r.2) = some x → Co r.1 M' → Hs σ' M' → Q x e σ') : Runs X n fn (.rangeFunc g ps as_ bo) e σ Q := by
 obtain ⟨m, ent⟩ := σ
 let σ1 : Heap := ⟨m + 1, upd ent m (.loop fn e n ps.toList as_ bo .ready none)⟩
 have H1 : Hs σ1 (.loop m fn e n ps.toList as_ bo .ready none :: M0) := by
  have h1 : Has (⟨m + 1, ent⟩ : Heap) m (m + 1) M0 := H.enter 1
  exact (h1.push (b := m) (en := .loop fn e n ps.toList as_ bo .ready none) (Nat.le_refl _) (Nat.lt_succ_self _) (r' := .loop m fn e n ps.toList as_ bo .ready none) Z1p rfl).all
 obtain ⟨σ2, L', hc, ⟨M', hM', rfl⟩, H2⟩ := hit m (rangeY_ok hpd hlen hpure hbody m) σ1 _ ⟨M0, h0, by simp [hpd]⟩ H1
 have hent : σ2.ent m = .loop fn e n ps.toList as_ bo (if r.2 = 0 then .ready else .done) (pd r.2) := H2.holds 0 _ rfl
 have hnb : (if r.2 = 0 then LoopState.ready else LoopState.done) ≠ LoopState.busy := by split <;> simp
 have Hf : Hs (σ2.put m (.loop fn e n ps.toList as_ bo .exhausted (pd r.2))) M' := ((H2.put (k := 0) rfl rfl (r' := .loop m fn e n ps.toList as_ bo .exhausted (pd r.2)) Z1p rfl).erase 0).all
 obtain ⟨x, hx⟩ := hjd r.2
 refine ⟨0, x, e, _, ?_, hq x _ M' hx hM' Hf⟩
 simp only [ZG, hg]
 rw [show Z0P X (.fn f) (first ++ [PV.yld m] ++ caps) ⟨m + 1, upd ent m (.loop fn e n ps.toList as_ bo .ready none)⟩ = some (.tup [], σ2) from hc]
 simp only [hent, if_neg hnb, hx]

theorem callO_of {f : FuncId} {args : List PV} {fu : Func} {c : Code} {m : Nat} {σ : Heap} {Post : PV → Heap → Prop} (hf : X.P.funcs[f]? = some fu) (hb : fu.body = some c) (hi : X.intr f args = none) (hk : X.keep f = false) (ho : X.opn f = true) (hp : args.all PV.pure = true) (hm : max fu.ntmps args.length = m)
  (h : Runs X m f c (Z5i args) σ fun x e σ' => (x = .normal ∨ x = .ret) ∧ ∃ xs, Z0I X.P e σ' fu.results.toList = some xs ∧ Post (Z1g xs) σ') : ∃ r σ', Z0P X (.fn f) args σ = some (r, σ') ∧ Post r σ' := by
 subst hm
 obtain ⟨lf, x, e', σ1, h1, hx, xs, h2, h3⟩ := h.run
 refine ⟨Z1g xs, σ1, Z2A (lf := lf) ?_, h3⟩
 have hbody : Z1F X (Z0P X) lf f args σ = some (Z1g xs, σ1) := by
  simp only [Z1F, hf, hb, h1]
  rcases hx with rfl | rfl <;> simp only [h2, Option.map_some]
 simp only [Z4C, hi, hk, Bool.false_eq_true, if_false, Z2J hp, ho, if_true, hbody]

theorem Ops.callO {n : Nat} {dr : Bool} {ops : Array Oper} {base i : Nat} {l : List Oper} {e : Env} {σ : Heap} {K : Env → Heap → Prop} {d : Nat} {t : TypeId} {p : String} {af : Array Edge}
  {f : FuncId} {args : Array Operand} {ts : Array TypeId} {ys : List PV} {Post : PV → Heap → Prop} (ha : Zb X e args.toList = some ys) (hf : ∃ r σ', Z0P X (.fn f) ys σ = some (r, σ') ∧ Post r σ') (hdr : dr = true → Z37 (Region.before ops) ops i = true) (hd : Nat.blt d n = true)
  (hk : ∀ r σ', Post r σ' → Ops X n dr ops base (i + 1) l (set e d r) σ' K) :
  Ops X n dr ops base i (⟨some d, .call { callee := .value (.func f), args := args, argTypes := ts }, t, p, af, none⟩ :: l) e σ K := by
 obtain ⟨r, σ', q1, q2⟩ := hf
 exact .plain (x := r) (σ1 := σ') (by simp only [ZE, Zv, ha, Z1, q1]) (fun h => Z5a (hdr h)) hd (hk r σ' q2)
end

end Go.Dn

namespace Go.Dn
open Go

theorem Has.Zg {σ : Heap} {lo hi : Nat} {T : List Res} (A : List Res) (ks : List Nat) (hn : ks.Nodup) (hk : ks.all (Nat.blt · A.length) = true) (H : Has σ lo hi (A ++ T)) : Has σ lo hi (Dn.pick A ks ++ T) := by
 have hk' : ∀ k ∈ ks, k < A.length := fun k h => by
  have := List.all_eq_true.1 hk k h
  exact Nat.le_of_ble_eq_true this
 have h := H.pick (ks ++ (List.range T.length).map (A.length + ·)) (by
  refine List.nodup_append.2 ⟨hn, ?_, ?_⟩
  ·exact List.Pairwise.map _ (fun a b hab => by omega) List.nodup_range
  ·intro a ha b hb
   obtain ⟨j, _, rfl⟩ := List.mem_map.1 hb
   have := hk' a ha
   omega)
 have fc : ∀ (f g : Nat → Option Res) (l : List Nat), (∀ k ∈ l, f k = g k) → l.filterMap f = l.filterMap g := by
  intro f g l
  induction l with
  | nil => intro _; rfl
  | cons k l ih =>
   intro h
   rw [List.filterMap_cons, List.filterMap_cons, h k List.mem_cons_self, ih fun k hk => h k (List.mem_cons_of_mem _ hk)]
 have fr : ∀ (T : List Res), List.filterMap (fun j => T[j]?) (List.range T.length) = T := by
  intro T
  induction T with
  | nil => rfl
  | cons r T ih =>
   rw [List.length_cons, List.range_succ_eq_map, List.filterMap_cons, List.filterMap_map]
   simp only [List.getElem?_cons_zero]
   congr 1
 have e : Dn.pick (A ++ T) (ks ++ (List.range T.length).map (A.length + ·)) = Dn.pick A ks ++ T := by
  unfold Dn.pick
  rw [List.filterMap_append]
  congr 1
  ·exact fc _ _ _ fun k hm => List.getElem?_append_left (hk' k hm)
  ·rw [List.filterMap_map]
   refine Eq.trans (fc _ _ _ fun j _ => ?_) (fr T)
   simp [Function.comp, List.getElem?_append_right]
 rw [← e]; exact h

theorem Has.mem {σ : Heap} {lo hi : Nat} {L : List Res} (H : Has σ lo hi L) : ∀ r ∈ L, r.holds σ ∧ ∀ id, r.owner = some id → (id < lo ∨ hi ≤ id) ∧ id < σ.nx := fun r hr => by
 obtain ⟨k, hk⟩ := List.getElem?_of_mem hr
 exact ⟨H.holds k r hk, H.lt k r hk⟩

abbrev Apart (r s : Res) : Prop := ∀ id, r.owner = some id → s.owner ≠ some id

theorem Has.pw {σ : Heap} {lo hi : Nat} {L : List Res} (H : Has σ lo hi L) : L.Pairwise Apart := by
 rw [List.pairwise_iff_getElem]
 intro i j hi' hj hij
 exact H.sep i j _ _ (by omega) (List.getElem?_eq_getElem hi') (List.getElem?_eq_getElem hj)

theorem Has.mk' {σ : Heap} {lo hi : Nat} {L : List Res} (hm : ∀ r ∈ L, r.holds σ ∧ ∀ id, r.owner = some id → (id < lo ∨ hi ≤ id) ∧ id < σ.nx) (hp : L.Pairwise Apart) (hle : hi ≤ σ.nx) : Has σ lo hi L := by
 refine ⟨fun k r hk => (hm r (List.mem_of_getElem? hk)).1, fun k r hk => (hm r (List.mem_of_getElem? hk)).2, fun i j r s hij h1 h2 => ?_, hle⟩
 obtain ⟨hi', rfl⟩ := List.getElem?_eq_some_iff.1 h1
 obtain ⟨hj', rfl⟩ := List.getElem?_eq_some_iff.1 h2
 rw [List.pairwise_iff_getElem] at hp
 rcases Nat.lt_or_ge i j with h | h
 ·exact hp i j hi' hj' h
 ·intro id h3 h4
  exact hp j i hj' hi' (by omega) id h4 h3

def holes (lo hi : Nat) : List Res := .floor hi :: (List.range (hi - lo)).map fun j => .hole (lo + j)

theorem mem_holes {lo hi : Nat} {r : Res} (h : r ∈ holes lo hi) : r = .floor hi ∨ ∃ id, r = .hole id ∧ lo ≤ id ∧ id < hi := by
 rcases List.mem_cons.1 h with h | h
 ·exact .inl h
 ·obtain ⟨j, hj, rfl⟩ := List.mem_map.1 h
  have := List.mem_range.1 hj
  exact .inr ⟨_, rfl, by omega, by omega⟩

theorem Has.holesIn {σ : Heap} {lo hi : Nat} {L : List Res} (H : Has σ lo hi L) : Hs σ (L ++ holes lo hi) := by
 refine Has.mk' (fun r hr => ?_) ?_ (Nat.le_refl _)
 ·rcases List.mem_append.1 hr with h | h
  ·exact ⟨(H.mem r h).1, fun id ho => ⟨.inl ((H.mem r h).2 id ho).2, ((H.mem r h).2 id ho).2⟩⟩
  ·rcases mem_holes h with rfl | ⟨id, rfl, h1, h2⟩
   ·exact ⟨H.le, fun id ho => by cases ho⟩
   ·refine ⟨trivial, fun id' ho => ?_⟩
    cases ho
    have := H.le
    exact ⟨.inl (by omega), by omega⟩
 ·refine List.pairwise_append.2 ⟨H.pw, ?_, ?_⟩
  ·refine List.pairwise_cons.2 ⟨fun r _ id ho => (by cases ho), ?_⟩
   refine List.Pairwise.map _ ?_ List.nodup_range
   intro a b hab id h1 h2
   have h1 : lo + a = id := Option.some.inj h1
   have h2 : lo + b = id := Option.some.inj h2
   omega
  ·intro r hr s hs id h1 h2
   have := ((H.mem r hr).2 id h1).1
   rcases mem_holes hs with rfl | ⟨id', rfl, h3, h4⟩
   ·cases h2
   ·cases h2; omega

theorem Has.holesOut {σ : Heap} {lo hi : Nat} {A L : List Res} (H : Hs σ (A ++ (L ++ holes lo hi))) : Has σ lo hi (A ++ L) := by
 rw [← List.append_assoc] at H
 have hp := List.pairwise_append.1 H.pw
 refine Has.mk' (fun r hr => ?_) hp.1 ?_
 ·have h1 := H.mem r (List.mem_append_left _ hr)
  refine ⟨h1.1, fun id ho => ⟨?_, (h1.2 id ho).2⟩⟩
  rcases Nat.lt_or_ge id lo with h | h
  ·exact .inl h
  ·rcases Nat.lt_or_ge id hi with h' | h'
   ·exact absurd rfl (hp.2.2 r hr (.hole id) (List.mem_cons_of_mem _ (List.mem_map.2 ⟨id - lo, List.mem_range.2 (by omega), by congr 1; omega⟩)) id ho)
   ·exact .inr h'
 ·exact (H.mem (.floor hi) (List.mem_append_right _ List.mem_cons_self)).1

section
variable {X : Ctx} {f : FuncId} {fu : Func} {c : Code} {m : Nat} {σ : Heap} {cv : PV} {ys args : List PV} {L : List Res} {PostA : PV → List Res → Prop}

def CallI (X : Ctx) (cv : PV) (ys : List PV) (σ : Heap) (T : List Res) (PostA : PV → List Res → Prop) : Prop := ∃ r σ' A, callV X cv ys σ = some (r, σ') ∧ PostA r A ∧ Hs σ' (A ++ T)

theorem Z35 (hf : X.P.funcs[f]? = some fu) (hb : fu.body = some c) (hcv : ∀ σ, callV X cv ys σ = Z0P X (.fn f) args σ) (hi : X.intr f args = none) (hk : X.keep f = true) (ho : X.opn f = true) (hm : max fu.ntmps args.length = m) {T : List Res}
  (h : Runs X m f c (Z5i args) σ fun x e σ' => (x = .normal ∨ x = .ret) ∧ ∃ xs, Z0I X.P e σ' fu.results.toList = some xs ∧ ∃ A, PostA (Z1g xs) A ∧ Hs σ' (A ++ T)) : CallI X cv ys σ T PostA := by
 subst hm
 obtain ⟨lf, x, e', σ1, h1, hx, xs, h2, A, h3, h4⟩ := h.run
 refine ⟨Z1g xs, σ1, A, ?_, h3, h4⟩
 rw [hcv]
 refine Z2A (lf := lf) ?_
 have hbody : Z1F X (Z0P X) lf f args σ = some (Z1g xs, σ1) := by
  simp only [Z1F, hf, hb, h1]
  rcases hx with rfl | rfl <;> simp only [h2, Option.map_some]
 simp only [Z4C, hi, hk, if_true, ho, hbody]

theorem callIO_of (hf : X.P.funcs[f]? = some fu) (hb : fu.body = some c) (hcv : ∀ σ, callV X cv ys σ = Z0P X (.fn f) args σ) (hi : X.intr f args = none) (hk : X.keep f = false) (ho : X.opn f = true) (hp : args.all PV.pure = true) (hm : max fu.ntmps args.length = m) {T : List Res}
  (h : Runs X m f c (Z5i args) σ fun x e σ' => (x = .normal ∨ x = .ret) ∧ ∃ xs, Z0I X.P e σ' fu.results.toList = some xs ∧ ∃ A, PostA (Z1g xs) A ∧ Hs σ' (A ++ T)) : CallI X cv ys σ T PostA := by
 obtain ⟨r, σ', h1, A, h2, h3⟩ := callO_of (Post := fun r σ' => ∃ A, PostA r A ∧ Hs σ' (A ++ T)) hf hb hi hk ho hp hm h
 exact ⟨r, σ', A, by rw [hcv]; exact h1, h2, h3⟩
end

section
variable {X : Ctx} {n : Nat} {dr : Bool} {fn : FuncId} {ops : Array Oper} {base i : Nat} {l : List Oper} {e : Env} {σ : Heap} {K : Env → Heap → Prop}
variable {d : Nat} {t t1 : TypeId} {p : String} {af : Array Edge} {x : Operand} {lo hi : Nat} {L : List Res}

theorem Z9Z {cv : PV} {args : List PV} {r : PV} {σ' : Heap} {c : Call} {id0 : Nat} (hc : c.callee = .value x) (hx : Z1 X e x = some cv) (ha : Zb X e c.args.toList = some args) (h : Dn.callV X cv args σ = some (r, σ')) : Zv X (Z0P X) e σ id0 c = some (r, σ') := by
 simp only [Zv, ha, hc, hx]
 unfold Dn.callV at h
 split at h
 ·exact h
 ·exact h
 ·cases h

theorem Sub.more {C L M : List Res} (h : Sub C L) : Sub C (L ++ M) := by
 induction h with
 | nil => exact .nil
 | cons k h t ih =>
  refine .cons k ?_ ih
  rw [List.getElem?_append_left (List.getElem?_eq_some_iff.1 h).1, h]

theorem callI_back {cv : PV} {ys : List PV} {PostA : PV → List Res → Prop} (A : List Res) (H : Has σ lo hi (A ++ L)) (hf : ∀ T, (∀ C, Sub C L → Sub C T) → Hs σ (A ++ T) → CallI X cv ys σ T PostA) :
  ∃ r σ' A', Dn.callV X cv ys σ = some (r, σ') ∧ PostA r A' ∧ Has σ' lo hi (A' ++ L) := by
 have hsub : ∀ C, Sub C L → Sub C (L ++ holes lo hi) := fun C h => h.more
 have H1 := H.holesIn
 rw [List.append_assoc] at H1
 obtain ⟨r, σ', A', h1, h2, h3⟩ := hf (L ++ holes lo hi) hsub H1
 exact ⟨r, σ', A', h1, h2, h3.holesOut⟩

theorem Ops.callI {cv : PV} {args : Array Operand} {ts : Array TypeId} {ys : List PV} {PostA : PV → List Res → Prop} (A : List Res) (H : Has σ lo hi (A ++ L)) (hx : Z1 X e x = some cv) (ha : Zb X e args.toList = some ys) (hf : ∀ T, (∀ C, Sub C L → Sub C T) → Hs σ (A ++ T) → CallI X cv ys σ T PostA) (hdr : dr = true → Z37 (Region.before ops) ops i = true) (hd : Nat.blt d n = true)
  (hk : ∀ r A' σ', PostA r A' → Has σ' lo hi (A' ++ L) → Ops X n dr ops base (i + 1) l (set e d r) σ' K) :
  Ops X n dr ops base i (⟨some d, .call { callee := .value x, args := args, argTypes := ts }, t, p, af, none⟩ :: l) e σ K := by
 obtain ⟨r, σ', A', q1, q2, q3⟩ := callI_back A H hf
 exact .plain (x := r) (σ1 := σ') (by simp only [ZE]; exact Z9Z rfl hx ha q1) (fun h => Z5a (hdr h)) hd (hk r A' σ' q2 q3)

def FnO (X : Ctx) (f : FuncId) (args : List PV) (PostA : PV → List Res → Prop) : Prop := ∀ σ T, Hs σ T → CallI X (.v (.fn f)) args σ T PostA

theorem FnO.of {f : FuncId} {fu : Func} {c : Code} {m : Nat} {args : List PV} {PostA : PV → List Res → Prop} (hf : X.P.funcs[f]? = some fu) (hb : fu.body = some c) (hi : X.intr f args = none) (hk : X.keep f = false) (ho : X.opn f = true) (hp : args.all PV.pure = true) (hm : max fu.ntmps args.length = m)
  (h : ∀ σ T, Hs σ T → Runs X m f c (Z5i args) σ fun x e σ' => (x = .normal ∨ x = .ret) ∧ ∃ xs, Z0I X.P e σ' fu.results.toList = some xs ∧ ∃ A, PostA (Z1g xs) A ∧ Hs σ' (A ++ T)) : FnO X f args PostA :=
 fun σ T H => callIO_of hf hb (fun _ => rfl) hi hk ho hp hm (h σ T H)

theorem Ops.callF {f : FuncId} {args : Array Operand} {ts : Array TypeId} {ys : List PV} {r : PV} (hx : Z1 X e x = some (.v (.fn f))) (ha : Zb X e args.toList = some ys) (hf : Fn X f ys r) (hd : Nat.blt d n = true) (hk : Ops X n dr ops base (i + 1) l (set e d r) σ K) :
  Ops X n dr ops base i (⟨some d, .call { callee := .value x, args := args, argTypes := ts }, t, p, af, none⟩ :: l) e σ K :=
 .plain (x := r) (σ1 := σ) (by simp only [ZE, Zv, ha, hx, hf.call σ]) (fun _ => by
  exact ask0 (by simp only [Zi, Zx, ha, Z4n, hx, Z8C hf.pure, hf.opn, hf.keep, Bool.not_false, Bool.and_self])) hd hk

inductive ExpP : List Res → List (Nat × PV) → List (Nat × PV) → List Res → Prop
 | nil {L : List Res} : ExpP L [] [] L
 | keep {L L' : List Res} {j : Nat} {x : PV} {ps qs : List (Nat × PV)} (h : Z5f x = false) (t : ExpP L ps qs L') : ExpP L ((j, x) :: ps) ((j, x) :: qs) L'
 | exp {L L1 L2 : List Res} {j : Nat} {x y : PV} {ps qs : List (Nat × PV)} (h : ExpV L x y L1) (t : ExpP L1 ps qs L2) : ExpP L ((j, x) :: ps) ((j, y) :: qs) L2

theorem Z9V {x : PV} {y : FV} {L' : List Res} (H : Has σ lo hi L) (h : ExpC L x y L') (hr : isRef x = false) : x = .v y ∧ L' = L := by
 cases h with
 | v y => exact ⟨rfl, rfl⟩
 | n => cases hr
 | ro h =>
  rcases h with ⟨rfl, rfl⟩ | rfl
  ·cases hr
  ·exact ⟨rfl, rfl⟩
 | s k h =>
  rcases (H.sl h).2 with ⟨rfl, _⟩ | ⟨id, rfl, _⟩ <;> cases hr

theorem Z8W : ∀ {xs : List PV} {ys : List FV} {L L' : List Res}, Has σ lo hi L → ExpCs L xs ys L' → xs.any isRef = false → xs = vs ys ∧ L' = L
 | [], ys, L, L', H, h, _ => by cases h; exact ⟨rfl, rfl⟩
 | x :: xs, ys, L, L', H, h, hr => by
  simp only [List.any_cons, Bool.or_eq_false_iff] at hr
  cases h with
  | cons h t =>
   obtain ⟨rfl, rfl⟩ := Z9V H h hr.1
   obtain ⟨rfl, rfl⟩ := Z8W H t hr.2
   exact ⟨rfl, rfl⟩

theorem expV_noref {x y : PV} {L' : List Res} (H : Has σ lo hi L) (h : ExpV L x y L') (hr : Z5f x = false) : y = x ∧ L' = L := by
 cases h with
 | c h =>
  have : isRef x = false := by cases x <;> first | rfl | exact hr
  obtain ⟨rfl, rfl⟩ := Z9V H h this
  exact ⟨rfl, rfl⟩
 | a h =>
  obtain ⟨rfl, rfl⟩ := Z8W H h hr
  exact ⟨rfl, rfl⟩
 | p h => exact ⟨rfl, rfl⟩

theorem fvsOf_vs (l : List FV) : fvsOf (vs l) = some l := by
 induction l with
 | nil => rfl
 | cons x l ih => show (fvsOf (vs l)).map (x :: ·) = _; rw [ih]; rfl

theorem frzC_ok {x : PV} {y : FV} {L' : List Res} (H : Has σ lo hi L) (h : ExpC L x y L') : ∃ σ', Z36 σ x = some (.v y, σ') ∧ Has σ' lo hi L' ∧ σ'.nx = σ.nx := by
 cases h with
 | v y => exact ⟨σ, rfl, H, rfl⟩
 | n => exact ⟨σ, rfl, H, rfl⟩
 | ro h => rcases h with ⟨rfl, rfl⟩ | rfl <;> exact ⟨σ, rfl, H, rfl⟩
 | @s _ et sz xs lv k h =>
  obtain ⟨hs, hv⟩ := H.sl h
  rcases hv with ⟨rfl, rfl⟩ | ⟨id, rfl, hb⟩
  ·exact ⟨σ, rfl, H.say h ⟨by simp, .inl ⟨rfl, rfl⟩⟩ rfl, rfl⟩
  ·refine ⟨σ.put id (.blk et (vs xs.flatten) false), ?_, H.put h rfl (r' := .sl (.buf id xs.length sz) et sz xs false) ⟨hs, .inr ⟨id, rfl, Z1p⟩⟩ rfl, rfl⟩
   simp only [Z36, hb]
   rw [if_pos (by rw [Z2j, Z1k hs]), fvsOf_vs, Option.map_some, Z77 hs]

theorem frzCs_ok : ∀ {xs : List PV} {σ : Heap} {L L' : List Res} {ys : List FV}, Has σ lo hi L → ExpCs L xs ys L' → ∃ σ', Z2E σ xs = some (vs ys, σ') ∧ Has σ' lo hi L' ∧ σ'.nx = σ.nx
 | [], σ, L, L', ys, H, h => by cases h; exact ⟨σ, rfl, H, rfl⟩
 | x :: xs, σ, L, L', ys, H, h => by
  cases h with
  | cons h t =>
   obtain ⟨σ1, q1, q2, q3⟩ := frzC_ok H h
   obtain ⟨σ2, p1, p2, p3⟩ := frzCs_ok q2 t
   exact ⟨σ2, by simp only [Z2E, q1, Option.bind_some, p1]; rfl, p2, p3.trans q3⟩

theorem frzV_ok {x y : PV} {L' : List Res} (H : Has σ lo hi L) (h : ExpV L x y L') (hn : Z5f x = true) : ∃ σ', Z2P σ x = some (y, σ') ∧ Has σ' lo hi L' ∧ σ'.nx = σ.nx := by
 cases h with
 | c h =>
  obtain ⟨σ', q1, q2, q3⟩ := frzC_ok H h
  refine ⟨σ', ?_, q2, q3⟩
  cases h with
  | v y => cases hn
  | n => simp only [Z2P, q1]
  | ro h =>
   rcases h with ⟨rfl, rfl⟩ | rfl
   ·simp only [Z2P, q1]
   ·cases hn
  | s k h =>
   obtain ⟨_, ⟨rfl, rfl⟩ | ⟨id, rfl, hb⟩⟩ := H.sl h
   ·simp only [Z2P, q1]
   ·simp only [Z2P, q1]
 | a h =>
  obtain ⟨σ', q1, q2, q3⟩ := frzCs_ok H h
  exact ⟨σ', by simp only [Z2P, q1, Option.bind_some], q2, q3⟩
 | p h =>
  exfalso
  cases x <;> simp [PV.pure] at h <;> simp [Z5f] at hn
  obtain ⟨z, hz, hz2⟩ := hn
  have := h z hz
  cases z <;> simp [PV.isV] at this
  simp [isRef] at hz2

theorem expP_ok : ∀ {ps qs : List (Nat × PV)} {σ : Heap} {L L' : List Res}, Has σ lo hi L → ExpP L ps qs L' → ∃ σ', Z0a σ ps = some (qs, σ') ∧ Has σ' lo hi L' ∧ σ'.nx = σ.nx
 | [], qs, σ, L, L', H, h => by cases h; exact ⟨σ, rfl, H, rfl⟩
 | p :: ps, qs, σ, L, L', H, h => by
  cases h with
  | keep h t =>
   obtain ⟨σ1, q1, q2, q3⟩ := expP_ok H t
   exact ⟨σ1, by simp only [Z0a, h, Bool.false_eq_true, if_false, q1, Option.bind_some], q2, q3⟩
  | @exp _ L1 _ j x y ps qs h t =>
   by_cases hr : Z5f x = true
   ·obtain ⟨σ1, q1, q2, q3⟩ := frzV_ok H h hr
    obtain ⟨σ2, p1, p2, p3⟩ := expP_ok q2 t
    exact ⟨σ2, by simp only [Z0a, hr, if_true, q1, Option.bind_some, p1], p2, p3.trans q3⟩
   ·have hr : Z5f x = false := by simpa using hr
    obtain ⟨rfl, rfl⟩ := expV_noref H h hr
    obtain ⟨σ2, p1, p2, p3⟩ := expP_ok H t
    exact ⟨σ2, by simp only [Z0a, hr, Bool.false_eq_true, if_false, Option.bind_some, p1], p2, p3⟩

def FrzOK (ops : Array Oper) (base i : Nat) (pp : List (Nat × PV)) : Prop :=
 Z37 (Region.before ops) ops i = true ∨ ∃ ms : List Nat, (pp.flatMap fun p => Z5Z p.2) = ms.map (base + ·) ∧
  (ms.all fun m => Nat.blt m ops.size && ((Region.before ops).getD i 0).testBit m && (List.range ops.size).all fun j => !(unord (Region.before ops) i j && ((Region.before ops).getD j 0).testBit m)) = true

theorem ask_frz {parts : Array (Nat × Operand)} {len : Nat} {pp : List (Nat × PV)} (hp : Z2z X e parts.toList = some pp) (h : FrzOK ops base i pp) : Z01 X ops base i ⟨some d, .buildSlice t1 len parts, t, p, af, none⟩ e = true := by
 rcases h with h | ⟨ms, h1, h2⟩
 ·exact Z5a h
 ·refine ask0 ?_
  have hf : frozen X e (.buildSlice t1 len parts) = ms.map (base + ·) := by simp only [frozen, hp, h1]
  simp only [Zi, Zx, hf]
  refine List.all_eq_true.2 fun k hk => ?_
  obtain ⟨m, hm, rfl⟩ := List.mem_map.1 hk
  have := List.all_eq_true.1 h2 m hm
  simp only [Bool.and_eq_true] at this
  simp only [Nat.add_sub_cancel_left, Bool.and_eq_true, decide_eq_true_eq]
  exact ⟨⟨⟨Nat.le_add_right _ _, by have := Z7t this.1.1; omega⟩, this.1.2⟩, this.2⟩

theorem Ops.buildSF {parts : Array (Nat × Operand)} {len sz : Nat} {el : TypeId} {zs : List PV} {pp qq : List (Nat × PV)} {L' : List Res} (xs : List (List FV)) (H : Has σ lo hi L) (hlo : lo ≤ base + i) (hhi : base + i < hi)
  (ht : tslice X.P t1 = some el) (hp : Z2z X e parts.toList = some pp) (hE : ExpP L pp qq L') (hs : tsize X.P el = some sz) (hz : tzero X.P el = some zs) (hc : (zs.length == sz && sz != 0 && Nat.ble (len * sz) 1000000) = true)
  (hf : Z5l (fun i => some (i * sz, sz)) (List.replicate len zs).flatten qq = some (vs xs.flatten)) (hl : xs.length = len) (hx : xs.all (fun y => y.length == sz) = true) (hd : Nat.blt d n = true) (hdr : dr = true → FrzOK ops base i pp)
  (hk : ∀ σ', Has σ' (base + i + 1) hi (.sl (.buf (base + i) len sz) el sz xs true :: L') → Ops X n dr ops base (i + 1) l (set e d (.buf (base + i) len sz)) σ' K) (hlit : X.lit = false := by rfl) :
  Ops X n dr ops base i (⟨some d, .buildSlice t1 len parts, t, p, af, none⟩ :: l) e σ K := by
 simp only [Bool.and_eq_true, beq_iff_eq, bne_iff_ne, ne_eq, Nat.ble_eq] at hc
 obtain ⟨σ1, q1, H1, q3⟩ := expP_ok H hE
 have hl0 : (X.lit && len != 0) = false := by rw [hlit]; rfl
 refine .plain (x := .buf (base + i) len sz) (σ1 := σ1.put (base + i) (.blk el (vs xs.flatten) true)) ?_ (fun h => ask_frz hp (hdr h)) hd (hk _ (H1.push hlo hhi (r' := .sl (.buf (base + i) len sz) el sz xs true) ?_ rfl))
 ·simp only [ZE, Z14, hp, Option.bind_some, q1, Z1j, ht, hs, hz]
  rw [if_pos ⟨hc.1.1, hc.1.2, hc.2⟩, hf]; simp only [litR, hl0]; rfl
 ·exact ⟨fun y hy => by have := List.all_eq_true.1 hx y hy; simpa using this, .inr ⟨base + i, by rw [hl], Z1p⟩⟩
end

end Go.Dn

namespace Go.Dn
open Go

section
variable {X : Ctx} {n : Nat} {fn : FuncId} {ops : Array Oper} {base i : Nat} {l : List Oper} {e : Env} {σ : Heap} {K : Env → Heap → Prop}
variable {d : Nat} {t t1 : TypeId} {p : String} {af : Array Edge} {x y z : Operand} {lo hi k : Nat} {L : List Res}

theorem Ops.makeMapH (H : Has σ lo hi L) (hlo : lo ≤ base + i) (hhi : base + i < hi) (ht : tmap X.P t1 = true) (hd : Nat.blt d n = true)
  (hk : ∀ σ', Has σ' (base + i + 1) hi (.mp (base + i) [] :: L) → Ops X n false ops base (i + 1) l (set e d (.mp (base + i))) σ' K) :
  Ops X n false ops base i (⟨some d, .makeMap t1 none, t, p, af, none⟩ :: l) e σ K :=
 .plain (x := .mp (base + i)) (σ1 := σ.put (base + i) (.map [])) (by simp only [ZE, ht, if_true]) (fun h => by cases h) hd
  (hk _ (H.push hlo hhi (r' := .mp (base + i) []) Z1p rfl))

theorem Has.mpE (H : Has σ lo hi L) {id : Nat} {kv : List (Int × Int)} (hk : L[k]? = some (.mp id kv)) : σ.ent id = .map kv := H.holds k _ hk

theorem Ops.lookupH {id : Nat} {kv : List (Int × Int)} {a : Int} (H : Has σ lo hi L) (k : Nat) (hk : L[k]? = some (.mp id kv)) (hx : Z1 X e x = some (.mp id)) (hy : Z1 X e y = some (.v (.int .i64 a))) (ht : tmap X.P t1 = true) (hd : Nat.blt d n = true)
  (hk' : Ops X n false ops base (i + 1) l (set e d (.v (.int .i64 (mget kv a)))) σ K) : Ops X n false ops base i (⟨some d, .lookup t1 x y false, t, p, af, none⟩ :: l) e σ K :=
 .plain (x := .v (.int .i64 (mget kv a))) (σ1 := σ) (by simp only [ZE, hx, hy, mgetD, ht, if_true, H.mpE hk, Option.map_some]) (fun h => by cases h) hd hk'

theorem Ops.mapUpdateH {id : Nat} {kv : List (Int × Int)} {a b : Int} (H : Has σ lo hi L) (k : Nat) (hk : L[k]? = some (.mp id kv)) (hx : Z1 X e x = some (.mp id)) (hy : Z1 X e y = some (.v (.int .i64 a))) (hz : Z1 X e z = some (.v (.int .i64 b))) (ht : tmap X.P t1 = true)
  (hk' : ∀ σ', Has σ' lo hi (L.set k (.mp id (mput kv a b))) → Ops X n false ops base (i + 1) l e σ' K) : Ops X n false ops base i (⟨none, .mapUpdate t1 x y z, t, p, af, none⟩ :: l) e σ K :=
 .plain0 (x := .undef) (σ1 := σ.put id (.map (mput kv a b))) (by simp only [ZE, hx, hy, hz, mupdD, ht, if_true, H.mpE hk, Option.map_some]) (fun h => by cases h)
  (hk' _ (H.put hk rfl (r' := .mp id (mput kv a b)) Z1p rfl))
end

theorem Ops.nila {X : Ctx} {n : Nat} {dr : Bool} {ops : Array Oper} {base i : Nat} {e : Env} {σ : Heap} {K : Env → Heap → Prop} {lo hi : Nat} {L : List Res} (H : Has σ lo hi L) (h : Hs σ L → K e σ) : Ops X n dr ops base i [] e σ K := .nil (h H.all)

theorem Ops.callFX {X : Ctx} {n : Nat} {dr : Bool} {ops : Array Oper} {base i : Nat} {l : List Oper} {e : Env} {σ : Heap} {K : Env → Heap → Prop} {d : Nat} {t : TypeId} {p : String} {af : Array Edge} {x : Operand} {lo hi : Nat} {L : List Res}
  {f : FuncId} {args : Array Operand} {ts : Array TypeId} {xs ys : List PV} {r : PV} {L' : List Res} (H : Has σ lo hi L) (hx : Z1 X e x = some (.v (.fn f))) (ha : Zb X e args.toList = some xs) (hE : ExpVs L xs ys L') (hf : Fn X f ys r) (hi0 : X.intr f xs = none) (hi1 : X.intr f ys = none) (hdr : dr = true → Z37 (Region.before ops) ops i = true) (hd : Nat.blt d n = true)
  (hk : ∀ σ', Has σ' lo hi L' → Ops X n dr ops base (i + 1) l (set e d r) σ' K) :
  Ops X n dr ops base i (⟨some d, .call { callee := .value x, args := args, argTypes := ts }, t, p, af, none⟩ :: l) e σ K := by
 obtain ⟨σ', q1, q2, q3, _⟩ := Z7Y H hE
 exact .plain (x := r) (σ1 := σ') (by simp only [ZE, Zv, ha, hx, callL_exp hf hi0 hi1 q2]) (fun h => Z5a (hdr h)) hd (hk σ' q3)

section
variable {X : Ctx} {n : Nat} {dr : Bool} {ops : Array Oper} {base i : Nat} {l : List Oper} {e : Env} {σ : Heap} {K : Env → Heap → Prop}
variable {d : Nat} {t t1 : TypeId} {p : String} {af : Array Edge} {x y z : Operand} {lo hi k : Nat} {L : List Res}

end
end Go.Dn

namespace Go.Dn
open Go

def Res.solid : Res → Bool
 | .hole _ => false
 | _ => true

def star (σ : Heap) : Res → Res
 | .hole id => .fix id (σ.ent id)
 | r => r

theorem Z4G {σ : Heap} {r : Res} : (star σ r).owner = r.owner := by cases r <;> rfl
theorem star_holds {σ : Heap} {r : Res} (h : r.holds σ) : (star σ r).holds σ := by cases r <;> first | exact h | exact rfl
theorem star_back {σ σ' : Heap} {r : Res} (h : (star σ r).holds σ') : r.holds σ' := by cases r <;> first | exact h | trivial
theorem star_solid {σ : Heap} {r : Res} : (star σ r).solid = true := by cases r <;> rfl
theorem Z9b {σ : Heap} {r : Res} (h : r.solid = true) : star σ r = r := by cases r <;> first | rfl | cases h

theorem same_ent {σ σ' : Heap} {r : Res} {k : Nat} (hs : r.solid = true) (ho : r.owner = some k) (h : r.holds σ) (h' : r.holds σ') : σ'.ent k = σ.ent k := by
 cases r with
 | blk id t cells => cases ho; exact Eq.trans h' (Eq.symm h)
 | sl v e sz xs live =>
  obtain ⟨_, h⟩ := h
  obtain ⟨_, h'⟩ := h'
  rcases h with ⟨rfl, _⟩ | ⟨id, rfl, h⟩
  ·cases ho
  ·cases ho
   rcases h' with ⟨h', _⟩ | ⟨id', h2, h'⟩
   ·cases h'
   ·cases h2; exact h'.trans h.symm
 | floor m => cases ho
 | hole id => cases hs
 | loop id fn e n ps as_ bo st pd => cases ho; exact Eq.trans h' (Eq.symm h)
 | mp id kv => cases ho; exact Eq.trans h' (Eq.symm h)
 | fix id en => cases ho; exact Eq.trans h' (Eq.symm h)

section
variable {σ : Heap} {lo hi : Nat} {L C : List Res}

theorem Has.star (H : Has σ lo hi L) : Has σ σ.nx σ.nx (L.map (star σ)) := by
 refine ⟨fun k r h => ?_, fun k r h id ho => ?_, fun j k r s hjk h1 h2 id ho => ?_, Nat.le_refl _⟩
 ·rw [List.getElem?_map, Option.map_eq_some_iff] at h
  obtain ⟨q, hq, rfl⟩ := h
  exact star_holds (H.holds k q hq)
 ·rw [List.getElem?_map, Option.map_eq_some_iff] at h
  obtain ⟨q, hq, rfl⟩ := h
  rw [Z4G] at ho
  have := (H.lt k q hq id ho).2
  exact ⟨.inl this, this⟩
 ·rw [List.getElem?_map, Option.map_eq_some_iff] at h1 h2
  obtain ⟨q, hq, rfl⟩ := h1
  obtain ⟨q', hq', rfl⟩ := h2
  rw [Z4G] at ho ⊢
  exact H.sep j k q q' hjk hq hq' id ho

theorem Has.add (H : Has σ σ.nx σ.nx L) {id : Nat} (hl : id < σ.nx) (hn : ∀ r ∈ L, r.owner ≠ some id) : Has σ σ.nx σ.nx (.fix id (σ.ent id) :: L) := by
 refine ⟨fun j s h => ?_, fun j s h id' ho2 => ?_, fun i j s t hij h1 h2 id' hs => ?_, H.le⟩
 ·cases j with
  | zero => cases h; exact rfl
  | succ j => exact H.holds j s h
 ·cases j with
  | zero => cases h; cases ho2; exact ⟨.inl hl, hl⟩
  | succ j => exact H.lt j s h id' ho2
 ·cases i with
  | zero =>
   cases h1
   cases hs
   cases j with
   | zero => exact absurd rfl hij
   | succ j => exact hn t (List.mem_of_getElem? h2)
  | succ i =>
   cases j with
   | zero =>
    cases h2
    intro e
    cases e
    exact hn s (List.mem_of_getElem? h1) hs
   | succ j => exact H.sep i j s t (fun e => hij (by rw [e])) h1 h2 id' hs

def fixL (σ : Heap) (L : List Res) : Nat → List Res
 | 0 => L.map (star σ)
 | k + 1 => if (fixL σ L k).any (fun r => r.owner == some k) then fixL σ L k else .fix k (σ.ent k) :: fixL σ L k

theorem fixL_has (H : Has σ lo hi L) : ∀ (m : Nat), m ≤ σ.nx → Has σ σ.nx σ.nx (fixL σ L m)
 | 0, _ => H.star
 | k + 1, h => by
  have ih := fixL_has H k (by omega)
  simp only [fixL]
  split
  ·exact ih
  ·rename_i hn
   refine ih.add (by omega) fun r hr ho => hn ?_
   rw [List.any_eq_true]
   exact ⟨r, hr, by rw [ho]; simp⟩

theorem Sub.star {C L : List Res} (h : Sub C L) : C.all Res.solid = true → Sub C (L.map (star σ)) := by
 induction h with
 | nil => intro _; exact .nil
 | cons k h t ih =>
  intro hs
  simp only [List.all_cons, Bool.and_eq_true] at hs
  exact .cons k (by rw [List.getElem?_map, h, Option.map_some, Z9b hs.1]) (ih hs.2)

theorem Z52 {r : Res} (h : r ∈ L) : ∀ (m : Nat), star σ r ∈ fixL σ L m
 | 0 => List.mem_map.2 ⟨r, h, rfl⟩
 | k + 1 => by
  simp only [fixL]
  split
  ·exact Z52 h k
  ·exact List.mem_cons_of_mem _ (Z52 h k)

theorem Z72 : ∀ (m : Nat), ∀ r ∈ fixL σ L m, r.solid = true
 | 0, r, h => by
  obtain ⟨q, _, rfl⟩ := List.mem_map.1 h
  exact star_solid
 | k + 1, r, h => by
  simp only [fixL] at h
  split at h
  ·exact Z72 k r h
  ·rcases List.mem_cons.1 h with rfl | h
   ·rfl
   ·exact Z72 k r h

theorem fixL_all : ∀ (m k : Nat), k < m → ∃ r ∈ fixL σ L m, r.owner = some k
 | 0, k, h => by omega
 | m + 1, k, h => by
  simp only [fixL]
  split
  ·rename_i hn
   rcases Nat.lt_or_ge k m with h' | h'
   ·exact fixL_all m k h'
   ·have : k = m := by omega
    subst this
    rw [List.any_eq_true] at hn
    obtain ⟨r, hr, ho⟩ := hn
    exact ⟨r, hr, by simpa using ho⟩
  ·rcases Nat.lt_or_ge k m with h' | h'
   ·obtain ⟨r, hr, ho⟩ := fixL_all m k h'
    exact ⟨r, List.mem_cons_of_mem _ hr, ho⟩
   ·have : k = m := by omega
    subst this
    exact ⟨_, List.mem_cons_self, rfl⟩

theorem fixL_out {σ' : Heap} {A : List Res} (H : Has σ lo hi L) (hm : hi ≤ σ.nx) {lo' hi' : Nat} (H' : Has σ' lo' hi' (A ++ fixL σ L hi)) : (∀ k, k < hi → σ'.ent k = σ.ent k) ∧ Has σ' lo hi (A ++ L) := by
 have hh : ∀ r ∈ fixL σ L hi, ∃ j, (A ++ fixL σ L hi)[A.length + j]? = some r := fun r hr => by
  obtain ⟨j, hj, rfl⟩ := List.getElem_of_mem hr
  exact ⟨j, by rw [List.getElem?_append_right (by omega), Nat.add_sub_cancel_left, List.getElem?_eq_getElem hj]⟩
 have h0 : ∀ r ∈ fixL σ L hi, r.holds σ := fun r hr => by
  obtain ⟨j, hj, rfl⟩ := List.getElem_of_mem hr
  exact (fixL_has H hi hm).holds j _ (List.getElem?_eq_getElem hj)
 have hA : ∀ (j : Nat) (r : Res), A[j]? = some r → (A ++ fixL σ L hi)[j]? = some r := fun j r h => by
  rw [List.getElem?_append_left (List.getElem?_eq_some_iff.1 h).1]; exact h
 have hAl : ∀ (j : Nat) (r : Res), A[j]? = some r → j < A.length := fun j r h => (List.getElem?_eq_some_iff.1 h).1
 have all : ∀ k, k < hi → ∃ r ∈ fixL σ L hi, r.owner = some k := fun k hk => fixL_all hi k hk
 have big : hi ≤ σ'.nx := by
  rcases Nat.eq_zero_or_pos hi with h | h
  ·omega
  ·obtain ⟨r, hr, ho⟩ := all (hi - 1) (by omega)
   obtain ⟨j, hj⟩ := hh r hr
   have := (H'.lt _ r hj _ ho).2
   omega
 refine ⟨fun k hk => ?_, fun k r h => ?_, fun k r h id ho => ?_, fun i j r s hij h1 h2 id ho => ?_, big⟩
 ·obtain ⟨r, hr, ho⟩ := all k hk
  obtain ⟨j, hj⟩ := hh r hr
  exact same_ent (Z72 hi r hr) ho (h0 r hr) (H'.holds _ r hj)
 ·rcases Nat.lt_or_ge k A.length with hk | hk
  ·rw [List.getElem?_append_left hk] at h
   exact H'.holds k r (hA k r h)
  ·rw [List.getElem?_append_right hk] at h
   obtain ⟨j, hj⟩ := hh _ (Z52 (List.mem_of_getElem? h) hi)
   exact star_back (H'.holds _ _ hj)
 ·rcases Nat.lt_or_ge k A.length with hk | hk
  ·rw [List.getElem?_append_left hk] at h
   refine ⟨.inr ?_, (H'.lt k r (hA k r h) id ho).2⟩
   rcases Nat.lt_or_ge id hi with h' | h'
   ·obtain ⟨q, hq, hqo⟩ := all id h'
    obtain ⟨j, hj⟩ := hh q hq
    exact absurd hqo (H'.sep k _ r q (by omega) (hA k r h) hj id ho)
   ·exact h'
  ·rw [List.getElem?_append_right hk] at h
   obtain ⟨j, hj⟩ := hh _ (Z52 (List.mem_of_getElem? h) hi)
   exact ⟨(H.lt _ r h id ho).1, (H'.lt _ _ hj id (by rw [Z4G]; exact ho)).2⟩
 ·rcases Nat.lt_or_ge i A.length with hi' | hi' <;> rcases Nat.lt_or_ge j A.length with hj' | hj'
  ·rw [List.getElem?_append_left hi'] at h1
   rw [List.getElem?_append_left hj'] at h2
   exact H'.sep i j r s hij (hA i r h1) (hA j s h2) id ho
  ·rw [List.getElem?_append_left hi'] at h1
   rw [List.getElem?_append_right hj'] at h2
   obtain ⟨k, hk⟩ := hh _ (Z52 (List.mem_of_getElem? h2) hi)
   have := H'.sep i _ r _ (by omega) (hA i r h1) hk id ho
   rw [Z4G] at this
   exact this
  ·rw [List.getElem?_append_right hi'] at h1
   rw [List.getElem?_append_left hj'] at h2
   obtain ⟨k, hk⟩ := hh _ (Z52 (List.mem_of_getElem? h1) hi)
   exact H'.sep _ j _ s (by omega) hk (hA j s h2) id (by rw [Z4G]; exact ho)
  ·rw [List.getElem?_append_right hi'] at h1
   rw [List.getElem?_append_right hj'] at h2
   exact H.sep _ _ r s (by omega) h1 h2 id ho
end

section
variable {X : Ctx} {n : Nat} {dr : Bool} {fn : FuncId} {ops : Array Oper} {base i : Nat} {l : List Oper} {e : Env} {σ : Heap} {K : Env → Heap → Prop}
variable {d : Nat} {t : TypeId} {p : String} {af : Array Edge} {x : Operand} {lo hi : Nat} {L C : List Res}

theorem Ops.stepS {o : Oper} {e1 : Env} {σ1 : Heap} (h : Z0x X (Z0P X) n ops base i o e σ = some (e1, σ1)) (ha : dr = true → Z3D X (Z0P X) ops base i o e σ) (hk : Ops X n dr ops base (i + 1) l e1 σ1 K) : Ops X n dr ops base i (o :: l) e σ K := by
 obtain ⟨e', σ', h1, h2⟩ := hk.run
 refine ⟨⟨e', σ', ?_, h2⟩⟩
 cases dr with
 | false =>
  simp only [Bool.false_eq_true, if_false] at h1 ⊢
  simp only [Z1Y, h, Option.bind_some, h1]
 | true =>
  simp only [if_true] at h1 ⊢
  have : Z0h X (Z0P X) n ops base i o e σ = some (e1, σ1) := by
   unfold Z0h
   split
   ·rw [if_pos (ha rfl)]; exact h
   ·exact h
  simp only [Z0z, this, Option.bind_some, h1]

theorem Ops.plainS {op : Op} {v : PV} {σ1 : Heap} (h : ZE X (Z0P X) e σ (base + i) op = some (v, σ1)) (hkd : Zx op = .call) (hq : dr = true → Z4U ops i = true) (hs : ∀ k, k < base + ops.size → Alike (σ.ent k) (σ1.ent k)) (hd : Nat.blt d n = true) (hk : Ops X n dr ops base (i + 1) l (set e d v) σ1 K) : Ops X n dr ops base i (⟨some d, op, t, p, af, none⟩ :: l) e σ K := by
 refine .stepS (e1 := set e d v) (σ1 := σ1) ?_ (fun hdr => ⟨hkd, hq hdr, fun id r σ' hr => ?_⟩) hk
 ·simp only [Z0x, Z0N, h, Option.bind_some, putD, if_pos (Z7t hd), set_eq]
 ·have h2 : ZE X (Z0P X) e σ id op = some (v, σ1) := by rw [Z5u (id' := base + i) hkd]; exact h
  rw [h2] at hr
  cases hr
  exact hs

end

theorem Z93 {σ : Heap} {L : List Res} : ∀ (m : Nat), ∃ P, fixL σ L m = P ++ L.map (star σ)
 | 0 => ⟨[], rfl⟩
 | k + 1 => by
  obtain ⟨P, hP⟩ := Z93 (σ := σ) (L := L) k
  simp only [fixL]
  split
  ·exact ⟨P, hP⟩
  ·exact ⟨.fix k (σ.ent k) :: P, by rw [hP]; rfl⟩

theorem Sub.push_all {C L : List Res} (h : Sub C L) : ∀ (P : List Res), Sub C (P ++ L)
 | [] => h
 | r :: P => (h.push_all P).push

theorem star_all {σ : Heap} {A : List Res} (h : A.all Res.solid = true) : A.map (star σ) = A := by
 induction A with
 | nil => rfl
 | cons r A ih =>
  simp only [List.all_cons, Bool.and_eq_true] at h
  rw [List.map_cons, Z9b h.1, ih h.2]

theorem Ops.callIS {X : Ctx} {n : Nat} {dr : Bool} {ops : Array Oper} {base i : Nat} {l : List Oper} {e : Env} {σ : Heap} {K : Env → Heap → Prop} {d : Nat} {t : TypeId} {p : String} {af : Array Edge} {x : Operand} {lo hi : Nat} {L : List Res}
  {cv : PV} {args : Array Operand} {ts : Array TypeId} {ys : List PV} {PostA : PV → List Res → Prop} (A : List Res) (H : Has σ lo hi (A ++ L)) (hx : Z1 X e x = some cv) (ha : Zb X e args.toList = some ys)
  (hf : ∀ T, (∀ C, Sub C L → C.all Res.solid = true → Sub C T) → Hs σ (A ++ T) → CallI X cv ys σ T PostA) (hpost : ∀ r A', PostA r A' → A' = A) (hA : A.all Res.solid = true) (hhi : base + ops.size = hi)
  (hq : dr = true → Z4U ops i = true) (hd : Nat.blt d n = true)
  (hk : ∀ r A' σ', PostA r A' → Has σ' lo hi (A' ++ L) → Ops X n dr ops base (i + 1) l (set e d r) σ' K) :
  Ops X n dr ops base i (⟨some d, .call { callee := .value x, args := args, argTypes := ts }, t, p, af, none⟩ :: l) e σ K := by
 obtain ⟨P, hP⟩ := Z93 (σ := σ) (L := A ++ L) hi
 have H1 := fixL_has H hi H.le
 rw [hP, List.map_append, star_all hA, ← List.append_assoc] at H1
 have H2 : Hs σ (A ++ (P ++ L.map (star σ))) := by
  rw [← List.append_assoc]
  exact H1.perm (List.Perm.append_right _ List.perm_append_comm)
 obtain ⟨r, σ', A', q1, q2, q3⟩ := hf (P ++ L.map (star σ)) (fun C hC hs => (hC.star hs).push_all P) H2
 have hA' := hpost r A' q2
 subst hA'
 have H3 : Hs σ' (fixL σ (A' ++ L) hi) := by
  rw [hP, List.map_append, star_all hA, ← List.append_assoc]
  rw [← List.append_assoc] at q3
  exact q3.perm (List.Perm.append_right _ List.perm_append_comm)
 obtain ⟨q4, q5⟩ := fixL_out (A := []) H H.le H3
 subst hhi
 refine .plainS (v := r) (σ1 := σ') ?_ rfl hq (fun k hk => .inl (q4 k hk)) hd (hk r A' σ' q2 q5)
 simp only [ZE]
 exact Z9Z rfl hx ha q1

inductive FzC (L : List Res) : PV → FV → Prop
 | v (y : FV) : FzC L (.v y) y
 | n : FzC L .nils (.sl [])
 | ro {v : PV} {xs : List (List FV)} (h : RO v xs) : FzC L v (.sl xs)
 | s {v : PV} {et : TypeId} {sz : Nat} {xs : List (List FV)} (k : Nat) (h : L[k]? = some (.sl v et sz xs false)) : FzC L v (.sl xs)

inductive FzCs (L : List Res) : List PV → List FV → Prop
 | nil : FzCs L [] []
 | cons {x : PV} {y : FV} {xs : List PV} {ys : List FV} (h : FzC L x y) (t : FzCs L xs ys) : FzCs L (x :: xs) (y :: ys)

inductive FzV (L : List Res) : PV → PV → Prop
 | c {x : PV} {y : FV} (h : FzC L x y) : FzV L x (.v y)
 | a {xs : List PV} {ys : List FV} (h : FzCs L xs ys) : FzV L (.agg xs) (.agg (vs ys))
 | p {x : PV} (h : x.pure = true) : FzV L x x

inductive FzVs (L : List Res) : List PV → List PV → Prop
 | nil : FzVs L [] []
 | cons {x y : PV} {xs ys : List PV} (h : FzV L x y) (t : FzVs L xs ys) : FzVs L (x :: xs) (y :: ys)

section
variable {σ : Heap} {lo hi : Nat} {L : List Res}

end

end Go.Dn

namespace Go.Dn
open Go Go.Proofs
def cloneV (sz by_ : Nat) : List PV → Option PV
 | [.v (.sl xs)] => if (xs.all fun y => y.length == sz) = true ∧ xs.length * by_ ≤ room then some (.v (.sl xs)) else none
 | _ => none
noncomputable def CA : Ctx := { P := Try.prog, glob := fun _ => none, intr := fun f args => none, opn := fun f => f == 25, keep := fun f => false, lit := true }
noncomputable def C0 : Ctx := { P := Try.prog, glob := fun _ => none, intr := fun _ _ => none, opn := fun _ => false, keep := fun _ => false }
theorem prog_ok : ProgOK Try.prog := by
 refine ⟨fun f fn h => ?_, by kernel_rfl⟩
 have hall : Try.prog.funcs.all (fun fn => !(fn.name == "runtime.NumGoroutine")) = true := by kernel_rfl
 have := Array.all_eq_true_iff_forall_mem.1 hall fn (Array.mem_of_getElem? h)
 simpa using this
theorem ca_ok : CtxOK CA := by
 refine ⟨prog_ok, fun f args r h s hi hG vs hv hp => ?_⟩
 simp only [CA] at h
 cases h
noncomputable def CX : Ctx := { P := Try.prog, glob := fun _ => none, intr := fun f args => CA.intr f args, opn := fun f => f == 14 || f == 25, keep := fun f => f == 14 }
theorem cx_ok : CtxOK CX := by
 refine ⟨prog_ok, fun f args r h s hi hG vs hv hp => ?_⟩
 simp only [CX] at h
 exact ca_ok.intr f args r h s hi hG vs hv hp

end Go.Dn

namespace Go.Dn
open Go

structure Span where
 From : Int
 To : Int
 deriving DecidableEq

def Span.cs (x : Span) : List FV := [(.int .i64 x.From), (.int .i64 x.To)]

def Span.ok (x : Span) : Prop := okI .i64 x.From ∧ okI .i64 x.To

structure Granule where
 Index : Int
 Ticks : (List Span)
 deriving DecidableEq

def Granule.cs (x : Granule) : List FV := [(.int .i64 x.Index), (.sl (x.Ticks.map Span.cs))]

def Granule.ok (x : Granule) : Prop := okI .i64 x.Index ∧ okL 16 Span.ok x.Ticks

structure Form where
 Period : Int
 Count : Int
 Core : (List (List Span))
 Odd : (List Granule)
 deriving DecidableEq

def Form.cs (x : Form) : List FV := [(.int .i64 x.Period), (.int .i64 x.Count), (.sl (x.Core.map (cL Span.cs))), (.sl (x.Odd.map Granule.cs))]

def Form.ok (x : Form) : Prop := okI .i64 x.Period ∧ okI .i64 x.Count ∧ okL 24 (okL 16 Span.ok) x.Core ∧ okL 32 Granule.ok x.Odd

structure Bound where
 Inf : Int
 N : Int
 deriving DecidableEq

def Bound.cs (x : Bound) : List FV := [(.int .i8 x.Inf), (.int .i64 x.N)]

def Bound.ok (x : Bound) : Prop := okI .i8 x.Inf ∧ okI .i64 x.N

structure Range where
 Low : Int
 High : Int
 HasLow : Bool
 HasHigh : Bool
 deriving DecidableEq

def Range.cs (x : Range) : List FV := [(.int .i64 x.Low), (.int .i64 x.High), (.bool x.HasLow), (.bool x.HasHigh)]

def Range.ok (x : Range) : Prop := okI .i64 x.Low ∧ okI .i64 x.High ∧ okB x.HasLow ∧ okB x.HasHigh

structure size_place where
 first : Int
 last : Int
 deriving DecidableEq

def size_place.cs (x : size_place) : List FV := [(.int .i64 x.first), (.int .i64 x.last)]

def size_place.ok (x : size_place) : Prop := okI .i64 x.first ∧ okI .i64 x.last

structure size_spot where
 index : Int
 place : size_place
 deriving DecidableEq

def size_spot.cs (x : size_spot) : List FV := [(.int .i64 x.index), (.int .i64 x.place.first), (.int .i64 x.place.last)]

def size_spot.ok (x : size_spot) : Prop := okI .i64 x.index ∧ size_place.ok x.place

structure size_form where
 Form : Form
 spots : (List size_spot)
 deriving DecidableEq

def size_form.cs (x : size_form) : List FV := [(.int .i64 x.Form.Period), (.int .i64 x.Form.Count), (.sl (x.Form.Core.map (cL Span.cs))), (.sl (x.Form.Odd.map Granule.cs)), (.sl (x.spots.map size_spot.cs))]

def size_form.ok (x : size_form) : Prop := Form.ok x.Form ∧ okL 24 size_spot.ok x.spots

structure carry_asked where
 f : Form
 m : Int
 deriving DecidableEq

def carry_asked.cs (x : carry_asked) : List FV := [(.int .i64 x.f.Period), (.int .i64 x.f.Count), (.sl (x.f.Core.map (cL Span.cs))), (.sl (x.f.Odd.map Granule.cs)), (.int .i64 x.m)]

def carry_asked.ok (x : carry_asked) : Prop := Form.ok x.f ∧ okI .i64 x.m

structure Con where
 X : Int
 Y : Int
 Form : Int
 Range : Range
 deriving DecidableEq

def Con.cs (x : Con) : List FV := [(.int .i64 x.X), (.int .i64 x.Y), (.int .i64 x.Form), (.int .i64 x.Range.Low), (.int .i64 x.Range.High), (.bool x.Range.HasLow), (.bool x.Range.HasHigh)]

def Con.ok (x : Con) : Prop := okI .i64 x.X ∧ okI .i64 x.Y ∧ okI .i64 x.Form ∧ Range.ok x.Range

structure Net where
 Vars : Int
 Forms : (List Form)
 Cons : (List Con)
 deriving DecidableEq

def Net.cs (x : Net) : List FV := [(.int .i64 x.Vars), (.sl (x.Forms.map Form.cs)), (.sl (x.Cons.map Con.cs))]

def Net.ok (x : Net) : Prop := okI .i64 x.Vars ∧ okL 64 Form.ok x.Forms ∧ okL 48 Con.ok x.Cons

noncomputable def Z00.s0 (f : Form) (s1 : Int × Int) : Option ((Int × Int) ⊕ (Int)) :=
 (bif (decide (s1.2 < (f.Core.length : Int))) then
  (at? f.Core s1.2).bind fun x1 =>
  some (.inl ((w64 (s1.1 + (x1.length : Int))), (w64 (s1.2 + 1))))
 else
  some (.inr s1.1))

noncomputable def Z00.s1 (f : Form) (s2 : Int × Int) : Option ((Int × Int) ⊕ (Int)) :=
 (bif (decide (s2.2 < (f.Odd.length : Int))) then
  (at? f.Odd s2.2).bind fun x2 =>
  some (.inl ((w64 (s2.1 + (x2.Ticks.length : Int))), (w64 (s2.2 + 1))))
 else
  some (.inr s2.1))

noncomputable def Z00 (f : Form) : Option (Int) :=
 (ZK (Z00.s0 f) (0, 0)).bind fun (y1 : Int) =>
 (ZK (Z00.s1 f) (y1, 0)).bind fun (y2 : Int) =>
 some y2

noncomputable def Z04 (f : Form) : Option (Bool) :=
 (
  (bif ((decide ((f.Core.length : Int) ≤ 12)) && (decide ((f.Odd.length : Int) ≤ 8))) then
   (Z00 f).bind fun x1 =>
   some (decide (x1 ≤ 60))
  else
   some false)).bind fun (y1 : Bool) =>
 some y1

noncomputable def ZW (t : Int) : Bool :=
 ((decide (t ≥ (-1099511627776))) && (decide (t ≤ 1099511627776)))

noncomputable def Z02.s0 (l : (List Span)) (s1 : Int) : Option ((Int) ⊕ (Jx (Unit) (Bool))) :=
 (bif (decide (s1 < (l.length : Int))) then
  (at? l s1).bind fun x1 =>
  (
   (bif (((!(ZW x1.From)) || (!(ZW x1.To))) || (decide (x1.From > x1.To))) then
    some true
   else
    (
     (bif (decide (s1 > 0)) then
      (at? l (w64 (s1 - 1))).bind fun x2 =>
      some (decide (x1.From < (w64 (x2.To + 2))))
     else
      some false)).bind fun (y3 : Bool) =>
    some y3)).bind fun (y2 : Bool) =>
  (bif y2 then
   some (.inr (.ret false))
  else
   some (.inl (w64 (s1 + 1))))
 else
  some (.inr (.go ())))

noncomputable def Z02 (l : (List Span)) : Option (Bool) :=
 (ZK (Z02.s0 l) 0).bind fun (y1 : Jx (Unit) (Bool)) =>
 y1.elim (fun r' =>
   some r') fun a2 =>
 some true

noncomputable def Zh (i : Int) : Bool :=
 ((decide (i ≥ (-1099511627776))) && (decide (i ≤ 1099511627776)))

noncomputable def Zd.s0 (f : Form) (s1 : Int) : Option ((Int) ⊕ (Jx (Unit) (Bool))) :=
 (bif (decide (s1 < (f.Core.length : Int))) then
  (at? f.Core s1).bind fun x1 =>
  (Z02 x1).bind fun x2 =>
  (bif (!x2) then
   some (.inr (.ret false))
  else
   some (.inl (w64 (s1 + 1))))
 else
  some (.inr (.go ())))

noncomputable def Zd.s1 (f : Form) (s2 : Int) : Option ((Int) ⊕ (Jx (Unit) (Bool))) :=
 (bif (decide (s2 < (f.Odd.length : Int))) then
  (at? f.Odd s2).bind fun x3 =>
  (Z02 x3.Ticks).bind fun x4 =>
  (
   (bif ((!x4) || (!(Zh x3.Index))) then
    some true
   else
    (
     (bif (decide (s2 > 0)) then
      (at? f.Odd (w64 (s2 - 1))).bind fun x5 =>
      some (decide (x3.Index ≤ x5.Index))
     else
      some false)).bind fun (y4 : Bool) =>
    some y4)).bind fun (y3 : Bool) =>
  (bif y3 then
   some (.inr (.ret false))
  else
   some (.inl (w64 (s2 + 1))))
 else
  some (.inr (.go ())))

noncomputable def Zd (f : Form) : Option (Bool) :=
 (bif ((((f.Count != (f.Core.length : Int)) || ((f.Count == 0) != (f.Period == 0))) || (decide (f.Period < 0))) || (decide (f.Period > 1099511627776))) then
  some false
 else
  (ZK (Zd.s0 f) 0).bind fun (y1 : Jx (Unit) (Bool)) =>
  y1.elim (fun r' =>
    some r') fun a2 =>
  (ZK (Zd.s1 f) 0).bind fun (y2 : Jx (Unit) (Bool)) =>
  y2.elim (fun r' =>
    some r') fun a4 =>
  some true)

noncomputable def Z06.s0 (f : Form) (s2 : Int × (List (List Span))) : Option ((Int × (List (List Span))) ⊕ ((List (List Span)))) :=
 (bif (decide (s2.1 < (f.Core.length : Int))) then
  (
   (
    (at? f.Core s2.1).bind fun x1 =>
    (bif (decide ((x1.length : Int) > 0)) then
     (app? 24 s2.2 [x1]).bind fun x2 =>
     some x2
    else
     some s2.2)).bind fun (y3 : (List (List Span))) =>
   some y3).bind fun (y2 : (List (List Span))) =>
  some (.inl ((w64 (s2.1 + 1)), y2))
 else
  some (.inr s2.2))

noncomputable def Z06.s1 (f : Form) (y1 : (List (List Span))) (s3 : Int) : Option ((Int) ⊕ (Jx (Unit) (Bool))) :=
 (bif (decide (s3 < (y1.length : Int))) then
  (
   (
    (at? y1 s3).bind fun x3 =>
    (nz? (y1.length : Int)).bind fun u1 =>
    (at? y1 ((w64 (s3 + 1)).tmod (y1.length : Int))).bind fun x4 =>
    (
     (bif ((w64 (s3 + 1)) == (y1.length : Int)) then
      some f.Period
     else
      some 0)).bind fun (y7 : Int) =>
    (at? x3 (w64 ((x3.length : Int) - 1))).bind fun x5 =>
    (at? x4 0).bind fun x6 =>
    (bif (decide (x5.To ≥ (w64 (x6.From + y7)))) then
     some (.ret false)
    else
     some (.go ()))).bind fun (y6 : Jx (Unit) (Bool)) =>
   y6.elim (fun r' =>
     some (.ret r')) fun a4 =>
   some (.go ())).bind fun (y5 : Jx (Unit) (Bool)) =>
  y5.elim (fun r' =>
    some (.inr (.ret r'))) fun a5 =>
  some (.inl (w64 (s3 + 1)))
 else
  some (.inr (.go ())))

noncomputable def Z06 (f : Form) : Option (Bool) :=
 (ZK (Z06.s0 f) (0, [])).bind fun (y1 : (List (List Span))) =>
 (ZK (Z06.s1 f y1) 0).bind fun (y4 : Jx (Unit) (Bool)) =>
 y4.elim (fun r' =>
   some r') fun a6 =>
 some true

noncomputable def Z4.s0 (x' : (List Granule)) (target : Int) (cmp : Granule → Int → Option Int) (s1 : Int × Int) : Option ((Int × Int) ⊕ (Int)) :=
 (bif (decide (s1.1 < s1.2)) then
  (
   (at? x' (w64 ((IntKind.u64.wrap (w64 (s1.1 + s1.2))).fdiv (2 ^ 1)))).bind fun x1 =>
   (cmp x1 target).bind fun x2 =>
   (bif (decide (x2 < 0)) then
    some ((w64 ((w64 ((IntKind.u64.wrap (w64 (s1.1 + s1.2))).fdiv (2 ^ 1))) + 1)), s1.2)
   else
    some (s1.1, (w64 ((IntKind.u64.wrap (w64 (s1.1 + s1.2))).fdiv (2 ^ 1)))))).bind fun (y2 : Int × Int) =>
  some (.inl (y2.1, y2.2))
 else
  some (.inr s1.1))

noncomputable def Z4 (x' : (List Granule)) (target : Int) (cmp : Granule → Int → Option Int) : Option (Int × Bool) :=
 (ZK (Z4.s0 x' target cmp) (0, (x'.length : Int))).bind fun (y1 : Int) =>
 (
  (bif (decide (y1 < (x'.length : Int))) then
   (at? x' y1).bind fun x3 =>
   (cmp x3 target).bind fun x4 =>
   some (x4 == 0)
  else
   some false)).bind fun (y3 : Bool) =>
 some (y1, y3)

noncomputable def Zt (x' : Int) : Bool :=
 (x' != x')

noncomputable def Z0Q (x' : Int) (y : Int) : Int :=
 (bif (Zt x') then
  (bif (Zt y) then
   0
  else
   (-1))
 else
  (bif (Zt y) then
   1
  else
   (bif (decide (x' < y)) then
    (-1)
   else
    (bif (decide (x' > y)) then
     1
    else
     0))))

noncomputable def Z2h (g : Granule) (i : Int) : Int :=
 (Z0Q g.Index i)

noncomputable def Z3e (f : Form) (i : Int) : Option (Int × Bool) :=
 (Z4 f.Odd i (fun z0 z1 => some (Z2h z0 z1))).bind fun x1 =>
 some (x1.1, x1.2)

noncomputable def Z19 (a : Int) (b : Int) : Option (Int × Int × Int) :=
 (bif (b == 0) then
  some (0, 0, 11)
 else
  (bif ((b == (-1)) && (a == (-9223372036854775808))) then
   some (0, 0, 10)
  else
   (nz? b).bind fun u1 =>
   (nz? b).bind fun u2 =>
   (
    (bif (((a.tmod b) != 0) && ((decide ((a.tmod b) < 0)) != (decide (b < 0)))) then
     some ((w64 ((w64 (a.tdiv b)) - 1)), (w64 ((a.tmod b) + b)))
    else
     some ((w64 (a.tdiv b)), (a.tmod b)))).bind fun (y1 : Int × Int) =>
   some (y1.1, y1.2, 0)))

noncomputable def ZD (a : Int) : Int :=
 (bif (decide (a < 0)) then
  (IntKind.u64.wrap (0 - (IntKind.u64.wrap a)))
 else
  (IntKind.u64.wrap a))

noncomputable def ZI (x' : Int) (y : Int) : Int × Int :=
 ((IntKind.u64.wrap ((IntKind.u64.wrap ((IntKind.u64.wrap ((x'.fdiv (2 ^ 32)) * (y.fdiv (2 ^ 32)))) + ((IntKind.u64.wrap ((IntKind.u64.wrap ((x'.fdiv (2 ^ 32)) * (iAnd .u64 y 4294967295))) + ((IntKind.u64.wrap ((iAnd .u64 x' 4294967295) * (iAnd .u64 y 4294967295))).fdiv (2 ^ 32)))).fdiv (2 ^ 32)))) + ((IntKind.u64.wrap ((iAnd .u64 (IntKind.u64.wrap ((IntKind.u64.wrap ((x'.fdiv (2 ^ 32)) * (iAnd .u64 y 4294967295))) + ((IntKind.u64.wrap ((iAnd .u64 x' 4294967295) * (iAnd .u64 y 4294967295))).fdiv (2 ^ 32)))) 4294967295) + (IntKind.u64.wrap ((iAnd .u64 x' 4294967295) * (y.fdiv (2 ^ 32)))))).fdiv (2 ^ 32)))), (IntKind.u64.wrap (x' * y)))

noncomputable def Z0G (n : Int) (minus : Bool) : Int × Int :=
 (bif (minus && (decide (n ≤ 9223372036854775808))) then
  ((w64 (IntKind.u64.wrap (0 - n))), 0)
 else
  (bif ((!minus) && (decide (n ≤ 9223372036854775807))) then
   ((w64 n), 0)
  else
   (0, 10)))

noncomputable def Z0J (a : Int) (b : Int) : Int × Int :=
 (bif (((ZI (ZD a) (ZD b)).1) != 0) then
  (0, 10)
 else
  ((Z0G ((ZI (ZD a) (ZD b)).2) ((decide (a < 0)) != (decide (b < 0)))).1, (Z0G ((ZI (ZD a) (ZD b)).2) ((decide (a < 0)) != (decide (b < 0)))).2))

noncomputable def Z1x (f : Form) (i : Int) : Option ((List Span) × Int × Int) :=
 (Z3e f i).bind fun x1 =>
 (bif x1.2 then
  (at? f.Odd x1.1).bind fun x2 =>
  some (x2.Ticks, 0, 0)
 else
  (bif (f.Count == 0) then
   some ([], 0, 0)
  else
   (Z19 i f.Count).bind fun x3 =>
   (at? f.Core x3.2.1).bind fun x4 =>
   some (x4, (Z0J x3.1 f.Period).1, (Z0J x3.1 f.Period).2)))

noncomputable def ZB (a : Int) (b : Int) : Int × Int :=
 (bif (((decide ((w64 (a + b)) > a)) != (decide (b > 0))) && (b != 0)) then
  (0, 10)
 else
  ((w64 (a + b)), 0))

noncomputable def Z0A.s0 (l : (List Span)) (by' : Int) (s2 : Int × (List Span)) : Option ((Int × (List Span)) ⊕ (Jx ((List Span)) ((List Span) × Int))) :=
 (bif (decide (s2.1 < (l.length : Int))) then
  (at? l s2.1).bind fun x1 =>
  (bif ((((((ZB x1.From by').2) != 0) || (((ZB x1.To by').2) != 0)) || (!(ZW ((ZB x1.From by').1)))) || (!(ZW ((ZB x1.To by').1)))) then
   some (.inr (.ret ([], 20)))
  else
   (app? 16 s2.2 [(Span.mk ((ZB x1.From by').1) ((ZB x1.To by').1))]).bind fun x2 =>
   some (.inl ((w64 (s2.1 + 1)), x2)))
 else
  some (.inr (.go s2.2)))

noncomputable def Z0A (l : (List Span)) (by' : Int) : Option ((List Span) × Int) :=
 (ZK (Z0A.s0 l by') (0, [])).bind fun (y1 : Jx ((List Span)) ((List Span) × Int)) =>
 y1.elim (fun r' =>
   some r') fun a2 =>
 some (a2, 0)

noncomputable def Z0F (f : Form) (i : Int) : Option ((List Span) × Int) :=
 (bif (!(Zh i)) then
  some ([], 20)
 else
  (Z1x f i).bind fun x1 =>
  (bif ((x1.1.length : Int) == 0) then
   some ([], 0)
  else
   (bif (x1.2.2 != 0) then
    some ([], 20)
   else
    (Z0A x1.1 x1.2.1).bind fun x2 =>
    some (x2.1, x2.2))))

noncomputable def ZF.s0 (s : (List (List Span))) (f : (List Span) → Option Bool) (s1 : Int) : Option ((Int) ⊕ (Jx (Unit) (Int))) :=
 (bif (decide (s1 < (s.length : Int))) then
  (at? s s1).bind fun x1 =>
  (f x1).bind fun x2 =>
  (bif x2 then
   some (.inr (.ret s1))
  else
   some (.inl (w64 (s1 + 1))))
 else
  some (.inr (.go ())))

noncomputable def ZF (s : (List (List Span))) (f : (List Span) → Option Bool) : Option (Int) :=
 (ZK (ZF.s0 s f) 0).bind fun (y1 : Jx (Unit) (Int)) =>
 y1.elim (fun r' =>
   some r') fun a2 =>
 some (-1)

noncomputable def ZY (s : (List (List Span))) (f : (List Span) → Option Bool) : Option (Bool) :=
 (ZF s f).bind fun x1 =>
 some (decide (x1 ≥ 0))

noncomputable def Z3c (l : (List Span)) : Bool :=
 (decide ((l.length : Int) > 0))

noncomputable def Z3O (f : Form) : Option (Bool) :=
 (ZY f.Core (fun z0 => some (Z3c z0))).bind fun x1 =>
 some (!x1)

noncomputable def Z3J (f : Form) (i : Int) : Option (Bool) :=
 (Z1x f i).bind fun x1 =>
 some (decide ((x1.1.length : Int) > 0))

noncomputable def Zq.s0 (f : Form) (by' : Int) (s1 : Int) : Option ((Int) ⊕ (Jx (Unit) (Int × Bool))) :=
 (bif ((decide (s1 ≥ 0)) && (decide (s1 < (f.Odd.length : Int)))) then
  (at? f.Odd s1).bind fun x3 =>
  (bif (decide ((x3.Ticks.length : Int) > 0)) then
   (at? f.Odd s1).bind fun x4 =>
   some (.inr (.ret (x4.Index, true)))
  else
   some (.inl (w64 (s1 + by'))))
 else
  some (.inr (.go ())))

noncomputable def Zq.s1 (f : Form) (by' : Int) (s2 : Int) : Option ((Int) ⊕ (Jx (Unit) (Int × Bool))) :=
 (bif (Zh s2) then
  (Z3J f s2).bind fun x5 =>
  (bif x5 then
   some (.inr (.ret (s2, true)))
  else
   some (.inl (w64 (s2 + by'))))
 else
  some (.inr (.go ())))

noncomputable def Zq (f : Form) (from' : Int) (by' : Int) : Option (Int × Bool) :=
 (Z3O f).bind fun x1 =>
 (bif x1 then
  (Z3e f from').bind fun x2 =>
  (
   (bif ((decide (by' < 0)) && (!x2.2)) then
    some (w64 (x2.1 - 1))
   else
    some x2.1)).bind fun (y1 : Int) =>
  (ZK (Zq.s0 f by') y1).bind fun (y2 : Jx (Unit) (Int × Bool)) =>
  y2.elim (fun r' =>
    some r') fun a2 =>
  some (0, false)
 else
  (ZK (Zq.s1 f by') from').bind fun (y3 : Jx (Unit) (Int × Bool)) =>
  y3.elim (fun r' =>
    some r') fun a4 =>
  some (0, false))

noncomputable def Z15 (f : Form) (i : Int) : Option (Int × Bool) :=
 (bif (decide (i ≤ (-1099511627776))) then
  some (0, false)
 else
  (Zq f (iMin (w64 (i - 1)) 1099511627776) (-1)).bind fun x1 =>
  some (x1.1, x1.2))

noncomputable def Z0t (f : Form) (i : Int) : Option (Int × Bool) :=
 (bif (decide (i ≥ 1099511627776)) then
  some (0, false)
 else
  (Zq f (iMax (w64 (i + 1)) (-1099511627776)) 1).bind fun x1 =>
  some (x1.1, x1.2))

noncomputable def Z0W (a : (List Span)) (b : (List Span)) : Option (Bool) :=
 (
  (bif (((a.length : Int) == 0) || ((b.length : Int) == 0)) then
   some true
  else
   (at? a (w64 ((a.length : Int) - 1))).bind fun x1 =>
   (at? b 0).bind fun x2 =>
   some (decide (x1.To < x2.From)))).bind fun (y1 : Bool) =>
 some y1

noncomputable def Z1J (f : Form) (i : Int) : Option (Bool) :=
 (Z0F f i).bind fun x1 =>
 (bif (x1.2 != 0) then
  some false
 else
  (Z15 f i).bind fun x2 =>
  (Z0t f i).bind fun x3 =>
  (
   (bif x2.2 then
    (Z0F f x2.1).bind fun x4 =>
    (bif (x4.2 != 0) then
     some (.ret false)
    else
     some (.go x4.1))
   else
    some (.go []))).bind fun (y1 : Jx ((List Span)) (Bool)) =>
  y1.elim (fun r' =>
    some r') fun a2 =>
  (
   (bif x3.2 then
    (Z0F f x3.1).bind fun x5 =>
    (bif (x5.2 != 0) then
     some (.ret false)
    else
     some (.go x5.1))
   else
    some (.go []))).bind fun (y2 : Jx ((List Span)) (Bool)) =>
  y2.elim (fun r' =>
    some r') fun a4 =>
  (Z0W a2 x1.1).bind fun x6 =>
  (
   (bif x6 then
    (Z0W x1.1 a4).bind fun x7 =>
    some x7
   else
    some false)).bind fun (y3 : Bool) =>
  (
   (bif y3 then
    (Z0W a2 a4).bind fun x8 =>
    some x8
   else
    some false)).bind fun (y4 : Bool) =>
  some y4)

noncomputable def Zl.s0 (f : Form) (s1 : Int) : Option ((Int) ⊕ (Jx (Unit) (Int))) :=
 (bif (decide (s1 < (f.Odd.length : Int))) then
  (at? f.Odd s1).bind fun x4 =>
  (Z1J f x4.Index).bind fun x5 =>
  (bif (!x5) then
   some (.inr (.ret 50))
  else
   some (.inl (w64 (s1 + 1))))
 else
  some (.inr (.go ())))

noncomputable def Zl (f : Form) : Option (Int) :=
 (
  (bif ((decide ((f.Core.length : Int) > 6000)) || (decide ((f.Odd.length : Int) > 6000))) then
   some true
  else
   (Z00 f).bind fun x1 =>
   some (decide (x1 > 60000)))).bind fun (y1 : Bool) =>
 (bif y1 then
  some 3
 else
  (Zd f).bind fun x2 =>
  (
   (bif (!x2) then
    some true
   else
    (Z06 f).bind fun x3 =>
    some (!x3))).bind fun (y2 : Bool) =>
  (bif y2 then
   some 50
  else
   (ZK (Zl.s0 f) 0).bind fun (y3 : Jx (Unit) (Int)) =>
   y3.elim (fun r' =>
     some r') fun a2 =>
   some 0))

noncomputable def Z3I (f : Form) : Option (Bool) :=
 (Z04 f).bind fun x1 =>
 (
  (bif x1 then
   (Zl f).bind fun x2 =>
   some (x2 == 0)
  else
   some false)).bind fun (y1 : Bool) =>
 some y1

def Z0b : Bool := true

noncomputable def Z1Z.s0 (s1' : (List Span)) (s2' : (List Span)) (s1 : Int) : Option ((Int) ⊕ (Jx (Unit) (Bool))) :=
 (bif (decide (s1 < (s1'.length : Int))) then
  (at? s1' s1).bind fun x1 =>
  (at? s2' s1).bind fun x2 =>
  (bif (!((x1.From == x2.From) && ((x1.To == x2.To) && true))) then
   some (.inr (.ret false))
  else
   some (.inl (w64 (s1 + 1))))
 else
  some (.inr (.go ())))

noncomputable def Z1Z (s1' : (List Span)) (s2' : (List Span)) : Option (Bool) :=
 (bif ((s1'.length : Int) != (s2'.length : Int)) then
  some false
 else
  (ZK (Z1Z.s0 s1' s2') 0).bind fun (y1 : Jx (Unit) (Bool)) =>
  y1.elim (fun r' =>
    some r') fun a2 =>
  some true)

noncomputable def Z2f (a : (List Span)) (b : (List Span)) : Option (Bool) :=
 (Z1Z a b).bind fun x1 =>
 some x1

noncomputable def epactlaw05_FormOrder (f : Form) (i : Int) (k : Int) : Option (Bool) :=
 (Z3I f).bind fun x1 =>
 (bif (!x1) then
  some Z0b
 else
  (Z0F f (iMin i k)).bind fun x2 =>
  (Z0F f (iMax i k)).bind fun x3 =>
  (bif ((x2.2 != 0) || (x3.2 != 0)) then
   some ((((x2.2 == 0) || ((x2.2 == 20) && ((x2.1.length : Int) == 0))) && ((x3.2 == 0) || ((x3.2 == 20) && ((x3.1.length : Int) == 0)))) && Z0b)
  else
   (Z02 x2.1).bind fun x4 =>
   (
    (bif x4 then
     (Z02 x3.1).bind fun x5 =>
     some x5
    else
     some false)).bind fun (y1 : Bool) =>
   (
    (bif y1 then
     (
      (bif ((iMin i k) == (iMax i k)) then
       (Z2f x2.1 x3.1).bind fun x6 =>
       some x6
      else
       some false)).bind fun (y3 : Bool) =>
     (
      (bif y3 then
       some true
      else
       (
        (bif (decide ((iMin i k) < (iMax i k))) then
         (Z0W x2.1 x3.1).bind fun x7 =>
         some x7
        else
         some false)).bind fun (y5 : Bool) =>
       some y5)).bind fun (y4 : Bool) =>
     some y4
    else
     some false)).bind fun (y2 : Bool) =>
   some (y2 && Z0b)))

noncomputable def Z33.s0 (f : Form) (i : Int) (s1 : Int) : Option ((Int) ⊕ (Jx (Unit) (Bool))) :=
 (bif (decide (s1 < (f.Odd.length : Int))) then
  (at? f.Odd s1).bind fun x1 =>
  (bif (x1.Index == i) then
   some (.inr (.ret true))
  else
   some (.inl (w64 (s1 + 1))))
 else
  some (.inr (.go ())))

noncomputable def Z33 (f : Form) (i : Int) : Option (Bool) :=
 (ZK (Z33.s0 f i) 0).bind fun (y1 : Jx (Unit) (Bool)) =>
 y1.elim (fun r' =>
   some r') fun a2 =>
 some false

noncomputable def epactlaw05_FormTurns (f : Form) (i : Int) : Option (Bool) :=
 (Z3I f).bind fun x1 =>
 (
  (bif ((!x1) || (f.Count == 0)) then
   some true
  else
   (Z33 f ((w64 i).tmod 1048576)).bind fun x2 =>
   some x2)).bind fun (y1 : Bool) =>
 (
  (bif y1 then
   some true
  else
   (Z33 f (w64 (((w64 i).tmod 1048576) + f.Count))).bind fun x3 =>
   some x3)).bind fun (y2 : Bool) =>
 (bif y2 then
  some Z0b
 else
  (Z0F f ((w64 i).tmod 1048576)).bind fun x4 =>
  (Z0F f (w64 (((w64 i).tmod 1048576) + f.Count))).bind fun x5 =>
  (bif ((x4.2 != 0) || (x5.2 != 0)) then
   some Z0b
  else
   (Z0A x4.1 f.Period).bind fun x6 =>
   (
    (bif (x6.2 == 0) then
     (Z2f x6.1 x5.1).bind fun x7 =>
     some x7
    else
     some false)).bind fun (y3 : Bool) =>
   some (y3 && Z0b)))

noncomputable def Z1W.s0 (f : Form) (i : Int) (x2 : Int × Bool) (s1 : Int) : Option ((Int) ⊕ (Jx (Int) (Bool))) :=
 (bif ((x2.2 && (decide (s1 < x2.1))) && (decide (s1 < (w64 (((w64 i).fdiv (2 ^ 1)) + 40))))) then
  (Z0F f s1).bind fun x4 =>
  (bif ((x4.2 == 0) && (decide ((x4.1.length : Int) > 0))) then
   some (.inr (.ret false))
  else
   some (.inl (w64 (s1 + 1))))
 else
  some (.inr (.go ((w64 i).fdiv (2 ^ 1)))))

noncomputable def Z1W.s1 (f : Form) (x3 : Int × Bool) (a2 : Int) (s2 : Int) : Option ((Int) ⊕ (Jx (Unit) (Bool))) :=
 (bif ((x3.2 && (decide (s2 > x3.1))) && (decide (s2 > (w64 (a2 - 40))))) then
  (Z0F f s2).bind fun x5 =>
  (bif ((x5.2 == 0) && (decide ((x5.1.length : Int) > 0))) then
   some (.inr (.ret false))
  else
   some (.inl (w64 (s2 - 1))))
 else
  some (.inr (.go ())))

noncomputable def Z1W (f : Form) (i : Int) : Option (Bool) :=
 (Z3I f).bind fun x1 =>
 (bif (!x1) then
  some Z0b
 else
  (Z0t f ((w64 i).fdiv (2 ^ 1))).bind fun x2 =>
  (Z15 f ((w64 i).fdiv (2 ^ 1))).bind fun x3 =>
  (bif ((x2.2 && (decide (x2.1 ≤ ((w64 i).fdiv (2 ^ 1))))) || (x3.2 && (decide (x3.1 ≥ ((w64 i).fdiv (2 ^ 1)))))) then
   some false
  else
   (ZK (Z1W.s0 f i x2) (w64 (((w64 i).fdiv (2 ^ 1)) + 1))).bind fun (y1 : Jx (Int) (Bool)) =>
   y1.elim (fun r' =>
     some r') fun a2 =>
   (ZK (Z1W.s1 f x3 a2) (w64 (a2 - 1))).bind fun (y2 : Jx (Unit) (Bool)) =>
   y2.elim (fun r' =>
     some r') fun a4 =>
   (
    (bif x2.2 then
     (Z15 f x2.1).bind fun x6 =>
     (bif ((x6.2 && (decide (x6.1 > a2))) || (x3.2 && ((!x6.2) || (decide (x6.1 < x3.1))))) then
      some (.ret false)
     else
      some (.go ()))
    else
     some (.go ()))).bind fun (y3 : Jx (Unit) (Bool)) =>
   y3.elim (fun r' =>
     some r') fun a6 =>
   some Z0b))

noncomputable def Z0O.s0 (s1' : (List Span)) (s2' : (List Span)) (eq : Span → Span → Option Bool) (s1 : Int) : Option ((Int) ⊕ (Jx (Unit) (Bool))) :=
 (bif (decide (s1 < (s1'.length : Int))) then
  (at? s1' s1).bind fun x1 =>
  (at? s2' s1).bind fun x2 =>
  (eq x1 x2).bind fun x3 =>
  (bif (!x3) then
   some (.inr (.ret false))
  else
   some (.inl (w64 (s1 + 1))))
 else
  some (.inr (.go ())))

noncomputable def Z0O (s1' : (List Span)) (s2' : (List Span)) (eq : Span → Span → Option Bool) : Option (Bool) :=
 (bif ((s1'.length : Int) != (s2'.length : Int)) then
  some false
 else
  (ZK (Z0O.s0 s1' s2' eq) 0).bind fun (y1 : Jx (Unit) (Bool)) =>
  y1.elim (fun r' =>
    some r') fun a2 =>
  some true)

noncomputable def Z0B.s0 (s1' : (List (List Span))) (s2' : (List (List Span))) (eq : (List Span) → (List Span) → Option Bool) (s1 : Int) : Option ((Int) ⊕ (Jx (Unit) (Bool))) :=
 (bif (decide (s1 < (s1'.length : Int))) then
  (at? s1' s1).bind fun x1 =>
  (at? s2' s1).bind fun x2 =>
  (eq x1 x2).bind fun x3 =>
  (bif (!x3) then
   some (.inr (.ret false))
  else
   some (.inl (w64 (s1 + 1))))
 else
  some (.inr (.go ())))

noncomputable def Z0B (s1' : (List (List Span))) (s2' : (List (List Span))) (eq : (List Span) → (List Span) → Option Bool) : Option (Bool) :=
 (bif ((s1'.length : Int) != (s2'.length : Int)) then
  some false
 else
  (ZK (Z0B.s0 s1' s2' eq) 0).bind fun (y1 : Jx (Unit) (Bool)) =>
  y1.elim (fun r' =>
    some r') fun a2 =>
  some true)

noncomputable def Zr.s0 (s1' : (List Granule)) (s2' : (List Granule)) (eq : Granule → Granule → Option Bool) (s1 : Int) : Option ((Int) ⊕ (Jx (Unit) (Bool))) :=
 (bif (decide (s1 < (s1'.length : Int))) then
  (at? s1' s1).bind fun x1 =>
  (at? s2' s1).bind fun x2 =>
  (eq x1 x2).bind fun x3 =>
  (bif (!x3) then
   some (.inr (.ret false))
  else
   some (.inl (w64 (s1 + 1))))
 else
  some (.inr (.go ())))

noncomputable def Zr (s1' : (List Granule)) (s2' : (List Granule)) (eq : Granule → Granule → Option Bool) : Option (Bool) :=
 (bif ((s1'.length : Int) != (s2'.length : Int)) then
  some false
 else
  (ZK (Zr.s0 s1' s2' eq) 0).bind fun (y1 : Jx (Unit) (Bool)) =>
  y1.elim (fun r' =>
    some r') fun a2 =>
  some true)

noncomputable def Z2w.s0 (a : (List Span)) (b : (List Span)) (s1 : Int) : Option ((Int) ⊕ (Jx (Unit) (Bool))) :=
 (bif (decide (s1 < (a.length : Int))) then
  (at? a s1).bind fun x1 =>
  (at? b s1).bind fun x2 =>
  (bif (!((x2.From == x1.From) && ((x2.To == x1.To) && true))) then
   some (.inr (.ret false))
  else
   some (.inl (w64 (s1 + 1))))
 else
  some (.inr (.go ())))

noncomputable def Z2w (a : (List Span)) (b : (List Span)) : Option (Bool) :=
 (bif ((a.length : Int) != (b.length : Int)) then
  some false
 else
  (ZK (Z2w.s0 a b) 0).bind fun (y1 : Jx (Unit) (Bool)) =>
  y1.elim (fun r' =>
    some r') fun a2 =>
  some true)

noncomputable def Z03.s0 (a : Form) (b : Form) (s1 : Int) : Option ((Int) ⊕ (Jx (Unit) (Bool))) :=
 (bif (decide (s1 < (a.Core.length : Int))) then
  (at? a.Core s1).bind fun x1 =>
  (at? b.Core s1).bind fun x2 =>
  (Z2w x1 x2).bind fun x3 =>
  (bif (!x3) then
   some (.inr (.ret false))
  else
   some (.inl (w64 (s1 + 1))))
 else
  some (.inr (.go ())))

noncomputable def Z03.s1 (a : Form) (b : Form) (s2 : Int) : Option ((Int) ⊕ (Jx (Unit) (Bool))) :=
 (bif (decide (s2 < (a.Odd.length : Int))) then
  (at? a.Odd s2).bind fun x4 =>
  (at? b.Odd s2).bind fun x5 =>
  (
   (bif (x4.Index != x5.Index) then
    some true
   else
    (at? b.Odd s2).bind fun x6 =>
    (Z2w x4.Ticks x6.Ticks).bind fun x7 =>
    some (!x7))).bind fun (y3 : Bool) =>
  (bif y3 then
   some (.inr (.ret false))
  else
   some (.inl (w64 (s2 + 1))))
 else
  some (.inr (.go ())))

noncomputable def Z03 (a : Form) (b : Form) : Option (Bool) :=
 (bif ((((a.Period != b.Period) || (a.Count != b.Count)) || ((a.Core.length : Int) != (b.Core.length : Int))) || ((a.Odd.length : Int) != (b.Odd.length : Int))) then
  some false
 else
  (ZK (Z03.s0 a b) 0).bind fun (y1 : Jx (Unit) (Bool)) =>
  y1.elim (fun r' =>
    some r') fun a2 =>
  (ZK (Z03.s1 a b) 0).bind fun (y2 : Jx (Unit) (Bool)) =>
  y2.elim (fun r' =>
    some r') fun a4 =>
  some true)

noncomputable def Z2K (f : Form) : Option (Bool) :=
 (Z04 f).bind fun x1 =>
 (
  (bif x1 then
   (Zl f).bind fun x2 =>
   some (x2 == 0)
  else
   some false)).bind fun (y1 : Bool) =>
 some y1

noncomputable def Z2a.s0 (f : Form) (most : Int) (s1 : Int) : Option ((Int) ⊕ (Jx (Unit) (Bool))) :=
 (bif (decide (s1 < (f.Odd.length : Int))) then
  (at? f.Odd s1).bind fun x1 =>
  (bif ((decide (x1.Index < (w64 (0 - most)))) || (decide (x1.Index > most))) then
   some (.inr (.ret false))
  else
   some (.inl (w64 (s1 + 1))))
 else
  some (.inr (.go ())))

noncomputable def Z2a (f : Form) (most : Int) : Option (Bool) :=
 (ZK (Z2a.s0 f most) 0).bind fun (y1 : Jx (Unit) (Bool)) =>
 y1.elim (fun r' =>
   some r') fun a2 =>
 some true

def Z0n : Bool := true

noncomputable def canon_bare_1 (l : (List Span)) : Bool :=
 (decide ((l.length : Int) > 0))

noncomputable def canon_bare (f : Form) : Option (Bool) :=
 (ZY f.Core (fun z0 => some (canon_bare_1 z0))).bind fun x1 =>
 some (!x1)

noncomputable def Z3R.s0 (p1' : Int) {S : Type} (yield : S → Int → Option (S × Bool)) (s1 : Int × S) : Option ((Int × S) ⊕ (Jx (S) (S))) :=
 (bif (decide (s1.1 ≤ p1')) then
  (nz? s1.1).bind fun u1 =>
  (
   (bif ((p1'.tmod s1.1) == 0) then
    (yield s1.2 s1.1).bind fun x1 =>
    some ((!x1.2), x1.1)
   else
    some (false, s1.2))).bind fun (y2 : Bool × S) =>
  (bif y2.1 then
   some (.inr (.ret y2.2))
  else
   some (.inl ((w64 (s1.1 + 1)), y2.2)))
 else
  some (.inr (.go s1.2)))

noncomputable def Z3R {S : Type} (p1' : Int) (yield : S → Int → Option (S × Bool)) (st' : S) : Option (S) :=
 (ZK (Z3R.s0 p1' yield) (1, st')).bind fun (y1 : Jx (S) (S)) =>
 y1.elim (fun r' =>
   some r') fun a2 =>
 some a2

noncomputable def Z8i (x' : Span) (y : Span) (p2' : Int) : Bool :=
 (((w64 (y.From - x'.From)) == p2') && ((w64 (y.To - x'.To)) == p2'))

noncomputable def canon_shifted (a : (List Span)) (b : (List Span)) (by' : Int) : Option (Bool) :=
 (Z0O a b (fun z0 z1 => some (Z8i z0 z1 by'))).bind fun x1 =>
 some x1

noncomputable def Z71.s0 (f : Form) (d : Int) (by' : Int) (s1 : Int) : Option ((Int) ⊕ (Jx (Unit) (Bool))) :=
 (bif (decide (s1 < (f.Core.length : Int))) then
  (
   (
    (at? f.Core s1).bind fun x1 =>
    (
     (bif (decide ((w64 (s1 + d)) ≥ f.Count)) then
      some ((w64 ((w64 (s1 + d)) - f.Count)), f.Period)
     else
      some ((w64 (s1 + d)), 0))).bind fun (y4 : Int × Int) =>
    (at? f.Core y4.1).bind fun x2 =>
    (canon_shifted x1 x2 (w64 (by' - y4.2))).bind fun x3 =>
    (bif (!x3) then
     some (.ret false)
    else
     some (.go ()))).bind fun (y3 : Jx (Unit) (Bool)) =>
   y3.elim (fun r' =>
     some (.ret r')) fun a4 =>
   some (.go ())).bind fun (y2 : Jx (Unit) (Bool)) =>
  y2.elim (fun r' =>
    some (.inr (.ret r'))) fun a5 =>
  some (.inl (w64 (s1 + 1)))
 else
  some (.inr (.go ())))

noncomputable def Z71 (f : Form) (d : Int) (by' : Int) : Option (Bool) :=
 (ZK (Z71.s0 f d by') 0).bind fun (y1 : Jx (Unit) (Bool)) =>
 y1.elim (fun r' =>
   some r') fun a6 =>
 some true

noncomputable def Z4E.s1 (x4 : (List (List Span))) (s3 : Int × (List (List Span))) : Option ((Int × (List (List Span))) ⊕ ((List (List Span)))) :=
 (bif (decide (s3.1 < (x4.length : Int))) then
  (at? x4 s3.1).bind fun x5 =>
  (clone? 16 x5).bind fun x6 =>
  (app? 24 s3.2 [x6]).bind fun x7 =>
  some (.inl ((w64 (s3.1 + 1)), x7))
 else
  some (.inr s3.2))

noncomputable def Z4E.b0 (f : Form) (s2 : (List (List Span)) × Int × Int) (z2 : Int) : Option (((List (List Span)) × Int × Int) × Nat) :=
 (nz? z2).bind fun u1 =>
 (Z19 f.Period (w64 (f.Count.tdiv z2))).bind fun x2 =>
 (
  (bif (x2.2.1 != 0) then
   some true
  else
   (Z71 f z2 x2.1).bind fun x3 =>
   some (!x3))).bind fun (y3 : Bool) =>
 (bif y3 then
  some ((s2.1, s2.2.1, s2.2.2), 0)
 else
  (cut? f.Core 0 z2).bind fun x4 =>
  (ZK (Z4E.s1 x4) (0, s2.1)).bind fun (y4 : (List (List Span))) =>
  some ((y4, x2.1, z2), 1))

noncomputable def Z4E (f : Form) : Option (Form) :=
 (canon_bare f).bind fun x1 =>
 (bif x1 then
  some (Form.mk 0 0 [] [])
 else
  (
   (Z3R f.Count (Z30 (Z4E.b0 f)) (([], 0, 0), 0)).bind fun (y2 : ((List (List Span)) × Int × Int) × Nat) =>
   (bif (y2.2 == 0) then
    some (y2.1.1, y2.1.2.1, y2.1.2.2)
   else
    some (y2.1.1, y2.1.2.1, y2.1.2.2))).bind fun (y1 : (List (List Span)) × Int × Int) =>
  some (Form.mk y1.2.1 y1.2.2 y1.1 []))

noncomputable def canon_plain (f : Form) (g : Granule) : Option (Bool) :=
 (Z0F f g.Index).bind fun x1 =>
 (
  (bif (x1.2 == 0) then
   (Z2f x1.1 g.Ticks).bind fun x2 =>
   some x2
  else
   some false)).bind fun (y1 : Bool) =>
 some y1

noncomputable def Z1C.s0 (f : Form) (x1 : Form) (s2 : Int × (List Granule)) : Option ((Int × (List Granule)) ⊕ ((List Granule))) :=
 (bif (decide (s2.1 < (f.Odd.length : Int))) then
  (
   (
    (at? f.Odd s2.1).bind fun x2 =>
    (canon_plain x1 x2).bind fun x3 =>
    (bif (!x3) then
     (clone? 16 x2.Ticks).bind fun x4 =>
     (app? 32 s2.2 [(Granule.mk x2.Index x4)]).bind fun x5 =>
     some x5
    else
     some s2.2)).bind fun (y3 : (List Granule)) =>
   some y3).bind fun (y2 : (List Granule)) =>
  some (.inl ((w64 (s2.1 + 1)), y2))
 else
  some (.inr s2.2))

noncomputable def Z1C (f : Form) : Option (Form) :=
 (Z4E f).bind fun x1 =>
 (ZK (Z1C.s0 f x1) (0, [])).bind fun (y1 : (List Granule)) =>
 some (Form.mk x1.Period x1.Count x1.Core y1)

noncomputable def canon_equal_1 (x' : Granule) (y : Granule) : Option (Bool) :=
 (
  (bif (x'.Index == y.Index) then
   (Z2f x'.Ticks y.Ticks).bind fun x1 =>
   some x1
  else
   some false)).bind fun (y1 : Bool) =>
 some y1

noncomputable def Z8b (a : Form) (b : Form) : Option (Bool) :=
 (
  (bif ((a.Period == b.Period) && (a.Count == b.Count)) then
   (Z0B a.Core b.Core (fun z0 z1 => Z2f z0 z1)).bind fun x1 =>
   some x1
  else
   some false)).bind fun (y1 : Bool) =>
 (
  (bif y1 then
   (Zr a.Odd b.Odd (fun z0 z1 => canon_equal_1 z0 z1)).bind fun x2 =>
   some x2
  else
   some false)).bind fun (y2 : Bool) =>
 some y2

noncomputable def Z90 (f : Form) (g : Form) : Option (Bool) :=
 (Z1C f).bind fun x1 =>
 (Z1C g).bind fun x2 =>
 (Z8b x1 x2).bind fun x3 =>
 some x3

noncomputable def Z3i.s0 (f : Form) (g : Form) (s1 : Int) : Option ((Int) ⊕ (Jx (Bool) (Bool))) :=
 (bif (decide (s1 ≤ 2000)) then
  (Z0F f s1).bind fun x5 =>
  (Z0F g s1).bind fun x6 =>
  (bif ((x5.2 != 0) || (x6.2 != 0)) then
   some (.inr (.ret Z0n))
  else
   (Z2f x5.1 x6.1).bind fun x7 =>
   (bif (!x7) then
    some (.inr (.go false))
   else
    some (.inl (w64 (s1 + 1)))))
 else
  some (.inr (.go true)))

noncomputable def Z3i (f : Form) (g : Form) : Option (Bool) :=
 (Z2K f).bind fun x1 =>
 (
  (bif (!x1) then
   some true
  else
   (Z2K g).bind fun x2 =>
   some (!x2))).bind fun (y1 : Bool) =>
 (
  (bif y1 then
   some true
  else
   (Z2a f 200).bind fun x3 =>
   some (!x3))).bind fun (y2 : Bool) =>
 (
  (bif y2 then
   some true
  else
   (Z2a g 200).bind fun x4 =>
   some (!x4))).bind fun (y3 : Bool) =>
 (bif ((y3 || (decide (f.Period > 32768))) || (decide (g.Period > 32768))) then
  some Z0n
 else
  (ZK (Z3i.s0 f g) (-2000)).bind fun (y4 : Jx (Bool) (Bool)) =>
  y4.elim (fun r' =>
    some r') fun a2 =>
  (Z90 f g).bind fun x8 =>
  (
   (bif (x8 == a2) then
    (Z1C f).bind fun x9 =>
    (Z1C g).bind fun x10 =>
    (Z03 x9 x10).bind fun x11 =>
    some (x11 == a2)
   else
    some false)).bind fun (y5 : Bool) =>
  some (y5 && Z0n))

noncomputable def canon_Is (f : Form) : Option (Bool) :=
 (Z1C f).bind fun x1 =>
 (Z8b f x1).bind fun x2 =>
 some x2

noncomputable def Z3B.s0 (f : Form) (i : Int) (x2 : Form) (s1 : Int) : Option ((Int) ⊕ (Jx (Unit) (Bool))) :=
 (bif (decide (s1 < ([i, 0, 1, (-1), (w64 ((i.tmod 50) - 25))].length : Int))) then
  (at? [i, 0, 1, (-1), (w64 ((i.tmod 50) - 25))] s1).bind fun x9 =>
  (Z0F f x9).bind fun x10 =>
  (Z0F x2 x9).bind fun x11 =>
  (
   (bif (x10.2 != x11.2) then
    some true
   else
    (Z2f x10.1 x11.1).bind fun x12 =>
    some (!x12))).bind fun (y5 : Bool) =>
  (bif y5 then
   some (.inr (.ret false))
  else
   some (.inl (w64 (s1 + 1))))
 else
  some (.inr (.go ())))

noncomputable def Z3B (f : Form) (i : Int) : Option (Bool) :=
 (Z2K f).bind fun x1 =>
 (bif (!x1) then
  some Z0n
 else
  (Z1C f).bind fun x2 =>
  (Zl x2).bind fun x3 =>
  (
   (bif (x3 != 0) then
    some true
   else
    (canon_Is x2).bind fun x4 =>
    some (!x4))).bind fun (y1 : Bool) =>
  (
   (bif y1 then
    some true
   else
    (Z1C x2).bind fun x5 =>
    (Z03 x5 x2).bind fun x6 =>
    some (!x6))).bind fun (y2 : Bool) =>
  (
   (bif (((y2 || (decide (x2.Count > f.Count))) || (decide (x2.Period > f.Period))) || (decide ((x2.Odd.length : Int) > (f.Odd.length : Int)))) then
    some true
   else
    (Z00 x2).bind fun x7 =>
    (Z00 f).bind fun x8 =>
    some (decide (x7 > x8)))).bind fun (y3 : Bool) =>
  (bif y3 then
   some false
  else
   (ZK (Z3B.s0 f i x2) 0).bind fun (y4 : Jx (Unit) (Bool)) =>
   y4.elim (fun r' =>
     some r') fun a2 =>
   (Z90 f x2).bind fun x13 =>
   some (x13 && Z0n)))

noncomputable def Z6f (l : (List Span)) : Option ((List Span)) :=
 (new? 16 (l.length : Int) (Span.mk 0 0)).bind fun x1 =>
 some (cpy x1 l)

noncomputable def Z1K.s0 (f : Form) (s2 : Int × (List (List Span))) : Option ((Int × (List (List Span))) ⊕ ((List (List Span)))) :=
 (bif (decide (s2.1 < (f.Core.length : Int))) then
  (at? f.Core s2.1).bind fun x1 =>
  (Z6f x1).bind fun x2 =>
  (app? 24 s2.2 [x2]).bind fun x3 =>
  some (.inl ((w64 (s2.1 + 1)), x3))
 else
  some (.inr s2.2))

noncomputable def Z1K.s1 (f : Form) (s4 : Int × (List Granule)) : Option ((Int × (List Granule)) ⊕ ((List Granule))) :=
 (bif (decide (s4.1 < (f.Odd.length : Int))) then
  (at? f.Odd s4.1).bind fun x4 =>
  (Z6f x4.Ticks).bind fun x5 =>
  (app? 32 s4.2 [(Granule.mk x4.Index x5)]).bind fun x6 =>
  some (.inl ((w64 (s4.1 + 1)), x6))
 else
  some (.inr s4.2))

noncomputable def Z1K (f : Form) : Option (Form) :=
 (ZK (Z1K.s0 f) (0, [])).bind fun (y1 : (List (List Span))) =>
 (ZK (Z1K.s1 f) (0, [])).bind fun (y2 : (List Granule)) =>
 some (Form.mk f.Period f.Count y1 y2)

noncomputable def Z3m.s0 (f : Form) (s1 : Int) : Option ((Int) ⊕ (Jx (Unit) (Bool))) :=
 (bif (decide (s1 < (f.Core.length : Int))) then
  (at? f.Core s1).bind fun x1 =>
  (bif (decide ((x1.length : Int) > 0)) then
   some (.inr (.ret false))
  else
   some (.inl (w64 (s1 + 1))))
 else
  some (.inr (.go ())))

noncomputable def Z3m (f : Form) : Option (Bool) :=
 (ZK (Z3m.s0 f) 0).bind fun (y1 : Jx (Unit) (Bool)) =>
 y1.elim (fun r' =>
   some r') fun a2 =>
 some true

noncomputable def Z5h (a : Int) (b : Int) : Option (Int × Int) :=
 (nz? b).bind fun u1 =>
 (nz? b).bind fun u2 =>
 (
  (bif (decide ((a.tmod b) < 0)) then
   some ((w64 ((w64 (a.tdiv b)) - 1)), (w64 ((a.tmod b) + b)))
  else
   some ((w64 (a.tdiv b)), (a.tmod b)))).bind fun (y1 : Int × Int) =>
 some (y1.1, y1.2)

noncomputable def Z4L (f : Form) (i : Int) : Option ((List Span) × Int) :=
 (Z5h i f.Count).bind fun x1 =>
 (at? f.Core x1.2).bind fun x2 =>
 some (x2, (w64 (x1.1 * f.Period)))

noncomputable def Z2W.s0 (a : (List Span)) (x' : Int) (b : (List Span)) (y : Int) (s1 : Int) : Option ((Int) ⊕ (Jx (Unit) (Bool))) :=
 (bif (decide (s1 < (a.length : Int))) then
  (at? a s1).bind fun x1 =>
  (at? b s1).bind fun x2 =>
  (
   (bif ((w64 (x1.From + x')) != (w64 (x2.From + y))) then
    some true
   else
    (at? a s1).bind fun x3 =>
    (at? b s1).bind fun x4 =>
    some ((w64 (x3.To + x')) != (w64 (x4.To + y))))).bind fun (y2 : Bool) =>
  (bif y2 then
   some (.inr (.ret false))
  else
   some (.inl (w64 (s1 + 1))))
 else
  some (.inr (.go ())))

noncomputable def Z2W (a : (List Span)) (x' : Int) (b : (List Span)) (y : Int) : Option (Bool) :=
 (bif ((a.length : Int) != (b.length : Int)) then
  some false
 else
  (ZK (Z2W.s0 a x' b y) 0).bind fun (y1 : Jx (Unit) (Bool)) =>
  y1.elim (fun r' =>
    some r') fun a2 =>
  some true)

noncomputable def Z3P.s0 (f : Form) (d : Int) (s1 : Int) : Option ((Int) ⊕ (Jx (Unit) (Bool))) :=
 (bif (decide (s1 < f.Count)) then
  (Z4L f s1).bind fun x1 =>
  (Z4L f (w64 (s1 + d))).bind fun x2 =>
  (nz? f.Count).bind fun u3 =>
  (Z2W x1.1 (w64 (x1.2 + (w64 ((w64 (f.Period * d)).tdiv f.Count)))) x2.1 x2.2).bind fun x3 =>
  (bif (!x3) then
   some (.inr (.ret false))
  else
   some (.inl (w64 (s1 + 1))))
 else
  some (.inr (.go ())))

noncomputable def Z3P (f : Form) (d : Int) : Option (Bool) :=
 (nz? d).bind fun u1 =>
 (
  (bif ((f.Count.tmod d) != 0) then
   some true
  else
   (nz? f.Count).bind fun u2 =>
   some (((w64 (f.Period * d)).tmod f.Count) != 0))).bind fun (y1 : Bool) =>
 (bif y1 then
  some false
 else
  (ZK (Z3P.s0 f d) 0).bind fun (y2 : Jx (Unit) (Bool)) =>
  y2.elim (fun r' =>
    some r') fun a2 =>
  some true)

noncomputable def Z0y.s0 (f : Form) (s1 : Int) : Option ((Int) ⊕ (Int)) :=
 (Z3P f s1).bind fun x2 =>
 (bif (!x2) then
  some (.inl (w64 (s1 + 1)))
 else
  some (.inr s1))

noncomputable def Z0y.s1 (f : Form) (y2 : Int) (s2 : Int × (List (List Span))) : Option ((Int × (List (List Span))) ⊕ ((List (List Span)) × Int)) :=
 (bif (decide (s2.1 < y2)) then
  (at? f.Core s2.1).bind fun x3 =>
  (app? 16 [] x3).bind fun x4 =>
  (app? 24 s2.2 [x4]).bind fun x5 =>
  some (.inl ((w64 (s2.1 + 1)), x5))
 else
  some (.inr (s2.2, (w64 ((w64 (f.Period * y2)).tdiv f.Count)))))

noncomputable def Z0y.s2 (f : Form) (y1 : (List (List Span)) × Int × Int) (s3 : Int × (List Granule)) : Option ((Int × (List Granule)) ⊕ ((List Granule))) :=
 (bif (decide (s3.1 < (f.Odd.length : Int))) then
  (
   (
    (
     (bif (decide (y1.2.2 > 0)) then
      (at? f.Odd s3.1).bind fun x6 =>
      (Z4L (Form.mk y1.2.1 y1.2.2 y1.1 []) x6.Index).bind fun x7 =>
      some (x7.1, x7.2)
     else
      some ([], 0))).bind fun (y7 : (List Span) × Int) =>
    (at? f.Odd s3.1).bind fun x8 =>
    (Z2W y7.1 y7.2 x8.Ticks 0).bind fun x9 =>
    (bif (!x9) then
     (at? f.Odd s3.1).bind fun x10 =>
     (at? f.Odd s3.1).bind fun x11 =>
     (app? 16 [] x11.Ticks).bind fun x12 =>
     (app? 32 s3.2 [(Granule.mk x10.Index x12)]).bind fun x13 =>
     some x13
    else
     some s3.2)).bind fun (y6 : (List Granule)) =>
   some y6).bind fun (y5 : (List Granule)) =>
  some (.inl ((w64 (s3.1 + 1)), y5))
 else
  some (.inr s3.2))

noncomputable def Z0y (f : Form) : Option (Form) :=
 (
  (Z3m f).bind fun x1 =>
  (bif (!x1) then
   (ZK (Z0y.s0 f) 1).bind fun (y2 : Int) =>
   (nz? f.Count).bind fun u1 =>
   (ZK (Z0y.s1 f y2) (0, [])).bind fun (y3 : (List (List Span)) × Int) =>
   some (y3.1, y3.2, y2)
  else
   some ([], 0, 0))).bind fun (y1 : (List (List Span)) × Int × Int) =>
 (ZK (Z0y.s2 f y1) (0, [])).bind fun (y4 : (List Granule)) =>
 some (Form.mk y1.2.1 y1.2.2 y1.1 y4)

noncomputable def epactlaw06_CanonTells (f : Form) : Option (Bool) :=
 (Z2K f).bind fun x1 =>
 (bif (!x1) then
  some Z0n
 else
  (Z1K f).bind fun x2 =>
  (Z1C x2).bind fun x3 =>
  (Z0y f).bind fun x4 =>
  (Z03 x3 x4).bind fun x5 =>
  (
   (bif x5 then
    (canon_Is x2).bind fun x6 =>
    (Z03 f x4).bind fun x7 =>
    some (x6 == x7)
   else
    some false)).bind fun (y1 : Bool) =>
  (
   (bif y1 then
    (Z03 x2 f).bind fun x8 =>
    some x8
   else
    some false)).bind fun (y2 : Bool) =>
  some (y2 && Z0n))

noncomputable def Z5A (f : Form) : Option (Bool) :=
 (Z04 f).bind fun x1 =>
 (
  (bif x1 then
   (Zl f).bind fun x2 =>
   some (x2 == 0)
  else
   some false)).bind fun (y1 : Bool) =>
 some y1

def Z0r : Bool := true

noncomputable def Z1A (a : Bound) : Bool :=
 ((a.Inf == 0) || (((a.Inf == 1) || (a.Inf == (-1))) && (a.N == 0)))

noncomputable def size_inRange (k : Int) : Bool :=
 ((decide (k ≥ (-1099511627776))) && (decide (k ≤ 1099511627776)))

noncomputable def Z17 (l : (List Span)) : Option (Span × Bool) :=
 (bif ((l.length : Int) == 0) then
  some ((Span.mk 0 0), false)
 else
  (at? l 0).bind fun x1 =>
  (at? l (w64 ((l.length : Int) - 1))).bind fun x2 =>
  some ((Span.mk x1.From x2.To), true))

noncomputable def Z7p.s0 (x1 : Form) (s2 : Int × (List size_spot)) : Option ((Int × (List size_spot)) ⊕ ((List size_spot))) :=
 (bif (decide (s2.1 < (x1.Core.length : Int))) then
  (
   (
    (at? x1.Core s2.1).bind fun x2 =>
    (Z17 x2).bind fun x3 =>
    (bif x3.2 then
     (app? 24 s2.2 [(size_spot.mk s2.1 (size_place.mk x3.1.From x3.1.To))]).bind fun x4 =>
     some x4
    else
     some s2.2)).bind fun (y3 : (List size_spot)) =>
   some y3).bind fun (y2 : (List size_spot)) =>
  some (.inl ((w64 (s2.1 + 1)), y2))
 else
  some (.inr s2.2))

noncomputable def Z7p (f : Form) : Option (size_form) :=
 (Z1C f).bind fun x1 =>
 (ZK (Z7p.s0 x1) (0, [])).bind fun (y1 : (List size_spot)) =>
 some (size_form.mk x1 y1)

noncomputable def Z3h.s0 (f : Int → Option Bool) (s1 : Int × Int) : Option ((Int × Int) ⊕ (Int)) :=
 (bif (decide (s1.1 < s1.2)) then
  (
   (f (w64 ((IntKind.u64.wrap (w64 (s1.1 + s1.2))).fdiv (2 ^ 1)))).bind fun x1 =>
   (bif (!x1) then
    some ((w64 ((w64 ((IntKind.u64.wrap (w64 (s1.1 + s1.2))).fdiv (2 ^ 1))) + 1)), s1.2)
   else
    some (s1.1, (w64 ((IntKind.u64.wrap (w64 (s1.1 + s1.2))).fdiv (2 ^ 1)))))).bind fun (y2 : Int × Int) =>
  some (.inl (y2.1, y2.2))
 else
  some (.inr s1.1))

noncomputable def Z3h (n : Int) (f : Int → Option Bool) : Option (Int) :=
 (ZK (Z3h.s0 f) (0, n)).bind fun (y1 : Int) =>
 some y1

noncomputable def Z8B (n : Int) (p1' : size_form) (p2' : Int) (p3' : Int) : Option (Bool) :=
 (at? p1'.spots n).bind fun x1 =>
 some (decide ((w64 (x1.place.last - (w64 (p2' * p1'.Form.Period)))) ≥ p3'))

noncomputable def Z7m (n : Int) (p1' : size_form) (p2' : Int) (p3' : Int) : Option (Bool) :=
 (at? p1'.spots n).bind fun x1 =>
 some (decide ((w64 (x1.place.first + (w64 (p2' * p1'.Form.Period)))) > p3'))

noncomputable def Z6C (f : size_form) (t : Int) (up : Bool) : Option (Int) :=
 (bif up then
  (at? f.spots (w64 ((f.spots.length : Int) - 1))).bind fun x1 =>
  (Z19 (w64 (x1.place.last - t)) f.Form.Period).bind fun x2 =>
  (Z3h (f.spots.length : Int) (fun z0 => Z8B z0 f x2.1 t)).bind fun x3 =>
  (at? f.spots x3).bind fun x4 =>
  some (w64 (x4.index - (w64 (x2.1 * f.Form.Count))))
 else
  (at? f.spots 0).bind fun x5 =>
  (Z19 (w64 (t - x5.place.first)) f.Form.Period).bind fun x6 =>
  (Z3h (f.spots.length : Int) (fun z0 => Z7m z0 f x6.1 t)).bind fun x7 =>
  (at? f.spots (w64 (x7 - 1))).bind fun x8 =>
  some (w64 (x8.index + (w64 (x6.1 * f.Form.Count)))))

noncomputable def Z8d (g : Granule) (i : Int) : Int :=
 (Z0Q g.Index i)

noncomputable def size_form_odd (f : size_form) (i : Int) : Option (Int) :=
 (Z4 f.Form.Odd i (fun z0 z1 => some (Z8d z0 z1))).bind fun x1 =>
 (bif (!x1.2) then
  some (-1)
 else
  some x1.1)

noncomputable def size_form_has (f : size_form) (i : Int) : Option (Bool) :=
 (Z19 i f.Form.Count).bind fun x1 =>
 (at? f.Form.Core x1.2.1).bind fun x2 =>
 some (decide ((x2.length : Int) > 0))

noncomputable def Z0R.s0 (f : size_form) (y1 : Int) (s1 : Int) : Option ((Int) ⊕ (Int)) :=
 (size_form_odd f s1).bind fun x2 =>
 (
  (bif (decide (x2 ≥ 0)) then
   some true
  else
   (size_form_has f s1).bind fun x3 =>
   some (!x3))).bind fun (y4 : Bool) =>
 (bif y4 then
  some (.inl (w64 (s1 + y1)))
 else
  some (.inr s1))

noncomputable def Z0R.s1 (s2 : Int × Int × (List Int) × Int × Bool) : Option ((Int × Int × (List Int) × Int × Bool) ⊕ ((List Int) × Int × Bool)) :=
 (bif (decide (s2.2.1 < s2.1)) then
  (
   (
    (at? s2.2.2.1 s2.2.1).bind fun x4 =>
    (bif ((!s2.2.2.2.2) || (decide (x4 > s2.2.2.2.1))) then
     some (x4, true)
    else
     some (s2.2.2.2.1, s2.2.2.2.2))).bind fun (y8 : Int × Bool) =>
   some (y8.1, y8.2)).bind fun (y7 : Int × Bool) =>
  some (.inl (s2.1, (w64 (s2.2.1 + 1)), s2.2.2.1, y7.1, y7.2))
 else
  some (.inr (s2.2.2.1, s2.2.2.2.1, s2.2.2.2.2)))

noncomputable def Z0R.s3 (s4 : Int × Int × (List Int) × Int × Bool) : Option ((Int × Int × (List Int) × Int × Bool) ⊕ ((List Int) × Int × Bool)) :=
 (bif (decide (s4.2.1 < s4.1)) then
  (
   (
    (at? s4.2.2.1 s4.2.1).bind fun x7 =>
    (bif ((!s4.2.2.2.2) || (decide (x7 > s4.2.2.2.1))) then
     some (x7, true)
    else
     some (s4.2.2.2.1, s4.2.2.2.2))).bind fun (y15 : Int × Bool) =>
   some (y15.1, y15.2)).bind fun (y14 : Int × Bool) =>
  some (.inl (s4.1, (w64 (s4.2.1 + 1)), s4.2.2.1, y14.1, y14.2))
 else
  some (.inr (s4.2.2.1, s4.2.2.2.1, s4.2.2.2.2)))

noncomputable def Z0R.s2 (f : size_form) (t : Int) (up : Bool) (y1 : Int) (s3 : Int × Int × Bool) : Option ((Int × Int × Bool) ⊕ (Int × Bool)) :=
 (bif (decide (s3.1 < (f.Form.Odd.length : Int))) then
  (
   (
    (at? f.Form.Odd s3.1).bind fun x5 =>
    (Z17 x5.Ticks).bind fun x6 =>
    (bif (x6.2 && ((up && (decide (x6.1.To ≥ t))) || ((!up) && (decide (x6.1.From ≤ t))))) then
     (
      (ZK (Z0R.s3) (([(w64 ((w64 (0 - y1)) * x5.Index))].length : Int), 0, [(w64 ((w64 (0 - y1)) * x5.Index))], s3.2.1, s3.2.2)).bind fun (y13 : (List Int) × Int × Bool) =>
      some (y13.1, y13.2.1, y13.2.2)).bind fun (y12 : (List Int) × Int × Bool) =>
     some (y12.2.1, y12.2.2)
    else
     some (s3.2.1, s3.2.2))).bind fun (y11 : Int × Bool) =>
   some (y11.1, y11.2)).bind fun (y10 : Int × Bool) =>
  some (.inl ((w64 (s3.1 + 1)), y10.1, y10.2))
 else
  some (.inr (s3.2.1, s3.2.2)))

noncomputable def Z0R (f : size_form) (t : Int) (up : Bool) : Option (Int × Bool) :=
 (
  (bif up then
   some 1
  else
   some (-1))).bind fun (y1 : Int) =>
 (
  (bif (decide (f.Form.Count > 0)) then
   (Z6C f t up).bind fun x1 =>
   (ZK (Z0R.s0 f y1) x1).bind fun (y3 : Int) =>
   (
    (ZK (Z0R.s1) (([(w64 ((w64 (0 - y1)) * y3))].length : Int), 0, [(w64 ((w64 (0 - y1)) * y3))], 0, false)).bind fun (y6 : (List Int) × Int × Bool) =>
    some (y6.1, y6.2.1, y6.2.2)).bind fun (y5 : (List Int) × Int × Bool) =>
   some (y5.2.1, y5.2.2)
  else
   some (0, false))).bind fun (y2 : Int × Bool) =>
 (ZK (Z0R.s2 f t up y1) (0, y2.1, y2.2)).bind fun (y9 : Int × Bool) =>
 some ((w64 ((w64 (0 - y1)) * y9.1)), y9.2)

noncomputable def Z1s.s1 (s2 : Int × Int × (List Int) × Int × Bool) : Option ((Int × Int × (List Int) × Int × Bool) ⊕ ((List Int) × Int × Bool)) :=
 (bif (decide (s2.2.1 < s2.1)) then
  (
   (
    (at? s2.2.2.1 s2.2.1).bind fun x4 =>
    (bif ((!s2.2.2.2.2) || (decide (x4 > s2.2.2.2.1))) then
     some (x4, true)
    else
     some (s2.2.2.2.1, s2.2.2.2.2))).bind fun (y9 : Int × Bool) =>
   some (y9.1, y9.2)).bind fun (y8 : Int × Bool) =>
  some (.inl (s2.1, (w64 (s2.2.1 + 1)), s2.2.2.1, y8.1, y8.2))
 else
  some (.inr (s2.2.2.1, s2.2.2.2.1, s2.2.2.2.2)))

noncomputable def Z1s.s0 (d : Int) (up : Bool) (x1 : size_form) (y1 : Int) (s1 : Int × Int × Bool) : Option ((Int × Int × Bool) ⊕ (Int × Bool)) :=
 (bif (decide (s1.1 < (x1.spots.length : Int))) then
  (
   (
    (at? x1.spots s1.1).bind fun x2 =>
    (
     (bif up then
      some x2.place.first
     else
      some x2.place.last)).bind fun (y5 : Int) =>
    (Z6C x1 (w64 (y5 + d)) up).bind fun x3 =>
    (
     (ZK (Z1s.s1) (([(w64 (y1 * (w64 (x3 - x2.index))))].length : Int), 0, [(w64 (y1 * (w64 (x3 - x2.index))))], s1.2.1, s1.2.2)).bind fun (y7 : (List Int) × Int × Bool) =>
     some (y7.1, y7.2.1, y7.2.2)).bind fun (y6 : (List Int) × Int × Bool) =>
    some (y6.2.1, y6.2.2)).bind fun (y4 : Int × Bool) =>
   some (y4.1, y4.2)).bind fun (y3 : Int × Bool) =>
  some (.inl ((w64 (s1.1 + 1)), y3.1, y3.2))
 else
  some (.inr (s1.2.1, s1.2.2)))

noncomputable def Z1s.s3 (s4 : Int × Int × (List Int) × Int × Bool) : Option ((Int × Int × (List Int) × Int × Bool) ⊕ ((List Int) × Int × Bool)) :=
 (bif (decide (s4.2.1 < s4.1)) then
  (
   (
    (at? s4.2.2.1 s4.2.1).bind fun x8 =>
    (bif ((!s4.2.2.2.2) || (decide (x8 > s4.2.2.2.1))) then
     some (x8, true)
    else
     some (s4.2.2.2.1, s4.2.2.2.2))).bind fun (y18 : Int × Bool) =>
   some (y18.1, y18.2)).bind fun (y17 : Int × Bool) =>
  some (.inl (s4.1, (w64 (s4.2.1 + 1)), s4.2.2.1, y17.1, y17.2))
 else
  some (.inr (s4.2.2.1, s4.2.2.2.1, s4.2.2.2.2)))

noncomputable def Z1s.s4 (s5 : Int × Int × (List Int) × Int × Bool) : Option ((Int × Int × (List Int) × Int × Bool) ⊕ ((List Int) × Int × Bool)) :=
 (bif (decide (s5.2.1 < s5.1)) then
  (
   (
    (at? s5.2.2.1 s5.2.1).bind fun x10 =>
    (bif ((!s5.2.2.2.2) || (decide (x10 > s5.2.2.2.1))) then
     some (x10, true)
    else
     some (s5.2.2.2.1, s5.2.2.2.2))).bind fun (y22 : Int × Bool) =>
   some (y22.1, y22.2)).bind fun (y21 : Int × Bool) =>
  some (.inl (s5.1, (w64 (s5.2.1 + 1)), s5.2.2.1, y21.1, y21.2))
 else
  some (.inr (s5.2.2.1, s5.2.2.2.1, s5.2.2.2.2)))

noncomputable def Z1s.s2 (d : Int) (up : Bool) (x1 : size_form) (y1 : Int) (s3 : Int × Int × Bool) : Option ((Int × Int × Bool) ⊕ (Int × Bool)) :=
 (bif (decide (s3.1 < (x1.Form.Odd.length : Int))) then
  (
   (
    (at? x1.Form.Odd s3.1).bind fun x5 =>
    (Z17 x5.Ticks).bind fun x6 =>
    (bif (!x6.2) then
     some (.ret ())
    else
     (
      (bif up then
       some (x6.1.To, x6.1.From)
      else
       some (x6.1.From, x6.1.To))).bind fun (y13 : Int × Int) =>
     (
      (Z0R x1 (w64 (y13.2 + d)) up).bind fun x7 =>
      (bif x7.2 then
       (
        (ZK (Z1s.s3) (([(w64 (y1 * (w64 (x7.1 - x5.Index))))].length : Int), 0, [(w64 (y1 * (w64 (x7.1 - x5.Index))))], s3.2.1, s3.2.2)).bind fun (y16 : (List Int) × Int × Bool) =>
        some (y16.1, y16.2.1, y16.2.2)).bind fun (y15 : (List Int) × Int × Bool) =>
       some (y15.2.1, y15.2.2)
      else
       some (s3.2.1, s3.2.2))).bind fun (y14 : Int × Bool) =>
     (Z0R x1 (w64 (y13.1 - d)) (!up)).bind fun x9 =>
     (bif x9.2 then
      (
       (ZK (Z1s.s4) (([(w64 (y1 * (w64 (x5.Index - x9.1))))].length : Int), 0, [(w64 (y1 * (w64 (x5.Index - x9.1))))], y14.1, y14.2)).bind fun (y20 : (List Int) × Int × Bool) =>
       some (y20.1, y20.2.1, y20.2.2)).bind fun (y19 : (List Int) × Int × Bool) =>
      some (.go (y19.2.1, y19.2.2))
     else
      some (.go (y14.1, y14.2))))).bind fun (y12 : Jx (Int × Bool) (Unit)) =>
   y12.elim (fun a4 =>
     some (s3.2.1, s3.2.2)) fun a3 =>
   some (a3.1, a3.2)).bind fun (y11 : Int × Bool) =>
  some (.inl ((w64 (s3.1 + 1)), y11.1, y11.2))
 else
  some (.inr (s3.2.1, s3.2.2)))

noncomputable def Z1s (g : Form) (d : Int) (up : Bool) : Option (Int × Bool × Int) :=
 (bif (!(size_inRange d)) then
  some (0, false, 2)
 else
  (Z7p g).bind fun x1 =>
  (
   (bif up then
    some (-1)
   else
    some 1)).bind fun (y1 : Int) =>
  (ZK (Z1s.s0 d up x1 y1) (0, 0, false)).bind fun (y2 : Int × Bool) =>
  (ZK (Z1s.s2 d up x1 y1) (0, y2.1, y2.2)).bind fun (y10 : Int × Bool) =>
  some ((w64 (y1 * y10.1)), y10.2, 0))

noncomputable def size_Down (f : Form) (d : Int) : Option (Int × Bool × Int) :=
 (Z1s f d false).bind fun x1 =>
 some (x1.1, x1.2.1, x1.2.2)

noncomputable def size_Up (f : Form) (d : Int) : Option (Int × Bool × Int) :=
 (Z1s f d true).bind fun x1 =>
 some (x1.1, x1.2.1, x1.2.2)

noncomputable def Z4h (f : Form) (low : Bound) (high : Bound) : Option (Range × Bool × Int) :=
 (bif ((((!(Z1A low)) || (!(Z1A high))) || (low.Inf == 1)) || (high.Inf == (-1))) then
  some ((Range.mk 0 0 false false), false, 2)
 else
  (
   (bif ((high.Inf == 0) && (decide (high.N ≤ 1099511627776))) then
    (size_Down f (iMax high.N (-1099511627776))).bind fun x1 =>
    (bif (!x1.2.1) then
     some (.ret ((Range.mk 0 0 false false), false, 0))
    else
     some (.go (x1.1, true)))
   else
    some (.go (0, false)))).bind fun (y1 : Jx (Int × Bool) (Range × Bool × Int)) =>
  y1.elim (fun r' =>
    some r') fun a2 =>
  (
   (bif ((low.Inf == 0) && (decide (low.N ≥ (-1099511627776)))) then
    (size_Up f (iMin low.N 1099511627776)).bind fun x2 =>
    (bif (!x2.2.1) then
     some (.ret ((Range.mk 0 0 false false), false, 0))
    else
     some (.go (x2.1, true)))
   else
    some (.go (0, false)))).bind fun (y2 : Jx (Int × Bool) (Range × Bool × Int)) =>
  y2.elim (fun r' =>
    some r') fun a4 =>
  some ((Range.mk a4.1 a2.1 a4.2 a2.2), true, 0))

noncomputable def epactlaw25_CarryArgs (f : Form) (low : Bound) (high : Bound) : Option (Bool) :=
 (Z5A f).bind fun x1 =>
 (bif (!x1) then
  some Z0r
 else
  (Z4h f low high).bind fun x2 =>
  (bif ((((!(Z1A low)) || (!(Z1A high))) || (low.Inf == 1)) || (high.Inf == (-1))) then
   some ((((x2.2.2 == 2) && (!x2.2.1)) && ((x2.1.Low == 0) && ((x2.1.High == 0) && ((x2.1.HasLow == false) && ((x2.1.HasHigh == false) && true))))) && Z0r)
  else
   (bif (((x2.2.2 != 0) || ((low.Inf == (-1)) && x2.1.HasLow)) || ((high.Inf == 1) && x2.1.HasHigh)) then
    some false
   else
    (Z4h f (Bound.mk (-1) 0) (Bound.mk 1 0)).bind fun x3 =>
    some ((((x3.2.2 == 0) && x3.2.1) && ((x3.1.Low == 0) && ((x3.1.High == 0) && ((x3.1.HasLow == false) && ((x3.1.HasHigh == false) && true))))) && Z0r))))

noncomputable def Z6R (a : carry_asked) (gap : Int) : Option (Bool) :=
 (size_Down a.f (w64 (gap - 1099511627776))).bind fun x1 =>
 some ((x1.2.1 && (x1.2.2 == 0)) && (decide (x1.1 ≥ a.m)))

noncomputable def Z57 (f : Form) (m : Int) : Option (Bound) :=
 (Z3h 2199023255553 (fun z0 => Z6R (carry_asked.mk f (iMin (iMax m (-4611686018427387904)) 4611686018427387904)) z0)).bind fun x1 =>
 (bif ((w64 ((iMin x1 2199023255552) - 1099511627776)) == (-1099511627776)) then
  some (Bound.mk (-1) 0)
 else
  some (Bound.mk 0 (w64 ((iMin x1 2199023255552) - 1099511627776))))

noncomputable def safe_Sub (a : Int) (b : Int) : Int × Int :=
 (bif (((decide ((w64 (a - b)) < a)) != (decide (b > 0))) && (b != 0)) then
  (0, 10)
 else
  ((w64 (a - b)), 0))

noncomputable def safe_Minus (a : Bound) : Bound × Int :=
 (bif (!(Z1A a)) then
  ((Bound.mk 0 0), 2)
 else
  (bif (((safe_Sub 0 a.N).2) != 0) then
   ((Bound.mk 0 0), (safe_Sub 0 a.N).2)
  else
   ((Bound.mk (IntKind.i8.wrap (0 - a.Inf)) ((safe_Sub 0 a.N).1)), 0)))

noncomputable def Z5V (f : Form) (n : Int) : Option (Bound) :=
 (Z57 f (w64 (0 - (iMax n (-4611686018427387904))))).bind fun x1 =>
 some ((safe_Minus x1).1)

noncomputable def safe_Less (a : Bound) (b : Bound) : Bool :=
 (bif ((!(Z1A a)) || (!(Z1A b))) then
  false
 else
  (bif (a.Inf != b.Inf) then
   (decide (a.Inf < b.Inf))
  else
   (decide (a.N < b.N))))

noncomputable def Z3C.s0 (x2 : Bound) (x3 : Bound) (x4 : Bound) (x5 : Bound) (s1 : Int) : Option ((Int) ⊕ (Jx (Unit) (Bool))) :=
 (bif (decide (s1 < ([x2, x3, x4, x5].length : Int))) then
  (at? [x2, x3, x4, x5] s1).bind fun x6 =>
  (bif (((!(Z1A x6)) || (decide (x6.N > 1099511627776))) || (decide (x6.N < (-1099511627776)))) then
   some (.inr (.ret false))
  else
   some (.inl (w64 (s1 + 1))))
 else
  some (.inr (.go ())))

noncomputable def Z3C (f : Form) (m : Int) (n : Int) (low : Int) (high : Int) (wide : Int) : Option (Bool) :=
 (Z5A f).bind fun x1 =>
 (bif (!x1) then
  some Z0r
 else
  (Z57 f (iMin m n)).bind fun x2 =>
  (Z57 f (iMax m n)).bind fun x3 =>
  (Z5V f (iMin m n)).bind fun x4 =>
  (Z5V f (iMax m n)).bind fun x5 =>
  (ZK (Z3C.s0 x2 x3 x4 x5) 0).bind fun (y1 : Jx (Unit) (Bool)) =>
  y1.elim (fun r' =>
    some r') fun a2 =>
  (bif ((((safe_Less x3 x2) || (safe_Less x5 x4)) || (x2.Inf == 1)) || (x4.Inf == (-1))) then
   some false
  else
   (Z4h f (Bound.mk 0 (low.tmod 4398046511104)) (Bound.mk 0 (high.tmod 4398046511104))).bind fun x7 =>
   (Z4h f (Bound.mk 0 (w64 ((low.tmod 4398046511104) - (iAnd .i64 wide 65535)))) (Bound.mk 0 (w64 ((high.tmod 4398046511104) + (iAnd .i64 wide 65535))))).bind fun x8 =>
   (bif (((((x7.2.2 != 0) || (x8.2.2 != 0)) || ((!x7.1.HasLow) && (x7.1.Low != 0))) || ((!x7.1.HasHigh) && (x7.1.High != 0))) || ((!x7.2.1) && (!((x7.1.Low == 0) && ((x7.1.High == 0) && ((x7.1.HasLow == false) && ((x7.1.HasHigh == false) && true))))))) then
    some false
   else
    (bif (((x7.2.1 && (!x8.2.1)) && (decide ((high.tmod 4398046511104) ≥ (-1099511627776)))) && (decide ((low.tmod 4398046511104) ≤ 1099511627776))) then
     some false
    else
     (bif ((x7.2.1 && x8.2.1) && ((x8.1.HasLow && ((!x7.1.HasLow) || (decide (x8.1.Low > x7.1.Low)))) || (x8.1.HasHigh && ((!x7.1.HasHigh) || (decide (x8.1.High < x7.1.High)))))) then
      some false
     else
      some Z0r)))))

noncomputable def Z1H.s0 (f : Form) (s1 : Int) : Option ((Int) ⊕ (Jx (Unit) (Bool))) :=
 (bif (decide (s1 < (f.Core.length : Int))) then
  (at? f.Core s1).bind fun x3 =>
  (Z17 x3).bind fun x4 =>
  (bif (x4.2 && ((decide (x4.1.From < (-100))) || (decide (x4.1.To > 100)))) then
   some (.inr (.ret false))
  else
   some (.inl (w64 (s1 + 1))))
 else
  some (.inr (.go ())))

noncomputable def Z1H.s1 (f : Form) (s2 : Int) : Option ((Int) ⊕ (Jx (Unit) (Bool))) :=
 (bif (decide (s2 < (f.Odd.length : Int))) then
  (at? f.Odd s2).bind fun x5 =>
  (bif ((decide (x5.Index < (-100))) || (decide (x5.Index > 100))) then
   some (.inr (.ret false))
  else
   some (.inl (w64 (s2 + 1))))
 else
  some (.inr (.go ())))

noncomputable def Z1H (f : Form) : Option (Bool) :=
 (Z04 f).bind fun x1 =>
 (
  (bif (!x1) then
   some true
  else
   (Zl f).bind fun x2 =>
   some (x2 != 0))).bind fun (y1 : Bool) =>
 (bif (y1 || (decide (f.Period > 200))) then
  some false
 else
  (ZK (Z1H.s0 f) 0).bind fun (y2 : Jx (Unit) (Bool)) =>
  y2.elim (fun r' =>
    some r') fun a2 =>
  (ZK (Z1H.s1 f) 0).bind fun (y3 : Jx (Unit) (Bool)) =>
  y3.elim (fun r' =>
    some r') fun a4 =>
  some true)

noncomputable def Z4H.s0 (f : Form) (i : Int) (s1 : Int) : Option ((Int) ⊕ (Jx (Unit) ((List Span) × Int))) :=
 (bif (decide (s1 < (f.Odd.length : Int))) then
  (at? f.Odd s1).bind fun x1 =>
  (bif (x1.Index == i) then
   (at? f.Odd s1).bind fun x2 =>
   some (.inr (.ret (x2.Ticks, 0)))
  else
   some (.inl (w64 (s1 + 1))))
 else
  some (.inr (.go ())))

noncomputable def Z4H (f : Form) (i : Int) : Option ((List Span) × Int) :=
 (ZK (Z4H.s0 f i) 0).bind fun (y1 : Jx (Unit) ((List Span) × Int)) =>
 y1.elim (fun r' =>
   some r') fun a2 =>
 (bif (f.Count == 0) then
  some ([], 0)
 else
  (Z5h i f.Count).bind fun x3 =>
  (at? f.Core x3.2).bind fun x4 =>
  some (x4, x3.1))

noncomputable def Z3l.s0 (l : (List Span)) (by' : Int) (s2 : Int × (List Span)) : Option ((Int × (List Span)) ⊕ (Jx ((List Span)) ((List Span) × Int))) :=
 (bif (decide (s2.1 < (l.length : Int))) then
  (at? l s2.1).bind fun x1 =>
  (
   (bif (decide (by' > (w64 (1099511627776 - x1.To)))) then
    some true
   else
    (at? l s2.1).bind fun x2 =>
    some (decide (by' < (w64 ((-1099511627776) - x2.From)))))).bind fun (y2 : Bool) =>
  (bif y2 then
   some (.inr (.ret ([], 20)))
  else
   (at? l s2.1).bind fun x3 =>
   (at? l s2.1).bind fun x4 =>
   (app? 16 s2.2 [(Span.mk (w64 (x3.From + by')) (w64 (x4.To + by')))]).bind fun x5 =>
   some (.inl ((w64 (s2.1 + 1)), x5)))
 else
  some (.inr (.go s2.2)))

noncomputable def Z3l (l : (List Span)) (by' : Int) : Option ((List Span) × Int) :=
 (ZK (Z3l.s0 l by') (0, [])).bind fun (y1 : Jx ((List Span)) ((List Span) × Int)) =>
 y1.elim (fun r' =>
   some r') fun a2 =>
 some (a2, 0)

noncomputable def Z5z (f : Form) (i : Int) : Option ((List Span) × Int) :=
 (bif ((decide (i < (-1099511627776))) || (decide (i > 1099511627776))) then
  some ([], 20)
 else
  (Z4H f i).bind fun x1 =>
  (bif (((x1.1.length : Int) == 0) || (x1.2 == 0)) then
   (app? 16 [] x1.1).bind fun x2 =>
   some (x2, 0)
  else
   (nz? f.Period).bind fun u1 =>
   (
    (bif (decide (x1.2 > (w64 ((w64 ((2199023255552 : Int).tdiv f.Period)) + 1)))) then
     some true
    else
     (nz? f.Period).bind fun u2 =>
     some (decide (x1.2 < (w64 ((w64 ((-2199023255552).tdiv f.Period)) - 1)))))).bind fun (y1 : Bool) =>
   (bif y1 then
    some ([], 20)
   else
    (Z3l x1.1 (w64 (x1.2 * f.Period))).bind fun x3 =>
    some (x3.1, x3.2))))

noncomputable def Z2u.s0 (f : Form) (to' : Int) (s1 : Int) : Option ((Int) ⊕ (Jx (Unit) ((List Span) × Bool))) :=
 (bif (decide (s1 ≤ to')) then
  (Z5z f s1).bind fun x1 =>
  (bif ((x1.2 == 0) && (decide ((x1.1.length : Int) > 0))) then
   some (.inr (.ret (x1.1, true)))
  else
   some (.inl (w64 (s1 + 1))))
 else
  some (.inr (.go ())))

noncomputable def Z2u (f : Form) (i : Int) (to' : Int) : Option ((List Span) × Bool) :=
 (ZK (Z2u.s0 f to') i).bind fun (y1 : Jx (Unit) ((List Span) × Bool)) =>
 y1.elim (fun r' =>
   some r') fun a2 =>
 some ([], false)

noncomputable def Z4K.s0 (f : Form) (m : Int) (s1 : Int × Bool × Int) : Option ((Int × Bool × Int) ⊕ (Int × Bool)) :=
 (bif (decide (s1.2.2 ≤ 600)) then
  (
   (
    (Z5z f s1.2.2).bind fun x1 =>
    (bif ((x1.2 != 0) || ((x1.1.length : Int) == 0)) then
     some (.ret ())
    else
     (Z2u f (w64 (s1.2.2 + m)) (iMax (w64 ((w64 (s1.2.2 + m)) + 30)) 130)).bind fun x2 =>
     (bif (!x2.2) then
      some (.ret ())
     else
      (at? x2.1 0).bind fun x3 =>
      (at? x1.1 (w64 ((x1.1.length : Int) - 1))).bind fun x4 =>
      (bif ((!s1.2.1) || (decide ((w64 (x3.From - x4.To)) < s1.1))) then
       some (.go ((w64 (x3.From - x4.To)), true))
      else
       some (.go (s1.1, s1.2.1)))))).bind fun (y3 : Jx (Int × Bool) (Unit)) =>
   y3.elim (fun a4 =>
     some (s1.1, s1.2.1)) fun a3 =>
   some (a3.1, a3.2)).bind fun (y2 : Int × Bool) =>
  some (.inl (y2.1, y2.2, (w64 (s1.2.2 + 1))))
 else
  some (.inr (s1.1, s1.2.1)))

noncomputable def Z4K (f : Form) (m : Int) : Option (Int × Bool) :=
 (ZK (Z4K.s0 f m) (0, false, (-600))).bind fun (y1 : Int × Bool) =>
 some (y1.1, y1.2)

noncomputable def Z4N (f : Form) (m : Int) : Option (Bound) :=
 (Z4K f m).bind fun x1 =>
 (bif ((!x1.2) || (decide (x1.1 > 1099511627776))) then
  some (Bound.mk 0 1099511627776)
 else
  (bif (decide (x1.1 ≤ (-1099511627776))) then
   some (Bound.mk (-1) 0)
  else
   some (Bound.mk 0 x1.1)))

noncomputable def Z5g (f : Form) (n : Int) : Option (Bound) :=
 (Z4N f (w64 (0 - n))).bind fun x1 =>
 some (Bound.mk (IntKind.i8.wrap (0 - x1.Inf)) (w64 (0 - x1.N)))

noncomputable def carry_Ticks (f : Form) (r' : Range) : Option (Bound × Bound) :=
 (
  (bif r'.HasLow then
   (Z57 f r'.Low).bind fun x1 =>
   some (x1.Inf, x1.N)
  else
   some ((-1), 0))).bind fun (y1 : Int × Int) =>
 (
  (bif r'.HasHigh then
   (Z5V f r'.High).bind fun x2 =>
   some (x2.Inf, x2.N)
  else
   some (1, 0))).bind fun (y2 : Int × Int) =>
 some ((Bound.mk y1.1 y1.2), (Bound.mk y2.1 y2.2))

noncomputable def epactlaw25_CarryTells (f : Form) (r' : Range) : Option (Bool) :=
 (Z1H f).bind fun x1 =>
 (bif (!x1) then
  some Z0r
 else
  (
   (bif r'.HasLow then
    (Z4N f (r'.Low.tmod 200)).bind fun x2 =>
    some (x2.Inf, x2.N)
   else
    some ((-1), 0))).bind fun (y1 : Int × Int) =>
  (
   (bif r'.HasHigh then
    (Z5g f (r'.High.tmod 200)).bind fun x3 =>
    some (x3.Inf, x3.N)
   else
    some (1, 0))).bind fun (y2 : Int × Int) =>
  (carry_Ticks f (Range.mk (r'.Low.tmod 200) (r'.High.tmod 200) r'.HasLow r'.HasHigh)).bind fun x4 =>
  (
   (bif (((x4.1.Inf == y1.1) && ((x4.1.N == y1.2) && true)) && ((x4.2.Inf == y2.1) && ((x4.2.N == y2.2) && true))) then
    (Z57 f (r'.Low.tmod 200)).bind fun x5 =>
    (Z4N f (r'.Low.tmod 200)).bind fun x6 =>
    some ((x5.Inf == x6.Inf) && ((x5.N == x6.N) && true))
   else
    some false)).bind fun (y3 : Bool) =>
  (
   (bif y3 then
    (Z5V f (r'.High.tmod 200)).bind fun x7 =>
    (Z5g f (r'.High.tmod 200)).bind fun x8 =>
    some ((x7.Inf == x8.Inf) && ((x7.N == x8.N) && true))
   else
    some false)).bind fun (y4 : Bool) =>
  some (y4 && Z0r))

noncomputable def ZH : Form :=
 (Form.mk 7 1 [[(Span.mk 0 4)]] [])

noncomputable def find_up : Unit :=
 ()

noncomputable def Z6L (h' : Span) (t : Int) (period : Int) : Option (Int) :=
 (Z19 (w64 (h'.To - t)) period).bind fun x1 =>
 some (w64 (0 - x1.1))

noncomputable def ZA.s0 (f : Form) (t : Int) (s1 : Int × Bool × Int) : Option ((Int × Bool × Int) ⊕ (Int × Bool)) :=
 (bif (decide (s1.2.2 < (f.Core.length : Int))) then
  (
   (
    (at? f.Core s1.2.2).bind fun x1 =>
    (Z17 x1).bind fun x2 =>
    (bif (!x2.2) then
     some (.ret ())
    else
     (Z6L x2.1 t f.Period).bind fun x3 =>
     (bif ((!s1.2.1) || (decide ((w64 ((w64 ((w64 ((w64 (x3 * f.Count)) + s1.2.2)) - s1.1)) * 1)) < 0))) then
      some (.go ((w64 ((w64 (x3 * f.Count)) + s1.2.2)), true))
     else
      some (.go (s1.1, s1.2.1))))).bind fun (y3 : Jx (Int × Bool) (Unit)) =>
   y3.elim (fun a4 =>
     some (s1.1, s1.2.1)) fun a3 =>
   some (a3.1, a3.2)).bind fun (y2 : Int × Bool) =>
  some (.inl (y2.1, y2.2, (w64 (s1.2.2 + 1))))
 else
  some (.inr (s1.1, s1.2.1)))

noncomputable def ZA (f : Form) (t : Int) : Option (Int × Bool) :=
 (ZK (ZA.s0 f t) (0, false, 0)).bind fun (y1 : Int × Bool) =>
 some (y1.1, y1.2)

noncomputable def Z3.s0 (f : Form) (s1 : Int × (List (Int × Int))) : Option ((Int × (List (Int × Int))) ⊕ ((List (Int × Int)))) :=
 (bif (decide (s1.1 < (f.Odd.length : Int))) then
  (at? f.Odd s1.1).bind fun x2 =>
  some (.inl ((w64 (s1.1 + 1)), (mput s1.2 x2.Index (w64 ((mget s1.2 x2.Index) + 1)))))
 else
  some (.inr s1.2))

noncomputable def Z3.s1 (f : Form) (y1 : (List (Int × Int))) (s2 : Int × Bool × Int) : Option ((Int × Bool × Int) ⊕ (Jx (Unit) (Int × Bool))) :=
 (bif (s2.2.1 && (decide (s2.2.2 < 2))) then
  (
   (
    (Z0F (Form.mk f.Period f.Count f.Core []) s2.1).bind fun x4 =>
    (bif (x4.2 != 0) then
     some (.go (w64 (s2.2.2 + 1)))
    else
     (bif ((mget y1 s2.1) == 0) then
      some (.ret (s2.1, true))
     else
      some (.go s2.2.2)))).bind fun (y4 : Jx (Int) (Int × Bool)) =>
   y4.elim (fun r' =>
     some (.ret r')) fun a4 =>
   some (.go a4)).bind fun (y3 : Jx (Int) (Int × Bool)) =>
  y3.elim (fun r' =>
    some (.inr (.ret r'))) fun a5 =>
  (Z0t (Form.mk f.Period f.Count f.Core []) s2.1).bind fun x5 =>
  some (.inl (x5.1, x5.2, a5))
 else
  some (.inr (.go ())))

noncomputable def Z3 (f : Form) (t : Int) : Option (Int × Bool) :=
 (ZA f t).bind fun x1 =>
 (bif (!x1.2) then
  some (0, false)
 else
  (ZK (Z3.s0 f) (0, [])).bind fun (y1 : (List (Int × Int))) =>
  (Z0t (Form.mk f.Period f.Count f.Core []) (w64 (x1.1 - 1))).bind fun x3 =>
  (ZK (Z3.s1 f y1) (x3.1, x3.2, 0)).bind fun (y2 : Jx (Unit) (Int × Bool)) =>
  y2.elim (fun r' =>
    some r') fun a6 =>
  some (0, false))

noncomputable def Z1y (h' : Span) (t : Int) : Bool :=
 (decide (h'.To ≥ t))

noncomputable def Z8.s0 (f : Form) (t : Int) (s1 : Int × Bool × Int) : Option ((Int × Bool × Int) ⊕ (Int × Bool)) :=
 (bif (decide (s1.2.2 < (f.Odd.length : Int))) then
  (
   (
    (at? f.Odd s1.2.2).bind fun x2 =>
    (Z17 x2.Ticks).bind fun x3 =>
    (bif ((x3.2 && (Z1y x3.1 (iMax (iMin t 1099511627777) (-1099511627777)))) && ((!s1.2.1) || (decide ((w64 ((w64 (x2.Index - s1.1)) * 1)) < 0)))) then
     some (x2.Index, true)
    else
     some (s1.1, s1.2.1))).bind fun (y3 : Int × Bool) =>
   some (y3.1, y3.2)).bind fun (y2 : Int × Bool) =>
  some (.inl (y2.1, y2.2, (w64 (s1.2.2 + 1))))
 else
  some (.inr (s1.1, s1.2.1)))

noncomputable def Z8 (f : Form) (t : Int) : Option (Int × Bool) :=
 (Z3 f (iMax (iMin t 1099511627777) (-1099511627777))).bind fun x1 =>
 (ZK (Z8.s0 f t) (x1.1, x1.2, 0)).bind fun (y1 : Int × Bool) =>
 some (y1.1, y1.2)

noncomputable def Z49 (f : Form) (t : Int) : Option (Int × Bool) :=
 (Z8 f t).bind fun x1 =>
 some (x1.1, x1.2)

noncomputable def Z7.s0 (x' : (List Span)) (target : Int) (cmp : Span → Int → Option Int) (s1 : Int × Int) : Option ((Int × Int) ⊕ (Int)) :=
 (bif (decide (s1.1 < s1.2)) then
  (
   (at? x' (w64 ((IntKind.u64.wrap (w64 (s1.1 + s1.2))).fdiv (2 ^ 1)))).bind fun x1 =>
   (cmp x1 target).bind fun x2 =>
   (bif (decide (x2 < 0)) then
    some ((w64 ((w64 ((IntKind.u64.wrap (w64 (s1.1 + s1.2))).fdiv (2 ^ 1))) + 1)), s1.2)
   else
    some (s1.1, (w64 ((IntKind.u64.wrap (w64 (s1.1 + s1.2))).fdiv (2 ^ 1)))))).bind fun (y2 : Int × Int) =>
  some (.inl (y2.1, y2.2))
 else
  some (.inr s1.1))

noncomputable def Z7 (x' : (List Span)) (target : Int) (cmp : Span → Int → Option Int) : Option (Int × Bool) :=
 (ZK (Z7.s0 x' target cmp) (0, (x'.length : Int))).bind fun (y1 : Int) =>
 (
  (bif (decide (y1 < (x'.length : Int))) then
   (at? x' y1).bind fun x3 =>
   (cmp x3 target).bind fun x4 =>
   some (x4 == 0)
  else
   some false)).bind fun (y3 : Bool) =>
 some (y1, y3)

noncomputable def Z2C (s : Span) (t : Int) : Int :=
 (bif (decide (s.To < t)) then
  (-1)
 else
  (bif (decide (s.From > t)) then
   1
  else
   0))

noncomputable def Z3F (l : (List Span)) (t : Int) : Option (Bool) :=
 (Z7 l t (fun z0 z1 => some (Z2C z0 z1))).bind fun x1 =>
 some (x1.2 && (decide (x1.1 < (l.length : Int))))

noncomputable def Z3Y (f : Form) (t : Int) : Option (Int × Bool) :=
 (Z49 f t).bind fun x1 =>
 (bif (!x1.2) then
  some (0, false)
 else
  (Z0F f x1.1).bind fun x2 =>
  (Z3F x2.1 t).bind fun x3 =>
  (bif (!x3) then
   some (0, false)
  else
   some (x1.1, true)))

noncomputable def Zs (f : Form) (a : Int) (b : Int) : Option (Int × Bool) :=
 (Z3Y f a).bind fun x1 =>
 (bif (!x1.2) then
  some (0, false)
 else
  (Z3Y f b).bind fun x2 =>
  (bif (!x2.2) then
   some (0, false)
  else
   some ((w64 (x2.1 - x1.1)), true)))

noncomputable def ZN.s0 (s : (List Int)) (f : Int → Option Bool) (s1 : Int) : Option ((Int) ⊕ (Jx (Unit) (Int))) :=
 (bif (decide (s1 < (s.length : Int))) then
  (at? s s1).bind fun x1 =>
  (f x1).bind fun x2 =>
  (bif x2 then
   some (.inr (.ret s1))
  else
   some (.inl (w64 (s1 + 1))))
 else
  some (.inr (.go ())))

noncomputable def ZN (s : (List Int)) (f : Int → Option Bool) : Option (Int) :=
 (ZK (ZN.s0 s f) 0).bind fun (y1 : Jx (Unit) (Int)) =>
 y1.elim (fun r' =>
   some r') fun a2 =>
 some (-1)

noncomputable def Zk (s : (List Int)) (f : Int → Option Bool) : Option (Bool) :=
 (ZN s f).bind fun x1 =>
 some (decide (x1 ≥ 0))

noncomputable def Z48 (t : Int) : Bool :=
 ((decide (t < (-1099511627776))) || (decide (t > 1099511627776)))

noncomputable def Z3x (n : Net) (ticks : (List Int)) : Option (Bool) :=
 (
  (bif ((ticks.length : Int) == n.Vars) then
   (Zk ticks (fun z0 => some (Z48 z0))).bind fun x1 =>
   some (!x1)
  else
   some false)).bind fun (y1 : Bool) =>
 some y1

noncomputable def Z3u (n : Net) (c : Con) (ticks : (List Int)) : Option (Bool) :=
 (at? n.Forms c.Form).bind fun x1 =>
 (at? ticks c.X).bind fun x2 =>
 (at? ticks c.Y).bind fun x3 =>
 (Zs x1 x2 x3).bind fun x4 =>
 (
  (
   (
    (bif (!x4.2) then
     some (!x4.2)
    else
     (bif (c.Range.HasLow && (decide (x4.1 < c.Range.Low))) then
      some (c.Range.HasLow && (decide (x4.1 < c.Range.Low)))
     else
      some (c.Range.HasHigh && (decide (x4.1 > c.Range.High)))))).bind fun (y3 : Bool) =>
   (bif y3 then
    some (.ret false)
   else
    some (.go ()))).bind fun (y2 : Jx (Unit) (Bool)) =>
  y2.elim (fun r' =>
    some (.ret r')) fun a3 =>
  some (.go ())).bind fun (y1 : Jx (Unit) (Bool)) =>
 y1.elim (fun r' =>
   some r') fun a4 =>
 some true

noncomputable def Z0X.s0 (p1' : Net) (p2' : (List Int)) {S : Type} (yield : S → Int → Option (S × Bool)) (s1 : Int × S) : Option ((Int × S) ⊕ (Jx (S) (S))) :=
 (bif (decide (s1.1 < (p1'.Cons.length : Int))) then
  (at? p1'.Cons s1.1).bind fun x1 =>
  (Z3u p1' x1 p2').bind fun x2 =>
  (
   (bif (!x2) then
    (yield s1.2 s1.1).bind fun x3 =>
    some ((!x3.2), x3.1)
   else
    some (false, s1.2))).bind fun (y2 : Bool × S) =>
  (bif y2.1 then
   some (.inr (.ret y2.2))
  else
   some (.inl ((w64 (s1.1 + 1)), y2.2)))
 else
  some (.inr (.go s1.2)))

noncomputable def Z0X {S : Type} (p1' : Net) (p2' : (List Int)) (yield : S → Int → Option (S × Bool)) (st' : S) : Option (S) :=
 (ZK (Z0X.s0 p1' p2' yield) (0, st')).bind fun (y1 : Jx (S) (S)) =>
 y1.elim (fun r' =>
   some r') fun a2 =>
 some a2

noncomputable def Z0M.b0 (s2 : (List Int)) (z2 : Int) : Option (((List Int)) × Nat) :=
 (app? 8 s2 [z2]).bind fun x2 =>
 some (x2, 0)

noncomputable def Z0M (n : Net) (ticks : (List Int)) : Option ((List Int) × Int) :=
 (Z3x n ticks).bind fun x1 =>
 (bif (!x1) then
  some ([], 230)
 else
  (Z0X n ticks (Z30 Z0M.b0) ([], 0)).bind fun (y1 : ((List Int)) × Nat) =>
  some (y1.1, 0))

noncomputable def ZV (i : Int) (many : Int) : Bool :=
 ((decide (i ≥ 0)) && (decide (i < many)))

noncomputable def ZX.s0 (s : (List Form)) (f : Form → Option Bool) (s1 : Int) : Option ((Int) ⊕ (Jx (Unit) (Int))) :=
 (bif (decide (s1 < (s.length : Int))) then
  (at? s s1).bind fun x1 =>
  (f x1).bind fun x2 =>
  (bif x2 then
   some (.inr (.ret s1))
  else
   some (.inl (w64 (s1 + 1))))
 else
  some (.inr (.go ())))

noncomputable def ZX (s : (List Form)) (f : Form → Option Bool) : Option (Int) :=
 (ZK (ZX.s0 s f) 0).bind fun (y1 : Jx (Unit) (Int)) =>
 y1.elim (fun r' =>
   some r') fun a2 =>
 some (-1)

noncomputable def Z05 (s : (List Form)) (f : Form → Option Bool) : Option (Bool) :=
 (ZX s f).bind fun x1 =>
 some (decide (x1 ≥ 0))

noncomputable def Z3g (f : Form) : Option (Bool) :=
 (Zl f).bind fun x1 =>
 some (x1 != 0)

noncomputable def ZZ.s0 (s : (List Con)) (f : Con → Option Bool) (s1 : Int) : Option ((Int) ⊕ (Jx (Unit) (Int))) :=
 (bif (decide (s1 < (s.length : Int))) then
  (at? s s1).bind fun x1 =>
  (f x1).bind fun x2 =>
  (bif x2 then
   some (.inr (.ret s1))
  else
   some (.inl (w64 (s1 + 1))))
 else
  some (.inr (.go ())))

noncomputable def ZZ (s : (List Con)) (f : Con → Option Bool) : Option (Int) :=
 (ZK (ZZ.s0 s f) 0).bind fun (y1 : Jx (Unit) (Int)) =>
 y1.elim (fun r' =>
   some r') fun a2 =>
 some (-1)

noncomputable def Z0E (s : (List Con)) (f : Con → Option Bool) : Option (Bool) :=
 (ZZ s f).bind fun x1 =>
 some (decide (x1 ≥ 0))

noncomputable def Z1U (r' : Range) : Bool :=
 ((r'.HasLow || (r'.Low == 0)) && (r'.HasHigh || (r'.High == 0)))

noncomputable def Z2F (n : Net) (c : Con) : Bool :=
 ((((ZV c.X n.Vars) && (ZV c.Y n.Vars)) && (ZV c.Form (n.Forms.length : Int))) && (Z1U c.Range))

noncomputable def Z4g (c : Con) (p1' : Net) : Bool :=
 (!(Z2F p1' c))

noncomputable def Z47 (n : Net) : Option (Int) :=
 (
  (
   (
    (bif (!(ZV n.Vars 25)) then
     some (!(ZV n.Vars 25))
    else
     (bif (decide ((n.Forms.length : Int) > 20)) then
      some (decide ((n.Forms.length : Int) > 20))
     else
      some (decide ((n.Cons.length : Int) > 200))))).bind fun (y3 : Bool) =>
   (bif y3 then
    some (.ret 230)
   else
    (
     (Z05 n.Forms (fun z0 => Z3g z0)).bind fun x1 =>
     (bif x1 then
      some x1
     else
      (Z0E n.Cons (fun z0 => some (Z4g z0 n))).bind fun x2 =>
      some x2)).bind fun (y4 : Bool) =>
    (bif y4 then
     some (.ret 230)
    else
     some (.go ())))).bind fun (y2 : Jx (Unit) (Int)) =>
  y2.elim (fun r' =>
    some (.ret r')) fun a3 =>
  some (.go ())).bind fun (y1 : Jx (Unit) (Int)) =>
 y1.elim (fun r' =>
   some r') fun a4 =>
 some 0

noncomputable def Z4O.s0 (n : Net) (s1 : Int) : Option ((Int) ⊕ (Jx (Unit) (Bool))) :=
 (bif (decide (s1 < (n.Forms.length : Int))) then
  (at? n.Forms s1).bind fun x1 =>
  (Z1H x1).bind fun x2 =>
  (bif (!x2) then
   some (.inr (.ret false))
  else
   some (.inl (w64 (s1 + 1))))
 else
  some (.inr (.go ())))

noncomputable def Z4O (n : Net) : Option (Bool) :=
 (bif (((decide ((n.Forms.length : Int) > 4)) || (decide ((n.Cons.length : Int) > 8))) || (decide (n.Vars > 8))) then
  some false
 else
  (ZK (Z4O.s0 n) 0).bind fun (y1 : Jx (Unit) (Bool)) =>
  y1.elim (fun r' =>
    some r') fun a2 =>
  (Z47 n).bind fun x3 =>
  some (x3 == 0))

noncomputable def Z09.b0 (s1 : Unit) (z1 : Int) : Option ((Unit) × Nat) :=
 some ((), 1)

noncomputable def Z09 (n : Net) (ticks : (List Int)) : Option (Bool) :=
 (Z3x n ticks).bind fun x1 =>
 (bif (!x1) then
  some false
 else
  (Z0X n ticks (Z30 Z09.b0) ((), 0)).bind fun (y1 : (Unit) × Nat) =>
  (bif (y1.2 == 0) then
   some true
  else
   some false))

noncomputable def Zu.s0 (a : (List Int)) (b : (List Int)) (s1 : Int) : Option ((Int) ⊕ (Jx (Unit) (Bool))) :=
 (bif (decide (s1 < (a.length : Int))) then
  (at? a s1).bind fun x1 =>
  (at? b s1).bind fun x2 =>
  (bif (x1 != x2) then
   some (.inr (.ret false))
  else
   some (.inl (w64 (s1 + 1))))
 else
  some (.inr (.go ())))

noncomputable def Zu (a : (List Int)) (b : (List Int)) : Option (Bool) :=
 (bif ((a.length : Int) != (b.length : Int)) then
  some false
 else
  (ZK (Zu.s0 a b) 0).bind fun (y1 : Jx (Unit) (Bool)) =>
  y1.elim (fun r' =>
    some r') fun a2 =>
  some true)

noncomputable def Z1L : Option (Bool) :=
 (Zs ZH 3 9).bind fun x1 =>
 (Zs ZH 3 5).bind fun x2 =>
 (Z0M (Net.mk 2 [ZH] [(Con.mk 0 1 0 (Range.mk 1 2 true true))]) [3, 4]).bind fun x3 =>
 (Z0M (Net.mk 2 [ZH] [(Con.mk 0 1 0 (Range.mk 1 2 true true))]) [3, 5]).bind fun x4 =>
 (
  (bif ((x1.2 && (x1.1 == 1)) && (!x2.2)) then
   (Z47 (Net.mk 2 [ZH] [(Con.mk 0 1 0 (Range.mk 1 2 true true))])).bind fun x5 =>
   some (x5 == 0)
  else
   some false)).bind fun (y1 : Bool) =>
 (
  (bif y1 then
   (Z09 (Net.mk 2 [ZH] [(Con.mk 0 1 0 (Range.mk 1 2 true true))]) [3, 9]).bind fun x6 =>
   some x6
  else
   some false)).bind fun (y2 : Bool) =>
 (
  (bif (y2 && (x3.2 == 0)) then
   (Zu x3.1 [0]).bind fun x7 =>
   some x7
  else
   some false)).bind fun (y3 : Bool) =>
 (
  (bif (y3 && (x4.2 == 0)) then
   (Zu x4.1 [0]).bind fun x8 =>
   some x8
  else
   some false)).bind fun (y4 : Bool) =>
 some y4

def ZM : Bool := true

noncomputable def epactlaw23_TagAdds (f : Form) (a : Int) (b : Int) (c : Int) : Option (Bool) :=
 (Z04 f).bind fun x1 =>
 (
  (bif (!x1) then
   some true
  else
   (Zl f).bind fun x2 =>
   some (x2 != 0))).bind fun (y1 : Bool) =>
 (bif y1 then
  some ZM
 else
  (Zs f a b).bind fun x3 =>
  (Zs f b a).bind fun x4 =>
  (Zs f b c).bind fun x5 =>
  (Zs f a c).bind fun x6 =>
  (Zs f a a).bind fun x7 =>
  (Zs f b b).bind fun x8 =>
  (bif (((((x3.2 != x4.2) || (x3.2 != (x7.2 && x8.2))) || ((!x3.2) && (x3.1 != 0))) || (x7.1 != 0)) || (x8.1 != 0)) then
   some false
  else
   (bif ((x3.2 && (x3.1 != (w64 (0 - x4.1)))) || ((x3.2 && x5.2) && ((!x6.2) || (x6.1 != (w64 (x3.1 + x5.1)))))) then
    some false
   else
    (bif (((x3.2 && (decide (a ≤ b))) && (decide (x3.1 < 0))) || ((x3.2 && (decide (a ≥ b))) && (decide (x3.1 > 0)))) then
     some false
    else
     some ZM))))

noncomputable def Z0U.s0 (n : Net) (cut : Int) (s1 : (List Int)) : Option (((List Int)) ⊕ ((List Int))) :=
 (bif (decide ((s1.length : Int) < n.Vars)) then
  (cut? s1 0 (s1.length : Int)).bind fun x4 =>
  (app? 8 x4 [0]).bind fun x5 =>
  some (.inl x5)
 else
  some (.inr s1))

noncomputable def Z0U.s1 (n : Net) (cut : Int) (x10 : (List Int) × Int) (s2 : Int × (List Int)) : Option ((Int × (List Int)) ⊕ ((List Int))) :=
 (bif (decide (s2.1 < (x10.1.length : Int))) then
  (at? x10.1 s2.1).bind fun x12 =>
  (app? 8 s2.2 [(w64 (x12 + ((w64 cut).tmod (w64 ((n.Cons.length : Int) + 1)))))]).bind fun x13 =>
  some (.inl ((w64 (s2.1 + 1)), x13))
 else
  some (.inr s2.2))

noncomputable def Z0U.s2 (n : Net) (cut : Int) (x23 : (List Int) × Int) (s3 : Int × (List Int)) : Option ((Int × (List Int)) ⊕ ((List Int))) :=
 (bif (decide (s3.1 < (x23.1.length : Int))) then
  (at? x23.1 s3.1).bind fun x25 =>
  (app? 8 s3.2 [(w64 (x25 + ((w64 cut).tmod (w64 ((n.Cons.length : Int) + 1)))))]).bind fun x26 =>
  some (.inl ((w64 (s3.1 + 1)), x26))
 else
  some (.inr s3.2))

noncomputable def Z0U (n : Net) (ticks : (List Int)) (cut : Int) : Option (Bool) :=
 (Z4O n).bind fun x1 =>
 (bif (!x1) then
  some ZM
 else
  (bif (decide ((ticks.length : Int) < n.Vars)) then
   (cut? ticks 0 (ticks.length : Int)).bind fun x2 =>
   (app? 8 x2 [0]).bind fun x3 =>
   (ZK (Z0U.s0 n cut) x3).bind fun (y1 : (List Int)) =>
   (cut? y1 0 n.Vars).bind fun x6 =>
   (nz? (w64 ((n.Cons.length : Int) + 1))).bind fun u1 =>
   (cut? n.Cons 0 ((w64 cut).tmod (w64 ((n.Cons.length : Int) + 1)))).bind fun x7 =>
   (cut? n.Cons ((w64 cut).tmod (w64 ((n.Cons.length : Int) + 1))) (n.Cons.length : Int)).bind fun x8 =>
   (Z0M (Net.mk n.Vars n.Forms x7) x6).bind fun x9 =>
   (Z0M (Net.mk n.Vars n.Forms x8) x6).bind fun x10 =>
   (Z0M n x6).bind fun x11 =>
   (bif ((x9.2 != x10.2) || (x9.2 != x11.2)) then
    some false
   else
    (ZK (Z0U.s1 n cut x10) (0, x9.1)).bind fun (y2 : (List Int)) =>
    (Zu y2 x11.1).bind fun x14 =>
    (
     (bif x14 then
      (Z09 n x6).bind fun x15 =>
      some (x15 == ((x9.2 == 0) && ((x11.1.length : Int) == 0)))
     else
      some false)).bind fun (y3 : Bool) =>
    (
     (bif y3 then
      (Z09 n x6).bind fun x16 =>
      (Z09 (Net.mk n.Vars n.Forms x7) x6).bind fun x17 =>
      (
       (bif x17 then
        (Z09 (Net.mk n.Vars n.Forms x8) x6).bind fun x18 =>
        some x18
       else
        some false)).bind fun (y5 : Bool) =>
      some (x16 == y5)
     else
      some false)).bind fun (y4 : Bool) =>
    some (y4 && ZM))
  else
   (cut? ticks 0 n.Vars).bind fun x19 =>
   (nz? (w64 ((n.Cons.length : Int) + 1))).bind fun u2 =>
   (cut? n.Cons 0 ((w64 cut).tmod (w64 ((n.Cons.length : Int) + 1)))).bind fun x20 =>
   (cut? n.Cons ((w64 cut).tmod (w64 ((n.Cons.length : Int) + 1))) (n.Cons.length : Int)).bind fun x21 =>
   (Z0M (Net.mk n.Vars n.Forms x20) x19).bind fun x22 =>
   (Z0M (Net.mk n.Vars n.Forms x21) x19).bind fun x23 =>
   (Z0M n x19).bind fun x24 =>
   (bif ((x22.2 != x23.2) || (x22.2 != x24.2)) then
    some false
   else
    (ZK (Z0U.s2 n cut x23) (0, x22.1)).bind fun (y6 : (List Int)) =>
    (Zu y6 x24.1).bind fun x27 =>
    (
     (bif x27 then
      (Z09 n x19).bind fun x28 =>
      some (x28 == ((x22.2 == 0) && ((x24.1.length : Int) == 0)))
     else
      some false)).bind fun (y7 : Bool) =>
    (
     (bif y7 then
      (Z09 n x19).bind fun x29 =>
      (Z09 (Net.mk n.Vars n.Forms x20) x19).bind fun x30 =>
      (
       (bif x30 then
        (Z09 (Net.mk n.Vars n.Forms x21) x19).bind fun x31 =>
        some x31
       else
        some false)).bind fun (y9 : Bool) =>
      some (x29 == y9)
     else
      some false)).bind fun (y8 : Bool) =>
    some (y8 && ZM))))

noncomputable def Z0w (n : Net) (c : Con) (ticks : (List Int)) : Option (Bool) :=
 (Z3x n ticks).bind fun x1 =>
 (
  (bif x1 then
   (Z3u n c ticks).bind fun x2 =>
   some x2
  else
   some false)).bind fun (y1 : Bool) =>
 some y1

noncomputable def Z1I (f : Form) (a : Int) (b : Int) (r' : Range) : Option (Bool) :=
 (Z04 f).bind fun x1 =>
 (
  (bif (!x1) then
   some true
  else
   (Zl f).bind fun x2 =>
   some (x2 != 0))).bind fun (y1 : Bool) =>
 (bif y1 then
  some ZM
 else
  (Zs f (a.tmod 1099511627776) (b.tmod 1099511627776)).bind fun x3 =>
  (
   (Z0w (Net.mk 2 [f] []) (Con.mk 0 1 0 (Range.mk 0 0 false false)) [(a.tmod 1099511627776), (b.tmod 1099511627776)]).bind fun x4 =>
   some x4).bind fun (y2 : Bool) =>
  (bif (y2 != x3.2) then
   some false
  else
   (
    (Z0w (Net.mk 2 [f] []) (Con.mk 0 1 0 (Range.mk r'.Low 0 true false)) [(a.tmod 1099511627776), (b.tmod 1099511627776)]).bind fun x5 =>
    some x5).bind fun (y3 : Bool) =>
   (
    (bif y3 then
     some true
    else
     (
      (Z0w (Net.mk 2 [f] []) (Con.mk 0 1 0 (Range.mk 0 r'.High false true)) [(a.tmod 1099511627776), (b.tmod 1099511627776)]).bind fun x6 =>
      some x6).bind fun (y5 : Bool) =>
     some y5)).bind fun (y4 : Bool) =>
   (
    (bif (y4 && (!x3.2)) then
     some true
    else
     (
      (Z0w (Net.mk 2 [f] []) (Con.mk 0 1 0 (Range.mk r'.Low r'.High true true)) [(a.tmod 1099511627776), (b.tmod 1099511627776)]).bind fun x7 =>
      some x7).bind fun (y7 : Bool) =>
     (
      (Z0w (Net.mk 2 [f] []) (Con.mk 0 1 0 (Range.mk r'.Low 0 true false)) [(a.tmod 1099511627776), (b.tmod 1099511627776)]).bind fun x8 =>
      some x8).bind fun (y8 : Bool) =>
     (
      (bif y8 then
       (
        (Z0w (Net.mk 2 [f] []) (Con.mk 0 1 0 (Range.mk 0 r'.High false true)) [(a.tmod 1099511627776), (b.tmod 1099511627776)]).bind fun x9 =>
        some x9).bind fun (y10 : Bool) =>
       some y10
      else
       some false)).bind fun (y9 : Bool) =>
     some (y7 != y9))).bind fun (y6 : Bool) =>
   (bif y6 then
    some false
   else
    (bif (!x3.2) then
     some ZM
    else
     (
      (Z0w (Net.mk 2 [f] []) (Con.mk 0 1 0 (Range.mk x3.1 x3.1 true true)) [(a.tmod 1099511627776), (b.tmod 1099511627776)]).bind fun x10 =>
      some (x10, (w64 (x3.1 - 1)), (w64 (x3.1 + 1)))).bind fun (y11 : Bool × Int × Int) =>
     (
      (bif y11.1 then
       (
        (Z0w (Net.mk 2 [f] []) (Con.mk 0 1 0 (Range.mk y11.2.2 0 true false)) [(a.tmod 1099511627776), (b.tmod 1099511627776)]).bind fun x11 =>
        some x11).bind fun (y13 : Bool) =>
       some (!y13)
      else
       some false)).bind fun (y12 : Bool) =>
     (
      (bif y12 then
       (
        (Z0w (Net.mk 2 [f] []) (Con.mk 0 1 0 (Range.mk 0 y11.2.1 false true)) [(a.tmod 1099511627776), (b.tmod 1099511627776)]).bind fun x12 =>
        some x12).bind fun (y15 : Bool) =>
       some (!y15)
      else
       some false)).bind fun (y14 : Bool) =>
     some (y14 && ZM)))))

end Go.Dn

namespace Go.Dn
open Go

def Le {α : Type} (a b : Option α) : Prop := ∀ r, a = some r → b = some r
theorem Le.refl {α : Type} (a : Option α) : Le a a := fun _ h => h
theorem Le.bind {α β : Type} {a b : Option α} {f g : α → Option β} (h : Le a b) (hf : ∀ x, Le (f x) (g x)) : Le (a.bind f) (b.bind g) := fun r hr => by
 cases ha : a with
 | none => rw [ha] at hr; cases hr
 | some x => rw [ha] at hr; rw [h x ha]; exact hf x r hr
theorem Le.cond {α : Type} {c : Bool} {a b a' b' : Option α} (h : Le a a') (h' : Le b b') : Le (bif c then a else b) (bif c then a' else b') := by
 cases c
 ·exact h'
 ·exact h
theorem Le.elim {A B C : Type} {y : Jx A B} {f f' : B → Option C} {g g' : A → Option C} (h : ∀ r, Le (f r) (f' r)) (h' : ∀ a, Le (g a) (g' a)) : Le (y.elim f g) (y.elim f' g') := by
 cases y
 ·exact h' _
 ·exact h _
theorem Le.Z30 {S T : Type} {f g : S → T → Option (S × Nat)} (h : ∀ s t, Le (f s t) (g s t)) (s : S × Nat) (t : T) : Le (Z30 f s t) (Z30 g s t) := fun r hr => by
 unfold Go.Dn.Z30 at hr ⊢
 split at hr
 ·rename_i h0
  rw [if_pos h0]
  cases ha : f s.1 t with
  | none => rw [ha] at hr; cases hr
  | some x => rw [ha] at hr; rw [h _ _ x ha]; exact hr
 ·cases hr
def Z20 {S R : Type} (step : S → Option (S ⊕ R)) (s : S) : Option R := Z3A step 1000000 s
theorem iterO_le {S R : Type} {step step' : S → Option (S ⊕ R)} (h : ∀ s, Le (step s) (step' s)) : ∀ (n : Nat) (s : S), Le (Z3A step n s) (Z3A step' n s)
 | 0, s => fun r hr => by cases hr
 | n + 1, s => fun r hr => by
  simp only [Z3A] at hr ⊢
  cases hs : step s with
  | none => rw [hs] at hr; cases hr
  | some x =>
   rw [hs] at hr
   rw [h s x hs]
   cases x with
   | inl s' => exact iterO_le h n s' r hr
   | inr r' => exact hr
theorem Le.loop {S R : Type} {step step' : S → Option (S ⊕ R)} {s : S} (h : ∀ s, Le (step s) (step' s)) : Le (Z20 step s) (ZK step' s) := fun r hr => Ze.2 ⟨1000000, iterO_le h _ s r hr⟩

noncomputable def Z5T (f : Form) : Option (Int) :=
 (Z20 (Z00.s0 f) (0, 0)).bind fun (y1 : Int) =>
 (Z20 (Z00.s1 f) (y1, 0)).bind fun (y2 : Int) =>
 some y2

theorem Z9P {f : Form} : Le (Z5T f) (Z00 f) := by
 unfold Z5T Z00
 repeat' (with_reducible (first | exact Le.refl _ | refine Le.bind ?_ ?_ | refine Le.loop ?_ | intro _))

noncomputable def Z2x (l : (List Span)) : Option (Bool) :=
 (Z20 (Z02.s0 l) 0).bind fun (y1 : Jx (Unit) (Bool)) =>
 y1.elim (fun r' =>
   some r') fun a2 =>
 some true

theorem Z5C {l : (List Span)} : Le (Z2x l) (Z02 l) := by
 unfold Z2x Z02
 repeat' (with_reducible (first | exact Le.refl _ | refine Le.bind ?_ ?_ | refine Le.elim ?_ ?_ | refine Le.loop ?_ | intro _))

noncomputable def Z0Y.s0 (f : Form) (s1 : Int) : Option ((Int) ⊕ (Jx (Unit) (Bool))) :=
 (bif (decide (s1 < (f.Core.length : Int))) then
  (at? f.Core s1).bind fun x1 =>
  (Z2x x1).bind fun x2 =>
  (bif (!x2) then
   some (.inr (.ret false))
  else
   some (.inl (w64 (s1 + 1))))
 else
  some (.inr (.go ())))

theorem Z78 {f : Form} {s1 : Int} : Le (Z0Y.s0 f s1) (Zd.s0 f s1) := by
 unfold Z0Y.s0 Zd.s0
 repeat' (with_reducible (first | exact Le.refl _ | refine Le.bind ?_ ?_ | refine Le.cond ?_ ?_ | refine Z5C | intro _))

noncomputable def Z0Y.s1 (f : Form) (s2 : Int) : Option ((Int) ⊕ (Jx (Unit) (Bool))) :=
 (bif (decide (s2 < (f.Odd.length : Int))) then
  (at? f.Odd s2).bind fun x3 =>
  (Z2x x3.Ticks).bind fun x4 =>
  (
   (bif ((!x4) || (!(Zh x3.Index))) then
    some true
   else
    (
     (bif (decide (s2 > 0)) then
      (at? f.Odd (w64 (s2 - 1))).bind fun x5 =>
      some (decide (x3.Index ≤ x5.Index))
     else
      some false)).bind fun (y4 : Bool) =>
    some y4)).bind fun (y3 : Bool) =>
  (bif y3 then
   some (.inr (.ret false))
  else
   some (.inl (w64 (s2 + 1))))
 else
  some (.inr (.go ())))

theorem Z6y {f : Form} {s2 : Int} : Le (Z0Y.s1 f s2) (Zd.s1 f s2) := by
 unfold Z0Y.s1 Zd.s1
 repeat' (with_reducible (first | exact Le.refl _ | refine Le.bind ?_ ?_ | refine Le.cond ?_ ?_ | refine Z5C | intro _))

noncomputable def Z0Y (f : Form) : Option (Bool) :=
 (bif ((((f.Count != (f.Core.length : Int)) || ((f.Count == 0) != (f.Period == 0))) || (decide (f.Period < 0))) || (decide (f.Period > 1099511627776))) then
  some false
 else
  (Z20 (Z0Y.s0 f) 0).bind fun (y1 : Jx (Unit) (Bool)) =>
  y1.elim (fun r' =>
    some r') fun a2 =>
  (Z20 (Z0Y.s1 f) 0).bind fun (y2 : Jx (Unit) (Bool)) =>
  y2.elim (fun r' =>
    some r') fun a4 =>
  some true)

theorem Z8h {f : Form} : Le (Z0Y f) (Zd f) := by
 unfold Z0Y Zd
 repeat' (with_reducible (first | exact Le.refl _ | refine Le.bind ?_ ?_ | refine Le.cond ?_ ?_ | refine Le.elim ?_ ?_ | refine Le.loop ?_ | refine Z78 | refine Z6y | intro _))

noncomputable def Z4r (f : Form) : Option (Bool) :=
 (Z20 (Z06.s0 f) (0, [])).bind fun (y1 : (List (List Span))) =>
 (Z20 (Z06.s1 f y1) 0).bind fun (y4 : Jx (Unit) (Bool)) =>
 y4.elim (fun r' =>
   some r') fun a6 =>
 some true

theorem Z8g {f : Form} : Le (Z4r f) (Z06 f) := by
 unfold Z4r Z06
 repeat' (with_reducible (first | exact Le.refl _ | refine Le.bind ?_ ?_ | refine Le.elim ?_ ?_ | refine Le.loop ?_ | intro _))

noncomputable def ZL.s0 (x' : (List Granule)) (target : Int) (cmp : Granule → Int → Option Int) (s1 : Int × Int) : Option ((Int × Int) ⊕ (Int)) :=
 (bif (decide (s1.1 < s1.2)) then
  (
   (at? x' (w64 ((IntKind.u64.wrap (w64 (s1.1 + s1.2))).fdiv (2 ^ 1)))).bind fun x1 =>
   (cmp x1 target).bind fun x2 =>
   (bif (decide (x2 < 0)) then
    some ((w64 ((w64 ((IntKind.u64.wrap (w64 (s1.1 + s1.2))).fdiv (2 ^ 1))) + 1)), s1.2)
   else
    some (s1.1, (w64 ((IntKind.u64.wrap (w64 (s1.1 + s1.2))).fdiv (2 ^ 1)))))).bind fun (y2 : Int × Int) =>
  some (.inl (y2.1, y2.2))
 else
  some (.inr s1.1))

theorem Z10 {x' : (List Granule)} {target : Int} {cmp cmp_ : Granule → Int → Option Int} {s1 : Int × Int} (h_cmp : ∀ z0 z1, Le (cmp z0 z1) (cmp_ z0 z1)) : Le (ZL.s0 x' target cmp s1) (Z4.s0 x' target cmp_ s1) := by
 unfold ZL.s0 Z4.s0
 repeat' (with_reducible (first | exact Le.refl _ | exact h_cmp _ _ | exact h_cmp | refine Le.bind ?_ ?_ | refine Le.cond ?_ ?_ | intro _))

noncomputable def ZL (x' : (List Granule)) (target : Int) (cmp : Granule → Int → Option Int) : Option (Int × Bool) :=
 (Z20 (ZL.s0 x' target cmp) (0, (x'.length : Int))).bind fun (y1 : Int) =>
 (
  (bif (decide (y1 < (x'.length : Int))) then
   (at? x' y1).bind fun x3 =>
   (cmp x3 target).bind fun x4 =>
   some (x4 == 0)
  else
   some false)).bind fun (y3 : Bool) =>
 some (y1, y3)

theorem Z1E {x' : (List Granule)} {target : Int} {cmp cmp_ : Granule → Int → Option Int} (h_cmp : ∀ z0 z1, Le (cmp z0 z1) (cmp_ z0 z1)) : Le (ZL x' target cmp) (Z4 x' target cmp_) := by
 unfold ZL Z4
 repeat' (with_reducible (first | exact Le.refl _ | exact h_cmp _ _ | exact h_cmp | refine Le.bind ?_ ?_ | refine Le.cond ?_ ?_ | refine Le.loop ?_ | refine Z10 ?_ | intro _))

noncomputable def Z4b (f : Form) (i : Int) : Option (Int × Bool) :=
 (ZL f.Odd i (fun z0 z1 => some (Z2h z0 z1))).bind fun x1 =>
 some (x1.1, x1.2)

theorem Z6U {f : Form} {i : Int} : Le (Z4b f i) (Z3e f i) := by
 unfold Z4b Z3e
 repeat' (with_reducible (first | exact Le.refl _ | refine Le.bind ?_ ?_ | refine Z1E ?_ | intro _))

noncomputable def Z3y (f : Form) (i : Int) : Option ((List Span) × Int × Int) :=
 (Z4b f i).bind fun x1 =>
 (bif x1.2 then
  (at? f.Odd x1.1).bind fun x2 =>
  some (x2.Ticks, 0, 0)
 else
  (bif (f.Count == 0) then
   some ([], 0, 0)
  else
   (Z19 i f.Count).bind fun x3 =>
   (at? f.Core x3.2.1).bind fun x4 =>
   some (x4, (Z0J x3.1 f.Period).1, (Z0J x3.1 f.Period).2)))

theorem Z60 {f : Form} {i : Int} : Le (Z3y f i) (Z1x f i) := by
 unfold Z3y Z1x
 repeat' (with_reducible (first | exact Le.refl _ | refine Le.bind ?_ ?_ | refine Le.cond ?_ ?_ | refine Z6U | intro _))

noncomputable def Z4x (l : (List Span)) (by' : Int) : Option ((List Span) × Int) :=
 (Z20 (Z0A.s0 l by') (0, [])).bind fun (y1 : Jx ((List Span)) ((List Span) × Int)) =>
 y1.elim (fun r' =>
   some r') fun a2 =>
 some (a2, 0)

theorem Z8l {l : (List Span)} {by' : Int} : Le (Z4x l by') (Z0A l by') := by
 unfold Z4x Z0A
 repeat' (with_reducible (first | exact Le.refl _ | refine Le.bind ?_ ?_ | refine Le.elim ?_ ?_ | refine Le.loop ?_ | intro _))

noncomputable def Z25 (f : Form) (i : Int) : Option ((List Span) × Int) :=
 (bif (!(Zh i)) then
  some ([], 20)
 else
  (Z3y f i).bind fun x1 =>
  (bif ((x1.1.length : Int) == 0) then
   some ([], 0)
  else
   (bif (x1.2.2 != 0) then
    some ([], 20)
   else
    (Z4x x1.1 x1.2.1).bind fun x2 =>
    some (x2.1, x2.2))))

theorem Z4s {f : Form} {i : Int} : Le (Z25 f i) (Z0F f i) := by
 unfold Z25 Z0F
 repeat' (with_reducible (first | exact Le.refl _ | refine Le.bind ?_ ?_ | refine Le.cond ?_ ?_ | refine Z60 | refine Z8l | intro _))

noncomputable def Za.s0 (s : (List (List Span))) (f : (List Span) → Option Bool) (s1 : Int) : Option ((Int) ⊕ (Jx (Unit) (Int))) :=
 (bif (decide (s1 < (s.length : Int))) then
  (at? s s1).bind fun x1 =>
  (f x1).bind fun x2 =>
  (bif x2 then
   some (.inr (.ret s1))
  else
   some (.inl (w64 (s1 + 1))))
 else
  some (.inr (.go ())))

theorem Z2G {s : (List (List Span))} {f f_ : (List Span) → Option Bool} {s1 : Int} (h_f : ∀ z0, Le (f z0) (f_ z0)) : Le (Za.s0 s f s1) (ZF.s0 s f_ s1) := by
 unfold Za.s0 ZF.s0
 repeat' (with_reducible (first | exact Le.refl _ | exact h_f _ | exact h_f | refine Le.bind ?_ ?_ | refine Le.cond ?_ ?_ | intro _))

noncomputable def Za (s : (List (List Span))) (f : (List Span) → Option Bool) : Option (Int) :=
 (Z20 (Za.s0 s f) 0).bind fun (y1 : Jx (Unit) (Int)) =>
 y1.elim (fun r' =>
   some r') fun a2 =>
 some (-1)

theorem Z2e {s : (List (List Span))} {f f_ : (List Span) → Option Bool} (h_f : ∀ z0, Le (f z0) (f_ z0)) : Le (Za s f) (ZF s f_) := by
 unfold Za ZF
 repeat' (with_reducible (first | exact Le.refl _ | exact h_f _ | exact h_f | refine Le.bind ?_ ?_ | refine Le.elim ?_ ?_ | refine Le.loop ?_ | refine Z2G ?_ | intro _))

noncomputable def Z0Z (s : (List (List Span))) (f : (List Span) → Option Bool) : Option (Bool) :=
 (Za s f).bind fun x1 =>
 some (decide (x1 ≥ 0))

theorem Z2L {s : (List (List Span))} {f f_ : (List Span) → Option Bool} (h_f : ∀ z0, Le (f z0) (f_ z0)) : Le (Z0Z s f) (ZY s f_) := by
 unfold Z0Z ZY
 repeat' (with_reducible (first | exact Le.refl _ | exact h_f _ | exact h_f | refine Le.bind ?_ ?_ | refine Z2e ?_ | intro _))

noncomputable def Z5S (f : Form) : Option (Bool) :=
 (Z0Z f.Core (fun z0 => some (Z3c z0))).bind fun x1 =>
 some (!x1)

theorem Z9S {f : Form} : Le (Z5S f) (Z3O f) := by
 unfold Z5S Z3O
 repeat' (with_reducible (first | exact Le.refl _ | refine Le.bind ?_ ?_ | refine Z2L ?_ | intro _))

noncomputable def Z5G (f : Form) (i : Int) : Option (Bool) :=
 (Z3y f i).bind fun x1 =>
 some (decide ((x1.1.length : Int) > 0))

theorem Z8n {f : Form} {i : Int} : Le (Z5G f i) (Z3J f i) := by
 unfold Z5G Z3J
 repeat' (with_reducible (first | exact Le.refl _ | refine Le.bind ?_ ?_ | refine Z60 | intro _))

noncomputable def Z1M.s1 (f : Form) (by' : Int) (s2 : Int) : Option ((Int) ⊕ (Jx (Unit) (Int × Bool))) :=
 (bif (Zh s2) then
  (Z5G f s2).bind fun x5 =>
  (bif x5 then
   some (.inr (.ret (s2, true)))
  else
   some (.inl (w64 (s2 + by'))))
 else
  some (.inr (.go ())))

theorem Z7X {f : Form} {by' : Int} {s2 : Int} : Le (Z1M.s1 f by' s2) (Zq.s1 f by' s2) := by
 unfold Z1M.s1 Zq.s1
 repeat' (with_reducible (first | exact Le.refl _ | refine Le.bind ?_ ?_ | refine Le.cond ?_ ?_ | refine Z8n | intro _))

noncomputable def Z1M (f : Form) (from' : Int) (by' : Int) : Option (Int × Bool) :=
 (Z5S f).bind fun x1 =>
 (bif x1 then
  (Z4b f from').bind fun x2 =>
  (
   (bif ((decide (by' < 0)) && (!x2.2)) then
    some (w64 (x2.1 - 1))
   else
    some x2.1)).bind fun (y1 : Int) =>
  (Z20 (Zq.s0 f by') y1).bind fun (y2 : Jx (Unit) (Int × Bool)) =>
  y2.elim (fun r' =>
    some r') fun a2 =>
  some (0, false)
 else
  (Z20 (Z1M.s1 f by') from').bind fun (y3 : Jx (Unit) (Int × Bool)) =>
  y3.elim (fun r' =>
    some r') fun a4 =>
  some (0, false))

theorem Z66 {f : Form} {from' : Int} {by' : Int} : Le (Z1M f from' by') (Zq f from' by') := by
 unfold Z1M Zq
 repeat' (with_reducible (first | exact Le.refl _ | refine Le.bind ?_ ?_ | refine Le.cond ?_ ?_ | refine Le.elim ?_ ?_ | refine Le.loop ?_ | refine Z9S | refine Z6U | refine Z7X | intro _))

noncomputable def Z4P (f : Form) (i : Int) : Option (Int × Bool) :=
 (bif (decide (i ≤ (-1099511627776))) then
  some (0, false)
 else
  (Z1M f (iMin (w64 (i - 1)) 1099511627776) (-1)).bind fun x1 =>
  some (x1.1, x1.2))

theorem Z7x {f : Form} {i : Int} : Le (Z4P f i) (Z15 f i) := by
 unfold Z4P Z15
 repeat' (with_reducible (first | exact Le.refl _ | refine Le.bind ?_ ?_ | refine Le.cond ?_ ?_ | refine Z66 | intro _))

noncomputable def Z2D (f : Form) (i : Int) : Option (Int × Bool) :=
 (bif (decide (i ≥ 1099511627776)) then
  some (0, false)
 else
  (Z1M f (iMax (w64 (i + 1)) (-1099511627776)) 1).bind fun x1 =>
  some (x1.1, x1.2))

theorem Z3H {f : Form} {i : Int} : Le (Z2D f i) (Z0t f i) := by
 unfold Z2D Z0t
 repeat' (with_reducible (first | exact Le.refl _ | refine Le.bind ?_ ?_ | refine Le.cond ?_ ?_ | refine Z66 | intro _))

noncomputable def Z4I (f : Form) (i : Int) : Option (Bool) :=
 (Z25 f i).bind fun x1 =>
 (bif (x1.2 != 0) then
  some false
 else
  (Z4P f i).bind fun x2 =>
  (Z2D f i).bind fun x3 =>
  (
   (bif x2.2 then
    (Z25 f x2.1).bind fun x4 =>
    (bif (x4.2 != 0) then
     some (.ret false)
    else
     some (.go x4.1))
   else
    some (.go []))).bind fun (y1 : Jx ((List Span)) (Bool)) =>
  y1.elim (fun r' =>
    some r') fun a2 =>
  (
   (bif x3.2 then
    (Z25 f x3.1).bind fun x5 =>
    (bif (x5.2 != 0) then
     some (.ret false)
    else
     some (.go x5.1))
   else
    some (.go []))).bind fun (y2 : Jx ((List Span)) (Bool)) =>
  y2.elim (fun r' =>
    some r') fun a4 =>
  (Z0W a2 x1.1).bind fun x6 =>
  (
   (bif x6 then
    (Z0W x1.1 a4).bind fun x7 =>
    some x7
   else
    some false)).bind fun (y3 : Bool) =>
  (
   (bif y3 then
    (Z0W a2 a4).bind fun x8 =>
    some x8
   else
    some false)).bind fun (y4 : Bool) =>
  some y4)

theorem Z7y {f : Form} {i : Int} : Le (Z4I f i) (Z1J f i) := by
 unfold Z4I Z1J
 repeat' (with_reducible (first | exact Le.refl _ | refine Le.bind ?_ ?_ | refine Le.cond ?_ ?_ | refine Le.elim ?_ ?_ | refine Z4s | refine Z7x | refine Z3H | intro _))

noncomputable def Z1V.s0 (f : Form) (s1 : Int) : Option ((Int) ⊕ (Jx (Unit) (Int))) :=
 (bif (decide (s1 < (f.Odd.length : Int))) then
  (at? f.Odd s1).bind fun x4 =>
  (Z4I f x4.Index).bind fun x5 =>
  (bif (!x5) then
   some (.inr (.ret 50))
  else
   some (.inl (w64 (s1 + 1))))
 else
  some (.inr (.go ())))

theorem Z6w {f : Form} {s1 : Int} : Le (Z1V.s0 f s1) (Zl.s0 f s1) := by
 unfold Z1V.s0 Zl.s0
 repeat' (with_reducible (first | exact Le.refl _ | refine Le.bind ?_ ?_ | refine Le.cond ?_ ?_ | refine Z7y | intro _))

noncomputable def Z1V (f : Form) : Option (Int) :=
 (
  (bif ((decide ((f.Core.length : Int) > 6000)) || (decide ((f.Odd.length : Int) > 6000))) then
   some true
  else
   (Z5T f).bind fun x1 =>
   some (decide (x1 > 60000)))).bind fun (y1 : Bool) =>
 (bif y1 then
  some 3
 else
  (Z0Y f).bind fun x2 =>
  (
   (bif (!x2) then
    some true
   else
    (Z4r f).bind fun x3 =>
    some (!x3))).bind fun (y2 : Bool) =>
  (bif y2 then
   some 50
  else
   (Z20 (Z1V.s0 f) 0).bind fun (y3 : Jx (Unit) (Int)) =>
   y3.elim (fun r' =>
     some r') fun a2 =>
   some 0))

theorem Z8k {f : Form} : Le (Z1V f) (Zl f) := by
 unfold Z1V Zl
 repeat' (with_reducible (first | exact Le.refl _ | refine Le.bind ?_ ?_ | refine Le.cond ?_ ?_ | refine Le.elim ?_ ?_ | refine Le.loop ?_ | refine Z9P | refine Z8h | refine Z8g | refine Z6w | intro _))

noncomputable def Z0L (f : Form) (t : Int) : Option (Int × Bool) :=
 (Z20 (ZA.s0 f t) (0, false, 0)).bind fun (y1 : Int × Bool) =>
 some (y1.1, y1.2)

theorem Z1t {f : Form} {t : Int} : Le (Z0L f t) (ZA f t) := by
 unfold Z0L ZA
 repeat' (with_reducible (first | exact Le.refl _ | refine Le.bind ?_ ?_ | refine Le.loop ?_ | intro _))

noncomputable def ZT.s1 (f : Form) (y1 : (List (Int × Int))) (s2 : Int × Bool × Int) : Option ((Int × Bool × Int) ⊕ (Jx (Unit) (Int × Bool))) :=
 (bif (s2.2.1 && (decide (s2.2.2 < 2))) then
  (
   (
    (Z25 (Form.mk f.Period f.Count f.Core []) s2.1).bind fun x4 =>
    (bif (x4.2 != 0) then
     some (.go (w64 (s2.2.2 + 1)))
    else
     (bif ((mget y1 s2.1) == 0) then
      some (.ret (s2.1, true))
     else
      some (.go s2.2.2)))).bind fun (y4 : Jx (Int) (Int × Bool)) =>
   y4.elim (fun r' =>
     some (.ret r')) fun a4 =>
   some (.go a4)).bind fun (y3 : Jx (Int) (Int × Bool)) =>
  y3.elim (fun r' =>
    some (.inr (.ret r'))) fun a5 =>
  (Z2D (Form.mk f.Period f.Count f.Core []) s2.1).bind fun x5 =>
  some (.inl (x5.1, x5.2, a5))
 else
  some (.inr (.go ())))

theorem Z1c {f : Form} {y1 : (List (Int × Int))} {s2 : Int × Bool × Int} : Le (ZT.s1 f y1 s2) (Z3.s1 f y1 s2) := by
 unfold ZT.s1 Z3.s1
 repeat' (with_reducible (first | exact Le.refl _ | refine Le.bind ?_ ?_ | refine Le.cond ?_ ?_ | refine Le.elim ?_ ?_ | refine Z4s | refine Z3H | intro _))

noncomputable def ZT (f : Form) (t : Int) : Option (Int × Bool) :=
 (Z0L f t).bind fun x1 =>
 (bif (!x1.2) then
  some (0, false)
 else
  (Z20 (Z3.s0 f) (0, [])).bind fun (y1 : (List (Int × Int))) =>
  (Z2D (Form.mk f.Period f.Count f.Core []) (w64 (x1.1 - 1))).bind fun x3 =>
  (Z20 (ZT.s1 f y1) (x3.1, x3.2, 0)).bind fun (y2 : Jx (Unit) (Int × Bool)) =>
  y2.elim (fun r' =>
    some r') fun a6 =>
  some (0, false))

theorem Z1v {f : Form} {t : Int} : Le (ZT f t) (Z3 f t) := by
 unfold ZT Z3
 repeat' (with_reducible (first | exact Le.refl _ | refine Le.bind ?_ ?_ | refine Le.cond ?_ ?_ | refine Le.elim ?_ ?_ | refine Le.loop ?_ | refine Z1t | refine Z3H | refine Z1c | intro _))

noncomputable def Z0D (f : Form) (t : Int) : Option (Int × Bool) :=
 (ZT f (iMax (iMin t 1099511627777) (-1099511627777))).bind fun x1 =>
 (Z20 (Z8.s0 f t) (x1.1, x1.2, 0)).bind fun (y1 : Int × Bool) =>
 some (y1.1, y1.2)

theorem Z1i {f : Form} {t : Int} : Le (Z0D f t) (Z8 f t) := by
 unfold Z0D Z8
 repeat' (with_reducible (first | exact Le.refl _ | refine Le.bind ?_ ?_ | refine Le.loop ?_ | refine Z1v | intro _))

noncomputable def Z5X (f : Form) (t : Int) : Option (Int × Bool) :=
 (Z0D f t).bind fun x1 =>
 some (x1.1, x1.2)

theorem Z9Y {f : Form} {t : Int} : Le (Z5X f t) (Z49 f t) := by
 unfold Z5X Z49
 repeat' (with_reducible (first | exact Le.refl _ | refine Le.bind ?_ ?_ | refine Z1i | intro _))

noncomputable def ZS.s0 (x' : (List Span)) (target : Int) (cmp : Span → Int → Option Int) (s1 : Int × Int) : Option ((Int × Int) ⊕ (Int)) :=
 (bif (decide (s1.1 < s1.2)) then
  (
   (at? x' (w64 ((IntKind.u64.wrap (w64 (s1.1 + s1.2))).fdiv (2 ^ 1)))).bind fun x1 =>
   (cmp x1 target).bind fun x2 =>
   (bif (decide (x2 < 0)) then
    some ((w64 ((w64 ((IntKind.u64.wrap (w64 (s1.1 + s1.2))).fdiv (2 ^ 1))) + 1)), s1.2)
   else
    some (s1.1, (w64 ((IntKind.u64.wrap (w64 (s1.1 + s1.2))).fdiv (2 ^ 1)))))).bind fun (y2 : Int × Int) =>
  some (.inl (y2.1, y2.2))
 else
  some (.inr s1.1))

theorem Z1Q {x' : (List Span)} {target : Int} {cmp cmp_ : Span → Int → Option Int} {s1 : Int × Int} (h_cmp : ∀ z0 z1, Le (cmp z0 z1) (cmp_ z0 z1)) : Le (ZS.s0 x' target cmp s1) (Z7.s0 x' target cmp_ s1) := by
 unfold ZS.s0 Z7.s0
 repeat' (with_reducible (first | exact Le.refl _ | exact h_cmp _ _ | exact h_cmp | refine Le.bind ?_ ?_ | refine Le.cond ?_ ?_ | intro _))

noncomputable def ZS (x' : (List Span)) (target : Int) (cmp : Span → Int → Option Int) : Option (Int × Bool) :=
 (Z20 (ZS.s0 x' target cmp) (0, (x'.length : Int))).bind fun (y1 : Int) =>
 (
  (bif (decide (y1 < (x'.length : Int))) then
   (at? x' y1).bind fun x3 =>
   (cmp x3 target).bind fun x4 =>
   some (x4 == 0)
  else
   some false)).bind fun (y3 : Bool) =>
 some (y1, y3)

theorem Z1h {x' : (List Span)} {target : Int} {cmp cmp_ : Span → Int → Option Int} (h_cmp : ∀ z0 z1, Le (cmp z0 z1) (cmp_ z0 z1)) : Le (ZS x' target cmp) (Z7 x' target cmp_) := by
 unfold ZS Z7
 repeat' (with_reducible (first | exact Le.refl _ | exact h_cmp _ _ | exact h_cmp | refine Le.bind ?_ ?_ | refine Le.cond ?_ ?_ | refine Le.loop ?_ | refine Z1Q ?_ | intro _))

noncomputable def Z5L (l : (List Span)) (t : Int) : Option (Bool) :=
 (ZS l t (fun z0 z1 => some (Z2C z0 z1))).bind fun x1 =>
 some (x1.2 && (decide (x1.1 < (l.length : Int))))

theorem Z9X {l : (List Span)} {t : Int} : Le (Z5L l t) (Z3F l t) := by
 unfold Z5L Z3F
 repeat' (with_reducible (first | exact Le.refl _ | refine Le.bind ?_ ?_ | refine Z1h ?_ | intro _))

noncomputable def Z5P (f : Form) (t : Int) : Option (Int × Bool) :=
 (Z5X f t).bind fun x1 =>
 (bif (!x1.2) then
  some (0, false)
 else
  (Z25 f x1.1).bind fun x2 =>
  (Z5L x2.1 t).bind fun x3 =>
  (bif (!x3) then
   some (0, false)
  else
   some (x1.1, true)))

theorem evle_find_At {f : Form} {t : Int} : Le (Z5P f t) (Z3Y f t) := by
 unfold Z5P Z3Y
 repeat' (with_reducible (first | exact Le.refl _ | refine Le.bind ?_ ?_ | refine Le.cond ?_ ?_ | refine Z9Y | refine Z4s | refine Z9X | intro _))

noncomputable def Z1q (f : Form) (a : Int) (b : Int) : Option (Int × Bool) :=
 (Z5P f a).bind fun x1 =>
 (bif (!x1.2) then
  some (0, false)
 else
  (Z5P f b).bind fun x2 =>
  (bif (!x2.2) then
   some (0, false)
  else
   some ((w64 (x2.1 - x1.1)), true)))

theorem Z4a {f : Form} {a : Int} {b : Int} : Le (Z1q f a b) (Zs f a b) := by
 unfold Z1q Zs
 repeat' (with_reducible (first | exact Le.refl _ | refine Le.bind ?_ ?_ | refine Le.cond ?_ ?_ | refine evle_find_At | intro _))

noncomputable def Zj.s0 (s : (List Int)) (f : Int → Option Bool) (s1 : Int) : Option ((Int) ⊕ (Jx (Unit) (Int))) :=
 (bif (decide (s1 < (s.length : Int))) then
  (at? s s1).bind fun x1 =>
  (f x1).bind fun x2 =>
  (bif x2 then
   some (.inr (.ret s1))
  else
   some (.inl (w64 (s1 + 1))))
 else
  some (.inr (.go ())))

theorem Z2n {s : (List Int)} {f f_ : Int → Option Bool} {s1 : Int} (h_f : ∀ z0, Le (f z0) (f_ z0)) : Le (Zj.s0 s f s1) (ZN.s0 s f_ s1) := by
 unfold Zj.s0 ZN.s0
 repeat' (with_reducible (first | exact Le.refl _ | exact h_f _ | exact h_f | refine Le.bind ?_ ?_ | refine Le.cond ?_ ?_ | intro _))

noncomputable def Zj (s : (List Int)) (f : Int → Option Bool) : Option (Int) :=
 (Z20 (Zj.s0 s f) 0).bind fun (y1 : Jx (Unit) (Int)) =>
 y1.elim (fun r' =>
   some r') fun a2 =>
 some (-1)

theorem Z3U {s : (List Int)} {f f_ : Int → Option Bool} (h_f : ∀ z0, Le (f z0) (f_ z0)) : Le (Zj s f) (ZN s f_) := by
 unfold Zj ZN
 repeat' (with_reducible (first | exact Le.refl _ | exact h_f _ | exact h_f | refine Le.bind ?_ ?_ | refine Le.elim ?_ ?_ | refine Le.loop ?_ | refine Z2n ?_ | intro _))

noncomputable def Z0k (s : (List Int)) (f : Int → Option Bool) : Option (Bool) :=
 (Zj s f).bind fun x1 =>
 some (decide (x1 ≥ 0))

theorem Z2o {s : (List Int)} {f f_ : Int → Option Bool} (h_f : ∀ z0, Le (f z0) (f_ z0)) : Le (Z0k s f) (Zk s f_) := by
 unfold Z0k Zk
 repeat' (with_reducible (first | exact Le.refl _ | exact h_f _ | exact h_f | refine Le.bind ?_ ?_ | refine Z3U ?_ | intro _))

noncomputable def Z5E (n : Net) (ticks : (List Int)) : Option (Bool) :=
 (
  (bif ((ticks.length : Int) == n.Vars) then
   (Z0k ticks (fun z0 => some (Z48 z0))).bind fun x1 =>
   some (!x1)
  else
   some false)).bind fun (y1 : Bool) =>
 some y1

theorem Z7H {n : Net} {ticks : (List Int)} : Le (Z5E n ticks) (Z3x n ticks) := by
 unfold Z5E Z3x
 repeat' (with_reducible (first | exact Le.refl _ | refine Le.bind ?_ ?_ | refine Le.cond ?_ ?_ | refine Z2o ?_ | intro _))

noncomputable def Z6z (n : Net) (c : Con) (ticks : (List Int)) : Option (Bool) :=
 (at? n.Forms c.Form).bind fun x1 =>
 (at? ticks c.X).bind fun x2 =>
 (at? ticks c.Y).bind fun x3 =>
 (Z1q x1 x2 x3).bind fun x4 =>
 (
  (
   (
    (bif (!x4.2) then
     some (!x4.2)
    else
     (bif (c.Range.HasLow && (decide (x4.1 < c.Range.Low))) then
      some (c.Range.HasLow && (decide (x4.1 < c.Range.Low)))
     else
      some (c.Range.HasHigh && (decide (x4.1 > c.Range.High)))))).bind fun (y3 : Bool) =>
   (bif y3 then
    some (.ret false)
   else
    some (.go ()))).bind fun (y2 : Jx (Unit) (Bool)) =>
  y2.elim (fun r' =>
    some (.ret r')) fun a3 =>
  some (.go ())).bind fun (y1 : Jx (Unit) (Bool)) =>
 y1.elim (fun r' =>
   some r') fun a4 =>
 some true

theorem evle_tag_met {n : Net} {c : Con} {ticks : (List Int)} : Le (Z6z n c ticks) (Z3u n c ticks) := by
 unfold Z6z Z3u
 repeat' (with_reducible (first | exact Le.refl _ | refine Le.bind ?_ ?_ | refine Le.cond ?_ ?_ | refine Le.elim ?_ ?_ | refine Z4a | intro _))

noncomputable def Z0c.s0 (p1' : Net) (p2' : (List Int)) {S : Type} (yield : S → Int → Option (S × Bool)) (s1 : Int × S) : Option ((Int × S) ⊕ (Jx (S) (S))) :=
 (bif (decide (s1.1 < (p1'.Cons.length : Int))) then
  (at? p1'.Cons s1.1).bind fun x1 =>
  (Z6z p1' x1 p2').bind fun x2 =>
  (
   (bif (!x2) then
    (yield s1.2 s1.1).bind fun x3 =>
    some ((!x3.2), x3.1)
   else
    some (false, s1.2))).bind fun (y2 : Bool × S) =>
  (bif y2.1 then
   some (.inr (.ret y2.2))
  else
   some (.inl ((w64 (s1.1 + 1)), y2.2)))
 else
  some (.inr (.go s1.2)))

theorem Z5m {p1' : Net} {p2' : (List Int)} {S : Type} {yield yield_ : S → Int → Option (S × Bool)} {s1 : Int × S} (h_yield : ∀ z0 z1, Le (yield z0 z1) (yield_ z0 z1)) : Le (Z0c.s0 p1' p2' yield s1) (Z0X.s0 p1' p2' yield_ s1) := by
 unfold Z0c.s0 Z0X.s0
 repeat' (with_reducible (first | exact Le.refl _ | exact h_yield _ _ | exact h_yield | refine Le.bind ?_ ?_ | refine Le.cond ?_ ?_ | refine evle_tag_met | intro _))

noncomputable def Z0c {S : Type} (p1' : Net) (p2' : (List Int)) (yield : S → Int → Option (S × Bool)) (st' : S) : Option (S) :=
 (Z20 (Z0c.s0 p1' p2' yield) (0, st')).bind fun (y1 : Jx (S) (S)) =>
 y1.elim (fun r' =>
   some r') fun a2 =>
 some a2

theorem Z4R {S : Type} {p1' : Net} {p2' : (List Int)} {yield yield_ : S → Int → Option (S × Bool)} {st' : S} (h_yield : ∀ z0 z1, Le (yield z0 z1) (yield_ z0 z1)) : Le (Z0c p1' p2' yield st') (Z0X p1' p2' yield_ st') := by
 unfold Z0c Z0X
 repeat' (with_reducible (first | exact Le.refl _ | exact h_yield _ _ | exact h_yield | refine Le.bind ?_ ?_ | refine Le.elim ?_ ?_ | refine Le.loop ?_ | refine Z5m ?_ | intro _))

noncomputable def Z40 (n : Net) (ticks : (List Int)) : Option ((List Int) × Int) :=
 (Z5E n ticks).bind fun x1 =>
 (bif (!x1) then
  some ([], 230)
 else
  (Z0c n ticks (Z30 Z0M.b0) ([], 0)).bind fun (y1 : ((List Int)) × Nat) =>
  some (y1.1, 0))

theorem Z9M {n : Net} {ticks : (List Int)} : Le (Z40 n ticks) (Z0M n ticks) := by
 unfold Z40 Z0M
 repeat' (with_reducible (first | exact Le.refl _ | refine Le.bind ?_ ?_ | refine Le.cond ?_ ?_ | refine Le.Z30 ?_ _ _ | refine Z7H | refine Z4R ?_ | intro _))

noncomputable def Zc.s0 (s : (List Form)) (f : Form → Option Bool) (s1 : Int) : Option ((Int) ⊕ (Jx (Unit) (Int))) :=
 (bif (decide (s1 < (s.length : Int))) then
  (at? s s1).bind fun x1 =>
  (f x1).bind fun x2 =>
  (bif x2 then
   some (.inr (.ret s1))
  else
   some (.inl (w64 (s1 + 1))))
 else
  some (.inr (.go ())))

theorem Z2V {s : (List Form)} {f f_ : Form → Option Bool} {s1 : Int} (h_f : ∀ z0, Le (f z0) (f_ z0)) : Le (Zc.s0 s f s1) (ZX.s0 s f_ s1) := by
 unfold Zc.s0 ZX.s0
 repeat' (with_reducible (first | exact Le.refl _ | exact h_f _ | exact h_f | refine Le.bind ?_ ?_ | refine Le.cond ?_ ?_ | intro _))

noncomputable def Zc (s : (List Form)) (f : Form → Option Bool) : Option (Int) :=
 (Z20 (Zc.s0 s f) 0).bind fun (y1 : Jx (Unit) (Int)) =>
 y1.elim (fun r' =>
   some r') fun a2 =>
 some (-1)

theorem Z2t {s : (List Form)} {f f_ : Form → Option Bool} (h_f : ∀ z0, Le (f z0) (f_ z0)) : Le (Zc s f) (ZX s f_) := by
 unfold Zc ZX
 repeat' (with_reducible (first | exact Le.refl _ | exact h_f _ | exact h_f | refine Le.bind ?_ ?_ | refine Le.elim ?_ ?_ | refine Le.loop ?_ | refine Z2V ?_ | intro _))

noncomputable def Z0f (s : (List Form)) (f : Form → Option Bool) : Option (Bool) :=
 (Zc s f).bind fun x1 =>
 some (decide (x1 ≥ 0))

theorem Z2U {s : (List Form)} {f f_ : Form → Option Bool} (h_f : ∀ z0, Le (f z0) (f_ z0)) : Le (Z0f s f) (Z05 s f_) := by
 unfold Z0f Z05
 repeat' (with_reducible (first | exact Le.refl _ | exact h_f _ | exact h_f | refine Le.bind ?_ ?_ | refine Z2t ?_ | intro _))

noncomputable def Z4S (f : Form) : Option (Bool) :=
 (Z1V f).bind fun x1 =>
 some (x1 != 0)

theorem Z8D {f : Form} : Le (Z4S f) (Z3g f) := by
 unfold Z4S Z3g
 repeat' (with_reducible (first | exact Le.refl _ | refine Le.bind ?_ ?_ | refine Z8k | intro _))

noncomputable def Zm.s0 (s : (List Con)) (f : Con → Option Bool) (s1 : Int) : Option ((Int) ⊕ (Jx (Unit) (Int))) :=
 (bif (decide (s1 < (s.length : Int))) then
  (at? s s1).bind fun x1 =>
  (f x1).bind fun x2 =>
  (bif x2 then
   some (.inr (.ret s1))
  else
   some (.inl (w64 (s1 + 1))))
 else
  some (.inr (.go ())))

theorem Z2m {s : (List Con)} {f f_ : Con → Option Bool} {s1 : Int} (h_f : ∀ z0, Le (f z0) (f_ z0)) : Le (Zm.s0 s f s1) (ZZ.s0 s f_ s1) := by
 unfold Zm.s0 ZZ.s0
 repeat' (with_reducible (first | exact Le.refl _ | exact h_f _ | exact h_f | refine Le.bind ?_ ?_ | refine Le.cond ?_ ?_ | intro _))

noncomputable def Zm (s : (List Con)) (f : Con → Option Bool) : Option (Int) :=
 (Z20 (Zm.s0 s f) 0).bind fun (y1 : Jx (Unit) (Int)) =>
 y1.elim (fun r' =>
   some r') fun a2 =>
 some (-1)

theorem Z3E {s : (List Con)} {f f_ : Con → Option Bool} (h_f : ∀ z0, Le (f z0) (f_ z0)) : Le (Zm s f) (ZZ s f_) := by
 unfold Zm ZZ
 repeat' (with_reducible (first | exact Le.refl _ | exact h_f _ | exact h_f | refine Le.bind ?_ ?_ | refine Le.elim ?_ ?_ | refine Le.loop ?_ | refine Z2m ?_ | intro _))

noncomputable def Z0j (s : (List Con)) (f : Con → Option Bool) : Option (Bool) :=
 (Zm s f).bind fun x1 =>
 some (decide (x1 ≥ 0))

theorem Z2q {s : (List Con)} {f f_ : Con → Option Bool} (h_f : ∀ z0, Le (f z0) (f_ z0)) : Le (Z0j s f) (Z0E s f_) := by
 unfold Z0j Z0E
 repeat' (with_reducible (first | exact Le.refl _ | exact h_f _ | exact h_f | refine Le.bind ?_ ?_ | refine Z3E ?_ | intro _))

noncomputable def Z5d (n : Net) : Option (Int) :=
 (
  (
   (
    (bif (!(ZV n.Vars 25)) then
     some (!(ZV n.Vars 25))
    else
     (bif (decide ((n.Forms.length : Int) > 20)) then
      some (decide ((n.Forms.length : Int) > 20))
     else
      some (decide ((n.Cons.length : Int) > 200))))).bind fun (y3 : Bool) =>
   (bif y3 then
    some (.ret 230)
   else
    (
     (Z0f n.Forms (fun z0 => Z4S z0)).bind fun x1 =>
     (bif x1 then
      some x1
     else
      (Z0j n.Cons (fun z0 => some (Z4g z0 n))).bind fun x2 =>
      some x2)).bind fun (y4 : Bool) =>
    (bif y4 then
     some (.ret 230)
    else
     some (.go ())))).bind fun (y2 : Jx (Unit) (Int)) =>
  y2.elim (fun r' =>
    some (.ret r')) fun a3 =>
  some (.go ())).bind fun (y1 : Jx (Unit) (Int)) =>
 y1.elim (fun r' =>
   some r') fun a4 =>
 some 0

theorem Z8y {n : Net} : Le (Z5d n) (Z47 n) := by
 unfold Z5d Z47
 repeat' (with_reducible (first | exact Le.refl _ | refine Le.bind ?_ ?_ | refine Le.cond ?_ ?_ | refine Le.elim ?_ ?_ | refine Z2U ?_ | refine Z8D | refine Z2q ?_ | intro _))

noncomputable def Z5H (n : Net) (ticks : (List Int)) : Option (Bool) :=
 (Z5E n ticks).bind fun x1 =>
 (bif (!x1) then
  some false
 else
  (Z0c n ticks (Z30 Z09.b0) ((), 0)).bind fun (y1 : (Unit) × Nat) =>
  (bif (y1.2 == 0) then
   some true
  else
   some false))

theorem Z9H {n : Net} {ticks : (List Int)} : Le (Z5H n ticks) (Z09 n ticks) := by
 unfold Z5H Z09
 repeat' (with_reducible (first | exact Le.refl _ | refine Le.bind ?_ ?_ | refine Le.cond ?_ ?_ | refine Le.Z30 ?_ _ _ | refine Z7H | refine Z4R ?_ | intro _))

noncomputable def Z1m (a : (List Int)) (b : (List Int)) : Option (Bool) :=
 (bif ((a.length : Int) != (b.length : Int)) then
  some false
 else
  (Z20 (Zu.s0 a b) 0).bind fun (y1 : Jx (Unit) (Bool)) =>
  y1.elim (fun r' =>
    some r') fun a2 =>
  some true)

theorem Z5q {a : (List Int)} {b : (List Int)} : Le (Z1m a b) (Zu a b) := by
 unfold Z1m Zu
 repeat' (with_reducible (first | exact Le.refl _ | refine Le.bind ?_ ?_ | refine Le.cond ?_ ?_ | refine Le.elim ?_ ?_ | refine Le.loop ?_ | intro _))

noncomputable def Z26 : Option (Bool) :=
 (Z1q ZH 3 9).bind fun x1 =>
 (Z1q ZH 3 5).bind fun x2 =>
 (Z40 (Net.mk 2 [ZH] [(Con.mk 0 1 0 (Range.mk 1 2 true true))]) [3, 4]).bind fun x3 =>
 (Z40 (Net.mk 2 [ZH] [(Con.mk 0 1 0 (Range.mk 1 2 true true))]) [3, 5]).bind fun x4 =>
 (
  (bif ((x1.2 && (x1.1 == 1)) && (!x2.2)) then
   (Z5d (Net.mk 2 [ZH] [(Con.mk 0 1 0 (Range.mk 1 2 true true))])).bind fun x5 =>
   some (x5 == 0)
  else
   some false)).bind fun (y1 : Bool) =>
 (
  (bif y1 then
   (Z5H (Net.mk 2 [ZH] [(Con.mk 0 1 0 (Range.mk 1 2 true true))]) [3, 9]).bind fun x6 =>
   some x6
  else
   some false)).bind fun (y2 : Bool) =>
 (
  (bif (y2 && (x3.2 == 0)) then
   (Z1m x3.1 [0]).bind fun x7 =>
   some x7
  else
   some false)).bind fun (y3 : Bool) =>
 (
  (bif (y3 && (x4.2 == 0)) then
   (Z1m x4.1 [0]).bind fun x8 =>
   some x8
  else
   some false)).bind fun (y4 : Bool) =>
 some y4

theorem Z5R : Le (Z26) (Z1L) := by
 unfold Z26 Z1L
 repeat' (with_reducible (first | exact Le.refl _ | refine Le.bind ?_ ?_ | refine Le.cond ?_ ?_ | refine Z4a | refine Z9M | refine Z8y | refine Z9H | refine Z5q | intro _))

theorem Z5Y : Z26 = some true := by kernel_rfl
theorem Z5b : Z1L = some true := Z5R _ Z5Y

end Go.Dn
