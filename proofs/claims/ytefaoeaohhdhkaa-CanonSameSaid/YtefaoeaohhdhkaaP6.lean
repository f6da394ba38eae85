/- Right forms, in plain terms; the order of their granules. -/
import Derived.Test.YtefaoeaohhdhkaaP5
set_option linter.unusedVariables false
set_option linter.unusedSimpArgs false
namespace Go.Dn
open Go

/-- An exception is in order with what is next to it. -/
def BesideR (f : Form) (i : Int) (lo hi : Int × Bool) : Prop :=
  fits f i ∧ (lo.2 = true → fits f lo.1 ∧ AheadL (setAt f lo.1) (setAt f i)) ∧ (hi.2 = true → fits f hi.1 ∧ AheadL (setAt f i) (setAt f hi.1)) ∧ (lo.2 = true → hi.2 = true → AheadL (setAt f lo.1) (setAt f hi.1))

theorem aheadL_nil_l (b : List Span) : AheadL [] b := by intro x hx; cases hx
theorem aheadL_nil_r (a : List Span) : AheadL a [] := by intro x _ y hy; cases hy

theorem setAt_len {f : Form} (hl : Lim f) (hs : Shape f) (i : Int) : Len (setAt f i) := by
  by_cases ho : isOdd f i
  · obtain ⟨g, hg, rfl⟩ := ho
    rw [setAt_odd hs.inc hg]; exact (hl.ticks g hg).2.1
  · by_cases h0 : f.Count = 0
    · rw [setAt_none ho h0]; unfold Len; simp
    · rw [setAt_core ho h0]; unfold Len; rw [List.length_map]; exact (hl.sets _ (coreAt_get hs h0 i).2).1

theorem setAt_right {f : Form} (hs : Shape f) {i : Int} (hf : fits f i) : RightL (setAt f i) := by
  by_cases ho : isOdd f i
  · obtain ⟨g, hg, rfl⟩ := ho
    rw [setAt_odd hs.inc hg]; exact (hs.odd g hg).1
  · by_cases h0 : f.Count = 0
    · rw [setAt_none ho h0]; exact ⟨by simp, by simp⟩
    · unfold fits at hf
      rw [setAt_core ho h0] at hf ⊢
      exact (hs.core _ (coreAt_get hs h0 i).2).shift fun s hs' => hf (shiftS (perAt f i) s) (List.mem_map.2 ⟨s, hs', rfl⟩)

theorem near_l {c : Bool} {X S : List Span} : AheadL (if c = true then X else []) S ↔ (c = true → AheadL X S) := by
  cases c
  · simp [aheadL_nil_l]
  · simp
theorem near_r {c : Bool} {X S : List Span} : AheadL S (if c = true then X else []) ↔ (c = true → AheadL S X) := by
  cases c
  · simp [aheadL_nil_r]
  · simp

/-- What is told of the granule on one side. -/
noncomputable def sideG (f : Form) (r : Int × Bool) : Option (Jx (List Span) Bool) :=
  (bif r.2 then (gran_Get f r.1).bind fun x => (bif (x.2 != 0) then some (.ret false) else some (.go x.1)) else some (.go []))

open Classical in
theorem sideG_eq {f : Form} (hl : Lim f) (hs : Shape f) {r : Int × Bool} (ht : r.2 = true → tickP r.1) : (r.2 = true ∧ ¬ fits f r.1 ∧ sideG f r = some (.ret false)) ∨ ((r.2 = true → fits f r.1) ∧ sideG f r = some (.go (if r.2 = true then setAt f r.1 else []))) := by
  obtain ⟨j, c⟩ := r
  unfold sideG
  cases c with
  | false => exact .inr ⟨by simp, by simp⟩
  | true =>
    simp only [cond_true]
    rw [gran_Get_eq hl hs (tick64 (ht rfl))]
    by_cases hfl : fits f j
    · rw [if_pos ⟨ht rfl, hfl⟩]; exact .inr ⟨fun _ => hfl, by simp⟩
    · rw [if_neg (fun h => hfl h.2)]; exact .inl ⟨trivial, hfl, rfl⟩

open Classical in
theorem gran_beside_eq {f : Form} (hl : Lim f) (hs : Shape f) {i : Int} (hi : tickP i) {lo hi' : Int × Bool} (hlo : gran_Before f i = some lo) (hhi : gran_Behind f i = some hi') (tlo : lo.2 = true → tickP lo.1) (thi : hi'.2 = true → tickP hi'.1) :
    ∃ b, gran_beside f i = some b ∧ (b = true ↔ BesideR f i lo hi') := by
  have e : gran_beside f i = (gran_Get f i).bind fun x1 => (bif (x1.2 != 0) then some false else (sideG f lo).bind fun y1 => y1.elim (fun r' => some r') fun a2 => (sideG f hi').bind fun y2 => y2.elim (fun r' => some r') fun a4 =>
      (spans_Ahead a2 x1.1).bind fun x6 => ((bif x6 then (spans_Ahead x1.1 a4).bind fun x7 => some x7 else some false)).bind fun y3 => ((bif y3 then (spans_Ahead a2 a4).bind fun x8 => some x8 else some false)).bind fun y4 => some y4) := by
    unfold gran_beside sideG
    rw [hlo, hhi]
    simp only [Option.bind_some]
  rw [e, gran_Get_eq hl hs (tick64 hi)]
  clear e
  by_cases hf : fits f i
  · rw [if_pos ⟨hi, hf⟩]
    simp only [Option.bind_some, bne_self_eq_false, cond_false]
    rcases sideG_eq hl hs tlo with ⟨h1, h2, h0⟩ | ⟨h1, h0⟩
    · rw [h0]
      exact ⟨false, rfl, fun h => (by cases h), fun h => absurd (h.2.1 h1).1 h2⟩
    · rw [h0]
      simp only [Option.bind_some, Jx.elim]
      rcases sideG_eq hl hs thi with ⟨h3, h4, h0'⟩ | ⟨h3, h0'⟩
      · rw [h0']
        exact ⟨false, rfl, fun h => (by cases h), fun h => absurd (h.2.2.1 h3).1 h4⟩
      · rw [h0']
        simp only [Option.bind_some]
        have lenA : Len (if lo.2 = true then setAt f lo.1 else []) := by
          by_cases hc : lo.2 = true
          · rw [if_pos hc]; exact setAt_len hl hs _
          · rw [if_neg hc]; unfold Len; simp
        generalize hA : (if lo.2 = true then setAt f lo.1 else []) = A at lenA
        generalize hB : (if hi'.2 = true then setAt f hi'.1 else []) = B
        obtain ⟨r1, q1, p1⟩ := spans_Ahead_eq (b := setAt f i) lenA
        obtain ⟨r2, q2, p2⟩ := spans_Ahead_eq (a := setAt f i) (b := B) (setAt_len hl hs i)
        obtain ⟨r3, q3, p3⟩ := spans_Ahead_eq (b := B) lenA
        rw [q1, q2, q3]
        subst hA hB
        rw [near_l] at p1
        rw [near_r] at p2
        rw [near_l, near_r] at p3
        refine ⟨r1 && r2 && r3, by cases r1 <;> cases r2 <;> rfl, ?_⟩
        rw [Bool.and_eq_true, Bool.and_eq_true, p1, p2, p3]
        constructor
        · rintro ⟨⟨a, b⟩, c⟩
          exact ⟨hf, fun h => ⟨h1 h, a h⟩, fun h => ⟨h3 h, b h⟩, c⟩
        · rintro ⟨_, a, b, c⟩
          exact ⟨⟨fun h => (a h).2, fun h => (b h).2⟩, c⟩
  · rw [if_neg (fun h => hf h.2)]
    exact ⟨false, rfl, fun h => (by cases h), fun h => absurd h.1 hf⟩

/-- An exception is in order with what is next to it, whatever that is. -/
def Beside (f : Form) (i : Int) : Prop := ∀ lo hi, Under f i lo → Above f i hi → BesideR f i lo hi

theorem Under.uniq {f : Form} {i : Int} {r r' : Int × Bool} (h : Under f i r) (h' : Under f i r') : r = r' := by
  obtain ⟨a, b⟩ := r
  obtain ⟨a', b'⟩ := r'
  rcases h with ⟨rfl, h1, h2, h3, h4⟩ | ⟨rfl, rfl, h4⟩ <;> rcases h' with ⟨rfl, k1, k2, k3, k4⟩ | ⟨rfl, rfl, k4⟩
  · simp only at *
    rcases Int.lt_trichotomy a a' with h | h | h
    · exact absurd (h4 a' k1 h k2) k3
    · rw [h]
    · exact absurd (k4 a h1 h h2) h3
  · exact absurd (k4 a h1 h2) h3
  · exact absurd (h4 a' k1 k2) k3
  · rfl
theorem Above.uniq {f : Form} {i : Int} {r r' : Int × Bool} (h : Above f i r) (h' : Above f i r') : r = r' := by
  obtain ⟨a, b⟩ := r
  obtain ⟨a', b'⟩ := r'
  rcases h with ⟨rfl, h1, h2, h3, h4⟩ | ⟨rfl, rfl, h4⟩ <;> rcases h' with ⟨rfl, k1, k2, k3, k4⟩ | ⟨rfl, rfl, k4⟩
  · simp only at *
    rcases Int.lt_trichotomy a a' with h | h | h
    · exact absurd (k4 a h1 h h2) h3
    · rw [h]
    · exact absurd (h4 a' k1 h k2) k3
  · exact absurd (k4 a h1 h2) h3
  · exact absurd (h4 a' k1 k2) k3
  · rfl

theorem gran_beside_iff {f : Form} (hl : Lim f) (hs : Shape f) {i : Int} (hi : tickP i) : ∃ b, gran_beside f i = some b ∧ (b = true ↔ Beside f i) := by
  obtain ⟨lo, h1, h2⟩ := gran_Before_eq hl hs (tick64 hi)
  obtain ⟨hi', h3, h4⟩ := gran_Behind_eq hl hs (tick64 hi)
  obtain ⟨b, h5, h6⟩ := gran_beside_eq hl hs hi h1 h3 (fun h => by rcases h2 with ⟨_, _, h, _⟩ | ⟨h', _⟩ <;> simp_all) (fun h => by rcases h4 with ⟨_, _, h, _⟩ | ⟨h', _⟩ <;> simp_all)
  refine ⟨b, h5, h6.trans ⟨fun h lo' hi'' q1 q2 => ?_, fun h => h lo hi' h2 h4⟩⟩
  rw [q1.uniq h2, q2.uniq h4]; exact h

/-- How many spans. -/
def sizeF (f : Form) : Nat := (f.Core.map List.length).sum + (f.Odd.map (·.Ticks.length)).sum

theorem sum_take {α : Type} (g : α → Nat) {l : List α} {k : Nat} (h : k < l.length) : ((l.take (k + 1)).map g).sum = ((l.take k).map g).sum + g l[k] := by
  rw [List.take_succ_eq_append_getElem h, List.map_append, List.sum_append]; simp

theorem gran_Size_eq {f : Form} (hl : Lim f) (hc : f.Core.length ≤ 6000) (ho : f.Odd.length ≤ 6000) : gran_Size f = some (sizeF f : Int) := by
  have hr := reach_eq
  have lenC : ∀ l ∈ f.Core, l.length ≤ 8796093022207 := fun l hm => by have := (hl.sets l hm).1; unfold Len at this; omega
  have lenO : ∀ g ∈ f.Odd, g.Ticks.length ≤ 8796093022207 := fun l hm => by have := (hl.ticks l hm).2.1; unfold Len at this; omega
  obtain ⟨a, h1, h2, h3⟩ := fold_loop (l := f.Core) (step := gran_Size.s0 f) (f := fun a _ x => a + (x.length : Int)) (fin := id) (a0 := (0 : Int)) (fun k a => a = ((((f.Core.take k).map List.length).sum : Nat) : Int) ∧ a ≤ k * 8796093022207) ⟨by simp, by simp⟩ (fun k x a hk ⟨ha, hb⟩ => by
      obtain ⟨q1, q2⟩ := nat_at hk
      have hx := lenC x (List.mem_of_getElem? hk)
      have hkl : k < f.Core.length := by omega
      have h0 : 0 ≤ a := by rw [ha]; omega
      unfold gran_Size.s0
      simp only
      rw [dec_t q2, cond_true, q1, w64_id (x := (k : Int) + 1) (by omega)]
      simp only [Option.bind_some]
      rw [w64_id (x := a + (x.length : Int)) (by omega)]
      refine ⟨rfl, ?_, by push_cast; omega⟩
      rw [sum_take _ hkl]
      rw [List.getElem?_eq_getElem hkl] at hk
      cases hk; rw [ha]; push_cast; rfl) (fun a _ => by unfold gran_Size.s0; simp only; rw [dec_f (by omega)]; rfl)
  rw [List.take_length] at h2
  obtain ⟨b, h4, h5, h6⟩ := fold_loop (l := f.Odd) (step := gran_Size.s1 f) (f := fun a _ x => a + (x.Ticks.length : Int)) (fin := id) (a0 := a) (fun k b => b = a + ((((f.Odd.take k).map (·.Ticks.length)).sum : Nat) : Int) ∧ b ≤ a + k * 8796093022207) ⟨by simp, by simp⟩ (fun k x b hk ⟨ha, hb⟩ => by
      obtain ⟨q1, q2⟩ := nat_at hk
      have hx := lenO x (List.mem_of_getElem? hk)
      have hkl : k < f.Odd.length := by omega
      have h0 : 0 ≤ b := by rw [ha, h2]; omega
      unfold gran_Size.s1
      simp only
      rw [dec_t q2, cond_true, q1, w64_id (x := (k : Int) + 1) (by omega)]
      simp only [Option.bind_some]
      rw [w64_id (x := b + (x.Ticks.length : Int)) (by omega)]
      refine ⟨rfl, ?_, by push_cast; omega⟩
      rw [sum_take _ hkl]
      rw [List.getElem?_eq_getElem hkl] at hk
      cases hk; rw [ha]; push_cast; omega) (fun a _ => by unfold gran_Size.s1; simp only; rw [dec_f (by omega)]; rfl)
  rw [List.take_length] at h5
  unfold gran_Size
  rw [h1]
  simp only [Option.bind_some, id]
  rw [h4]
  simp only [Option.bind_some, id, h5, h2, sizeF]
  push_cast; rfl

/-- A right form. -/
structure RightF (f : Form) : Prop where
  shape : Shape f
  turns : Turns f
  beside : ∀ g ∈ f.Odd, Beside f g.Index
def LongF (f : Form) : Prop := 6000 < f.Core.length ∨ 6000 < f.Odd.length ∨ 60000 < sizeF f

theorem gran_Right_eq {f : Form} (hl : Lim f) : (LongF f ∧ gran_Right f = some 3) ∨ (¬ LongF f ∧ RightF f ∧ gran_Right f = some 0) ∨ (¬ LongF f ∧ ¬ RightF f ∧ gran_Right f = some 50) := by
  have holen := len_lt (b := 31) hl.odd
  unfold gran_Right
  by_cases h1 : 6000 < f.Core.length ∨ 6000 < f.Odd.length
  · have e : (decide ((f.Core.length : Int) > 6000) || decide ((f.Odd.length : Int) > 6000)) = true := by
      rcases h1 with h | h
      · rw [dec_t (show (f.Core.length : Int) > 6000 by omega)]; rfl
      · rw [dec_t (show (f.Odd.length : Int) > 6000 by omega)]; simp
    rw [e]
    exact .inl ⟨h1.elim .inl (fun h => .inr (.inl h)), rfl⟩
  · have e : (decide ((f.Core.length : Int) > 6000) || decide ((f.Odd.length : Int) > 6000)) = false := by
      rw [dec_f (show ¬ (f.Core.length : Int) > 6000 by omega), dec_f (show ¬ (f.Odd.length : Int) > 6000 by omega)]; rfl
    rw [e, cond_false, gran_Size_eq hl (by omega) (by omega)]
    simp only [Option.bind_some]
    by_cases h2 : 60000 < sizeF f
    · rw [dec_t (show (sizeF f : Int) > 60000 by omega)]
      exact .inl ⟨.inr (.inr h2), rfl⟩
    · have hnl : ¬ LongF f := by unfold LongF; omega
      rw [dec_f (show ¬ (sizeF f : Int) > 60000 by omega), cond_false]
      obtain ⟨b, hb, hbs⟩ := gran_shape_eq hl
      rw [hb]
      simp only [Option.bind_some]
      refine .inr ?_
      cases b with
      | false => exact .inr ⟨hnl, fun h => (by have := hbs.2 h.shape; cases this), rfl⟩
      | true =>
        have hs := hbs.1 rfl
        obtain ⟨c, hc, hct⟩ := gran_turns_eq hl hs
        rw [hc]
        simp only [Option.bind_some, Bool.not_true, cond_false]
        cases c with
        | false => exact .inr ⟨hnl, fun h => (by have := hct.2 h.turns; cases this), rfl⟩
        | true =>
          simp only [Bool.not_true, cond_false]
          rcases all_loop (l := f.Odd) (step := gran_Right.s0 f) (fun _ g => Beside f g.Index) (no := .ret 50) (yes := .go ()) (fun k g hk _ => by
              obtain ⟨q1, q2⟩ := nat_at hk
              obtain ⟨b, hb, hbb⟩ := gran_beside_iff hl hs (hs.odd g (List.mem_of_getElem? hk)).2
              unfold gran_Right.s0
              rw [dec_t q2, cond_true, q1, w64_id (by omega)]
              simp only [Option.bind_some, hb]
              cases b
              · exact .inr ⟨rfl, fun h => by have := hbb.2 h; cases this⟩
              · exact .inl ⟨rfl, hbb.1 rfl⟩) (by unfold gran_Right.s0; rw [dec_f (by omega)]; rfl) with ⟨q1, q2⟩ | ⟨q1, q2⟩
          · rw [q1]
            exact .inl ⟨hnl, ⟨hs, hct.1 rfl, fun g hg => by obtain ⟨k, hk⟩ := List.getElem?_of_mem hg; exact q2 k g hk⟩, rfl⟩
          · rw [q1]
            exact .inr ⟨hnl, fun h => q2 fun k g hk => h.beside g (List.mem_of_getElem? hk), rfl⟩

def SmallF (f : Form) : Prop := f.Core.length ≤ 12 ∧ f.Odd.length ≤ 8 ∧ sizeF f ≤ 60
theorem epactlaw05_Small_eq {f : Form} (hl : Lim f) : ∃ b, epactlaw05_Small f = some b ∧ (b = true ↔ SmallF f) := by
  unfold epactlaw05_Small
  by_cases h : f.Core.length ≤ 12 ∧ f.Odd.length ≤ 8
  · rw [dec_t (show (f.Core.length : Int) ≤ 12 by omega), dec_t (show (f.Odd.length : Int) ≤ 8 by omega), gran_Size_eq hl (by omega) (by omega)]
    refine ⟨decide ((sizeF f : Int) ≤ 60), rfl, ?_⟩
    rw [decide_eq_true_iff]
    exact ⟨fun h' => ⟨h.1, h.2, by omega⟩, fun h' => by have := h'.2.2; omega⟩
  · have e : (decide ((f.Core.length : Int) ≤ 12) && decide ((f.Odd.length : Int) ≤ 8)) = false := by
      by_cases h1 : f.Core.length ≤ 12
      · rw [dec_f (show ¬ (f.Odd.length : Int) ≤ 8 by omega)]; simp
      · rw [dec_f (show ¬ (f.Core.length : Int) ≤ 12 by omega)]; rfl
    rw [e]
    exact ⟨false, rfl, fun h => (by cases h), fun h' => absurd ⟨h'.1, h'.2.1⟩ h⟩

theorem epactlaw05_right_eq {f : Form} (hl : Lim f) : ∃ b, epactlaw05_right f = some b ∧ (b = true ↔ SmallF f ∧ RightF f) := by
  unfold epactlaw05_right
  obtain ⟨b, hb, hbs⟩ := epactlaw05_Small_eq hl
  rw [hb]
  simp only [Option.bind_some]
  cases b with
  | false => exact ⟨false, rfl, fun h => (by cases h), fun h => by have := hbs.2 h.1; cases this⟩
  | true =>
    have hsm := hbs.1 rfl
    have hnl : ¬ LongF f := by unfold LongF; have := hsm.1; have := hsm.2.1; have := hsm.2.2; omega
    rw [cond_true]
    rcases gran_Right_eq hl with ⟨h, _⟩ | ⟨_, h1, h2⟩ | ⟨_, h1, h2⟩
    · exact absurd h hnl
    · rw [h2]; exact ⟨true, rfl, fun _ => ⟨hsm, h1⟩, fun _ => rfl⟩
    · rw [h2]; exact ⟨false, rfl, fun h => (by cases h), fun h => absurd h.2 h1⟩

end Go.Dn
