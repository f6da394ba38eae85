/- The order of a right form's granules; the laws FormOrder and FormTurns. -/
import Derived.Test.YtefaoeaohhdhkaaP6
set_option linter.unusedVariables false
set_option linter.unusedSimpArgs false
namespace Go.Dn
open Go

theorem full_mem {f : Form} {l : List Span} : l ∈ full f ↔ l ∈ f.Core ∧ l ≠ [] := by
  unfold full
  rw [List.mem_filter, decide_eq_true_iff, gt_iff_lt, List.length_pos_iff]

theorem full_pair {f : Form} (hs : Shape f) (ht : Turns f) : (full f).Pairwise (fun a b => lstT a < fstT b) := by
  have hm : ∀ x ∈ full f, fstT x ≤ lstT x := fun x hx => fst_le_lst (hs.core x (full_mem.1 hx).1) (full_mem.1 hx).2
  have h1 := ht.1
  generalize full f = l at hm h1
  induction l with
  | nil => exact .nil
  | cons x l ih =>
    have ih := ih (fun y hy => hm y (List.mem_cons_of_mem _ hy)) (fun k a b ha hb => h1 (k + 1) a b ha hb)
    refine List.pairwise_cons.2 ⟨fun y hy => ?_, ih⟩
    cases l with
    | nil => cases hy
    | cons z l =>
      have hxz := h1 0 x z rfl rfl
      rcases List.mem_cons.1 hy with rfl | hy
      · exact hxz
      · have := (List.pairwise_cons.1 ih).1 y hy
        have := hm z (by simp)
        omega

theorem core_pair {f : Form} (hs : Shape f) (ht : Turns f) {j k : Nat} {a b : List Span} (hjk : j < k) (ha : f.Core[j]? = some a) (hb : f.Core[k]? = some b) (na : a ≠ []) (nb : b ≠ []) : lstT a < fstT b := by
  have h := full_pair hs ht
  unfold full at h
  rw [List.pairwise_filter] at h
  have hj := (List.getElem?_eq_some_iff.1 ha)
  have hk := (List.getElem?_eq_some_iff.1 hb)
  obtain ⟨hj, rfl⟩ := hj
  obtain ⟨hk, rfl⟩ := hk
  exact List.pairwise_iff_getElem.1 h j k hj hk hjk (by rw [decide_eq_true_iff]; exact List.length_pos_iff.2 na) (by rw [decide_eq_true_iff]; exact List.length_pos_iff.2 nb)

theorem core_turn {f : Form} (hs : Shape f) (ht : Turns f) {a b : List Span} (ha : a ∈ f.Core) (hb : b ∈ f.Core) (na : a ≠ []) (nb : b ≠ []) : lstT a < fstT b + f.Period := by
  have hA := full_mem.2 ⟨ha, na⟩
  have hB := full_mem.2 ⟨hb, nb⟩
  have hm : ∀ x ∈ full f, fstT x ≤ lstT x := fun x hx => fst_le_lst (hs.core x (full_mem.1 hx).1) (full_mem.1 hx).2
  have hn : full f ≠ [] := List.ne_nil_of_mem hA
  have hlast := List.getLast?_eq_some_getLast hn
  have hhead := List.head?_eq_some_head hn
  have h2 := ht.2 _ _ hlast hhead
  have hp := full_pair hs ht
  have e1 : lstT a ≤ lstT ((full f).getLast hn) := by
    obtain ⟨j, hj⟩ := List.getElem?_of_mem hA
    obtain ⟨hjl, hj⟩ := List.getElem?_eq_some_iff.1 hj
    by_cases hc : j = (full f).length - 1
    · subst hc
      rw [List.getLast_eq_getElem, hj]
      exact Int.le_refl _
    · have := List.pairwise_iff_getElem.1 hp j ((full f).length - 1) hjl (by omega) (by omega)
      rw [hj] at this
      have h5 := hm _ (List.getLast_mem hn)
      rw [List.getLast_eq_getElem] at h5 ⊢
      omega
  have e2 : fstT ((full f).head hn) ≤ fstT b := by
    obtain ⟨j, hj⟩ := List.getElem?_of_mem hB
    obtain ⟨hjl, hj⟩ := List.getElem?_eq_some_iff.1 hj
    have hh : (full f).head hn = (full f)[0]'(by omega) := List.head_eq_getElem hn
    by_cases hc : j = 0
    · subst hc
      rw [hh, hj]
      exact Int.le_refl _
    · have := List.pairwise_iff_getElem.1 hp 0 j (by omega) hjl (by omega)
      rw [hj, ← hh] at this
      have h5 := hm _ (List.head_mem hn)
      omega
  omega

theorem coreAt_idx {f : Form} (hs : Shape f) (h0 : f.Count ≠ 0) (i : Int) : f.Core[(i % f.Count).toNat]? = some (coreAt f i) := by
  have := (coreAt_get hs h0 i).1
  unfold at? at this
  rwa [if_pos (Int.emod_nonneg i h0)] at this

theorem core_order {f : Form} (hs : Shape f) (ht : Turns f) (h0 : f.Count ≠ 0) {i k : Int} (hik : i < k) (ni : coreAt f i ≠ []) (nk : coreAt f k ≠ []) : lstT (coreAt f i) + perAt f i < fstT (coreAt f k) + perAt f k := by
  have hp := core_pos hs h0
  have di := Int.emod_add_mul_ediv i f.Count
  have dk := Int.emod_add_mul_ediv k f.Count
  have mi := Int.emod_nonneg i h0
  have mk := Int.emod_nonneg k h0
  have li := Int.emod_lt_of_pos i hp
  have lk := Int.emod_lt_of_pos k hp
  have hq : i / f.Count ≤ k / f.Count := Int.ediv_le_ediv hp (by omega)
  unfold perAt
  rcases Int.lt_or_eq_of_le hq with h | h
  · have h1 := core_turn hs ht (coreAt_get hs h0 i).2 (coreAt_get hs h0 k).2 ni nk
    have h2 : (i / f.Count + 1) * f.Period ≤ k / f.Count * f.Period := Int.mul_le_mul_of_nonneg_right (by omega) hs.per.1
    rw [Int.add_mul, Int.one_mul] at h2
    omega
  · rw [h] at di ⊢
    have : i % f.Count < k % f.Count := by omega
    have h1 := core_pair hs ht (j := (i % f.Count).toNat) (k := (k % f.Count).toNat) (by omega) (coreAt_idx hs h0 i) (coreAt_idx hs h0 k) ni nk
    omega

theorem lst_shift {l : List Span} (d : Int) (hn : l ≠ []) : lstT (l.map (shiftS d)) = lstT l + d ∧ fstT (l.map (shiftS d)) = fstT l + d := by
  unfold lstT fstT
  rw [List.getLast?_map, List.head?_map, List.getLast?_eq_some_getLast hn, List.head?_eq_some_head hn]
  exact ⟨rfl, rfl⟩

theorem under_some {f : Form} (hl : Lim f) (hs : Shape f) {i k : Int} (hk : In64 k) (hik : i < k) (ti : tickP i) (ni : setAt f i ≠ []) : ∃ j, Under f k (j, true) ∧ i ≤ j := by
  obtain ⟨r, _, h⟩ := gran_Before_eq hl hs hk
  obtain ⟨j, b⟩ := r
  have h' := h
  rcases h with ⟨rfl, h1, h2, h3, h4⟩ | ⟨rfl, _, h4⟩
  · refine ⟨j, h', ?_⟩
    apply Classical.byContradiction
    intro hc
    exact ni (h4 i hik (by simp only; omega) ti)
  · exact absurd (h4 i hik ti) ni
theorem above_some {f : Form} (hl : Lim f) (hs : Shape f) {i k : Int} (hk : In64 k) (hik : k < i) (ti : tickP i) (ni : setAt f i ≠ []) : ∃ j, Above f k (j, true) ∧ j ≤ i := by
  obtain ⟨r, _, h⟩ := gran_Behind_eq hl hs hk
  obtain ⟨j, b⟩ := r
  have h' := h
  rcases h with ⟨rfl, h1, h2, h3, h4⟩ | ⟨rfl, _, h4⟩
  · refine ⟨j, h', ?_⟩
    apply Classical.byContradiction
    intro hc
    exact ni (h4 i hik (by simp only; omega) ti)
  · exact absurd (h4 i hik ti) ni

/-- **The order** (P5.4). -/
theorem RightF.order {f : Form} (hl : Lim f) (hr : RightF f) : ∀ (n : Nat) (i k : Int), (k - i).toNat = n → i < k → tickP i → tickP k → fits f i → fits f k → setAt f i ≠ [] → setAt f k ≠ [] → lstT (setAt f i) < fstT (setAt f k) := by
  have hs := hr.shape
  intro n
  induction n using Nat.strongRecOn with
  | _ n ih =>
    intro i k hn hik ti tk fi fk ni nk
    by_cases ok : isOdd f k
    · obtain ⟨g, hg, rfl⟩ := ok
      obtain ⟨j, hj, hij⟩ := under_some hl hs (tick64 tk) hik ti ni
      obtain ⟨hi', _, hab⟩ := gran_Behind_eq hl hs (tick64 tk)
      obtain ⟨_, hlo, _, _⟩ := hr.beside g hg _ _ hj hab
      obtain ⟨fj, aj⟩ := hlo rfl
      have hj2 := hj
      rcases hj2 with ⟨_, j1, j2, j3, j4⟩ | ⟨h, _⟩
      · simp only at fj aj j1 j2 j3
        have hjk := (aheadL_iff j3 nk).1 aj
        by_cases hji : i = j
        · rw [hji]; exact hjk
        · have h1 := ih (j - i).toNat (by omega) i j rfl (by omega) ti j2 fi fj ni j3
          have h2 := fst_le_lst (setAt_right hs fj) j3
          omega
      · cases h
    · by_cases oi : isOdd f i
      · obtain ⟨g, hg, rfl⟩ := oi
        obtain ⟨j, hj, hij⟩ := above_some hl hs (tick64 ti) hik tk nk
        obtain ⟨lo', _, hun⟩ := gran_Before_eq hl hs (tick64 ti)
        obtain ⟨_, _, hhi, _⟩ := hr.beside g hg _ _ hun hj
        obtain ⟨fj, aj⟩ := hhi rfl
        have hj2 := hj
        rcases hj2 with ⟨_, j1, j2, j3, j4⟩ | ⟨h, _⟩
        · simp only at fj aj j1 j2 j3
          have hjk := (aheadL_iff ni j3).1 aj
          by_cases hji : j = k
          · rw [← hji]; exact hjk
          · have h1 := ih (k - j).toNat (by omega) j k rfl (by omega) j2 tk fj fk j3 nk
            have h2 := fst_le_lst (setAt_right hs fj) j3
            omega
        · cases h
      · have h0 : f.Count ≠ 0 := fun h => ni (setAt_none oi h)
        have ni' := fun h => ni ((setAt_nil_core oi h0).2 h)
        have nk' := fun h => nk ((setAt_nil_core ok h0).2 h)
        rw [setAt_core oi h0, setAt_core ok h0, (lst_shift _ ni').1, (lst_shift _ nk').2]
        exact core_order hs hr.turns h0 hik ni' nk'

/-! ### FormOrder -/
theorem iMin_eq (a b : Int) : iMin a b = min a b := by unfold iMin; omega
theorem iMax_eq (a b : Int) : iMax a b = max a b := by unfold iMax; omega

theorem formOrder_true (f : Form) (i k : Int) (hf : f.ok) (hi : okI .i64 i) (hk : okI .i64 k) : epactlaw05_FormOrder f i k = some true := by
  have hl := Form.lim hf
  rw [okI_i64] at hi hk
  unfold epactlaw05_FormOrder
  obtain ⟨b, hb, hbr⟩ := epactlaw05_right_eq hl
  rw [hb]
  simp only [Option.bind_some]
  cases b with
  | false => rfl
  | true =>
    obtain ⟨_, hr⟩ := hbr.1 rfl
    have hs := hr.shape
    simp only [Bool.not_true, cond_false, iMin_eq, iMax_eq]
    generalize hm : min i k = m
    generalize hM : max i k = M
    have hmM : m ≤ M := by omega
    have hm64 : In64 m := by unfold In64; omega
    have hM64 : In64 M := by unfold In64; omega
    rw [gran_Get_eq hl hs hm64, gran_Get_eq hl hs hM64]
    simp only [Option.bind_some]
    by_cases h1 : tickP m ∧ fits f m
    · by_cases h2 : tickP M ∧ fits f M
      · rw [if_pos h1, if_pos h2]
        simp only [bne_self_eq_false, Bool.or_self, cond_false]
        have r1 := setAt_right hs h1.2
        have r2 := setAt_right hs h2.2
        obtain ⟨c1, e1, q1⟩ := spans_Right_eq (setAt_len hl hs m) r1.sp64
        obtain ⟨c2, e2, q2⟩ := spans_Right_eq (setAt_len hl hs M) r2.sp64
        have hc1 := q1.2 r1
        have hc2 := q2.2 r2
        subst hc1 hc2
        rw [e1, e2]
        simp only [Option.bind_some, cond_true]
        by_cases he : m = M
        · obtain ⟨c3, e3, q3⟩ := spans_Same_eq (b := setAt f M) (setAt_len hl hs m)
          have hc3 := q3.2 (by rw [he])
          subst hc3
          rw [beq_t he, e3]; rfl
        · obtain ⟨c3, e3, q3⟩ := spans_Ahead_eq (b := setAt f M) (setAt_len hl hs m)
          have hc3 : c3 = true := q3.2 (by
            by_cases n1 : setAt f m = []
            · rw [n1]; exact aheadL_nil_l _
            · by_cases n2 : setAt f M = []
              · rw [n2]; exact aheadL_nil_r _
              · exact (aheadL_iff n1 n2).2 (hr.order hl _ m M rfl (by omega) h1.1 h2.1 h1.2 h2.2 n1 n2))
          subst hc3
          rw [beq_f he, dec_t (show m < M by omega), e3]; rfl
      · rw [if_pos h1, if_neg h2]; rfl
    · by_cases h2 : tickP M ∧ fits f M
      · rw [if_neg h1, if_pos h2]; rfl
      · rw [if_neg h1, if_neg h2]; rfl

/-! ### FormTurns -/
open Classical in
theorem law_odd_eq {f : Form} (hl : Lim f) (i : Int) : epactlaw05_odd f i = some (decide (isOdd f i)) := by
  have holen := len_lt (b := 31) hl.odd
  unfold epactlaw05_odd
  rcases all_loop (l := f.Odd) (step := epactlaw05_odd.s0 f i) (fun _ g => g.Index ≠ i) (no := .ret true) (yes := .go ()) (fun k g hk _ => by
      obtain ⟨q1, q2⟩ := nat_at hk
      unfold epactlaw05_odd.s0
      rw [dec_t q2, cond_true, q1, w64_id (by omega)]
      simp only [Option.bind_some]
      by_cases h : g.Index = i
      · rw [beq_t h]; exact .inr ⟨rfl, fun h' => h' h⟩
      · rw [beq_f h]; exact .inl ⟨rfl, h⟩) (by unfold epactlaw05_odd.s0; rw [dec_f (by omega)]; rfl) with ⟨q1, q2⟩ | ⟨q1, q2⟩
  · rw [q1, dec_f (by rintro ⟨g, hg, he⟩; obtain ⟨k, hk⟩ := List.getElem?_of_mem hg; exact q2 k g hk he)]; rfl
  · rw [q1, dec_t (by
      apply Classical.byContradiction
      intro h
      exact q2 fun k g hk he => h ⟨g, List.mem_of_getElem? hk, he⟩)]; rfl

open Classical in
theorem formTurns_true (f : Form) (i : Int) (hf : f.ok) (hi : okI .i32 i) : epactlaw05_FormTurns f i = some true := by
  have hl := Form.lim hf
  rw [okI_i32] at hi
  unfold epactlaw05_FormTurns
  obtain ⟨b, hb, hbr⟩ := epactlaw05_right_eq hl
  rw [hb]
  simp only [Option.bind_some]
  cases b with
  | false => rfl
  | true =>
    obtain ⟨hsm, hr⟩ := hbr.1 rfl
    have hs := hr.shape
    by_cases h0 : f.Count = 0
    · rw [beq_t h0]; rfl
    rw [beq_f h0]
    simp only [Bool.not_true, Bool.or_self, cond_false, w64_id (show -9223372036854775808 ≤ i ∧ i ≤ 9223372036854775807 by omega)]
    have hk : -1048576 < i.tmod 1048576 ∧ i.tmod 1048576 < 1048576 := by
      have := Int.natAbs_tmod i 1048576
      have : (i.tmod 1048576).natAbs < 1048576 := by rw [this]; exact Nat.mod_lt _ (by decide)
      omega
    generalize i.tmod 1048576 = k at hk
    have hc1 := hs.count
    have hc2 := hsm.1
    have hp := core_pos hs h0
    rw [w64_id (x := k + f.Count) (by omega), law_odd_eq hl, law_odd_eq hl]
    simp only [Option.bind_some]
    by_cases ho : isOdd f k
    · rw [dec_t ho]; rfl
    rw [dec_f ho]
    simp only [cond_false]
    by_cases ho' : isOdd f (k + f.Count)
    · rw [dec_t ho']; rfl
    rw [dec_f ho', Option.bind_some, cond_false]
    rw [gran_Get_eq hl hs (i := k) (by unfold In64; omega), gran_Get_eq hl hs (i := k + f.Count) (by unfold In64; omega)]
    simp only [Option.bind_some]
    by_cases h1 : tickP k ∧ fits f k
    · by_cases h2 : tickP (k + f.Count) ∧ fits f (k + f.Count)
      · rw [if_pos h1, if_pos h2]
        simp only [bne_self_eq_false, Bool.or_self, cond_false]
        have e1 : coreAt f (k + f.Count) = coreAt f k := by unfold coreAt; rw [Int.add_emod_right]
        have e2 : perAt f (k + f.Count) = perAt f k + f.Period := by
          unfold perAt
          rw [Int.add_ediv_of_dvd_right (Int.dvd_refl _), Int.ediv_self h0, Int.add_mul, Int.one_mul]
        have e3 : setAt f (k + f.Count) = (setAt f k).map (shiftS f.Period) := by
          rw [setAt_core ho' h0, setAt_core ho h0, e1, e2, List.map_map]
          congr 1
          funext s
          simp only [shiftS, Function.comp]
          congr 1 <;> omega
        have hper := hs.per
        rcases spans_Move_eq (b := f.Period) (setAt_len hl hs k) (setAt_right hs h1.2).sp64 (by unfold In64; omega) with ⟨_, h4⟩ | ⟨h3, _⟩
        · rw [h4]
          simp only [Option.bind_some, beq_self_eq_true, cond_true]
          obtain ⟨c, q1, q2⟩ := spans_Same_eq (a := (setAt f k).map (shiftS f.Period)) (b := setAt f (k + f.Count)) (by rw [← e3]; exact setAt_len hl hs _)
          have := q2.2 e3.symm
          subst this
          rw [q1]; rfl
        · refine absurd (fun s hsm => ?_) h3
          have := h2.2 (shiftS f.Period s) (by rw [e3]; exact List.mem_map.2 ⟨s, hsm, rfl⟩)
          exact this
      · rw [if_pos h1, if_neg h2]; rfl
    · by_cases h2 : tickP (k + f.Count) ∧ fits f (k + f.Count)
      · rw [if_neg h1, if_pos h2]; rfl
      · rw [if_neg h1, if_neg h2]; rfl

end Go.Dn
