/- Part 6 of what the row stands on. -/
import Derived.Test.YtliohipholncpaaM5
set_option linter.unusedVariables false
set_option linter.unusedSimpArgs false
namespace Go.Dn
open Go

theorem size_odd_eq {g : Form} {sp : List size_spot} (hl : Lim g) (hs : Shape g) (i : Int) : ∃ n, size_form_odd ⟨g, sp⟩ i = some n ∧ (0 ≤ n ↔ isOdd g i) := by
 obtain ⟨p, h1, h2, h3⟩ := bsearch_eq (t := i) hl.odd hs.inc
 have e : slices_BinarySearchFunc_SGranule_Granule_int g.Odd i (fun z0 z1 => some (size_form_odd_1 z0 z1)) = some ((p : Int), decide (∃ x, g.Odd[p]? = some x ∧ x.Index = i)) := h3
 unfold size_form_odd
 simp only
 rw [e]
 simp only [Option.bind_some]
 by_cases hx : ∃ x, g.Odd[p]? = some x ∧ x.Index = i
 ·rw [dec_t hx]
  refine ⟨(p : Int), rfl, fun _ => ?_, fun _ => by omega⟩
  obtain ⟨x, e1, e2⟩ := hx
  exact ⟨x, List.mem_of_getElem? e1, e2⟩
 ·rw [dec_f hx]
  refine ⟨-1, rfl, fun h => by omega, ?_⟩
  rintro ⟨x, hx1, hx2⟩
  obtain ⟨k, hk⟩ := List.getElem?_of_mem hx1
  exfalso
  have hkp := h2 k x hk
  by_cases hkk : k = p
  ·subst hkk; exact hx ⟨x, hk, hx2⟩
  ·have : p < k := by omega
   have hlt := (List.getElem?_eq_some_iff.1 hk).1
   have hp : g.Odd[p]? = some (g.Odd[p]'(by omega)) := List.getElem?_eq_getElem (by omega)
   have q1 := h2 p _ hp
   have q2 := hs.inc p k _ x this hp hk
   omega

theorem has_eq {g : Form} {sp : List size_spot} (hl : Lim g) (hs : Shape g) (h0 : 0 < g.Count) {i : Int} (hi : In64 i) : size_form_has ⟨g, sp⟩ i = some (decide (cs g i ≠ [])) := by
 unfold size_form_has
 simp only
 rw [safe_Floor_eq hi hl.count, floorS_pos h0]
 simp only [Option.bind_some]
 rw [(coreAt_get hs (by omega) i).1]
 simp only [Option.bind_some, Option.some.injEq, decide_eq_decide]
 unfold cs
 rw [ne_eq, List.map_eq_nil_iff]
 constructor
 ·intro h hn; rw [hn] at h; simp at h
 ·intro h; have := List.length_pos_iff.2 h; omega

theorem setAt_cs {g : Form} (h0 : 0 < g.Count) {i : Int} (h : ¬ isOdd g i) : setAt g i = cs g i := by rw [setAt_csz h, csz_pos h0]

def byU (up : Bool) : Int := if up then 1 else -1
def sgU (up : Bool) : Int := if up then -1 else 1

theorem sg_w (up : Bool) {x : Int} (h : -4611686018427387904 ≤ x ∧ x ≤ 4611686018427387904) : w64 (w64 (0 - byU up) * x) = sgU up * x := by
 cases up
 ·show w64 (w64 (0 - (-1)) * x) = 1 * x
  rw [show w64 (0 - (-1)) = 1 from rfl, w64_id (by omega)]
 ·show w64 (w64 (0 - 1) * x) = -1 * x
  rw [show w64 (0 - 1) = -1 from rfl, w64_id (by omega)]
open Classical in
theorem walk_eq {g : Form} {sp : List size_spot} (h : Fit g) (h0 : 0 < g.Count) (hb : ¬ Bare g) (up : Bool) {i0 : Int} (hi : -211106232532992 ≤ i0 ∧ i0 ≤ 211106232532992) :
  ∃ i, loopO (size_form_reach.s0 ⟨g, sp⟩ (byU up)) i0 = some i ∧ ¬ isOdd g i ∧ cs g i ≠ [] ∧ (if up then i0 ≤ i else i ≤ i0) ∧ -211106232533992 ≤ i ∧ i ≤ 211106232533992 ∧
   ∀ k, (if up then i0 ≤ k ∧ k < i else i < k ∧ k ≤ i0) → isOdd g k ∨ cs g k = [] := by
 have hs := h.shape
 have hcnt := hs.count
 have hfew := h.few
 obtain ⟨j, j1, j2, j3, j4⟩ := free_core hs hb h0 h.odds (if up then i0 else i0 - g.Count * 9 + 1)
 rw [setAt_cs h0 j3] at j4
 have hj : if up then i0 ≤ j ∧ j < i0 + 108 else j ≤ i0 ∧ i0 < j + 108 := by
  cases up
  ·simp only [Bool.false_eq_true, if_false] at j1 j2 ⊢; omega
  ·simp only [if_true] at j1 j2 ⊢; omega
 obtain ⟨r, q1, q2⟩ := loopO_inv (step := size_form_reach.s0 ⟨g, sp⟩ (byU up))
  (fun i => (if up then i0 ≤ i ∧ i ≤ j else j ≤ i ∧ i ≤ i0) ∧ ∀ k, (if up then i0 ≤ k ∧ k < i else i < k ∧ k ≤ i0) → isOdd g k ∨ cs g k = [])
  (fun i => (if up then j - i else i - j).toNat)
  (fun i => (if up then i0 ≤ i ∧ i ≤ j else j ≤ i ∧ i ≤ i0) ∧ ¬ isOdd g i ∧ cs g i ≠ [] ∧ ∀ k, (if up then i0 ≤ k ∧ k < i else i < k ∧ k ≤ i0) → isOdd g k ∨ cs g k = []) (by
   rintro i ⟨a1, a2⟩
   have hi64 : -211106232533992 ≤ i ∧ i ≤ 211106232533992 := by
    cases up
    ·simp only [Bool.false_eq_true, if_false] at a1 hj; omega
    ·simp only [if_true] at a1 hj; omega
   unfold size_form_reach.s0
   obtain ⟨n, n1, n2⟩ := size_odd_eq (sp := sp) h.lim hs i
   rw [n1]
   simp only [Option.bind_some]
   rw [has_eq h.lim hs h0 (by unfold In64; omega)]
   simp only [Option.bind_some]
   have hc : (bif decide (n ≥ 0) then some true else some (!decide (cs g i ≠ []))) = some (decide (isOdd g i ∨ cs g i = [])) := by
    by_cases ho : isOdd g i
    ·rw [dec_t (n2.2 ho), cond_true, dec_t (.inl ho)]
    ·rw [dec_f (p := n ≥ 0) (fun h => ho (n2.1 h)), cond_false]
     by_cases he : cs g i = []
     ·rw [dec_t (p := isOdd g i ∨ cs g i = []) (.inr he), dec_f (p := cs g i ≠ []) (fun h => h he)]; rfl
     ·rw [dec_f (p := isOdd g i ∨ cs g i = []) (fun h => h.elim ho he), dec_t (p := cs g i ≠ []) he]; rfl
   rw [hc]
   simp only [Option.bind_some]
   by_cases hk : isOdd g i ∨ cs g i = []
   ·left
    rw [dec_t hk, cond_true]
    have hij : i ≠ j := by
     rintro rfl
     exact hk.elim j3 j4
    have hw : w64 (i + byU up) = i + byU up := w64_id (by unfold byU; cases up <;> simp <;> omega)
    rw [hw]
    refine ⟨_, rfl, ⟨?_, ?_⟩, ?_⟩
    ·unfold byU
     cases up
     ·simp only [Bool.false_eq_true, if_false] at a1 ⊢; omega
     ·simp only [if_true] at a1 ⊢; omega
    ·intro k hkk
     by_cases hki : k = i
     ·subst hki; exact hk
     ·apply a2
      unfold byU at hkk
      cases up
      ·simp only [Bool.false_eq_true, if_false] at hkk ⊢; omega
      ·simp only [if_true] at hkk ⊢; omega
    ·unfold byU
     cases up
     ·simp only [Bool.false_eq_true, if_false] at a1 ⊢; omega
     ·simp only [if_true] at a1 ⊢; omega
   ·right
    rw [dec_f hk, cond_false]
    exact ⟨_, rfl, a1, fun ho => hk (.inl ho), fun he => hk (.inr he), a2⟩) i0 ⟨by
     cases up
     ·simp only [Bool.false_eq_true, if_false] at hj ⊢; omega
     ·simp only [if_true] at hj ⊢; omega, fun k hk => by
     cases up
     ·simp only [Bool.false_eq_true, if_false] at hk; omega
     ·simp only [if_true] at hk; omega⟩
 refine ⟨r, q1, q2.2.1, q2.2.2.1, ?_, ?_, ?_, q2.2.2.2⟩ <;> have := q2.1 <;> cases up <;> simp only [Bool.false_eq_true, if_false, if_true] at this hj ⊢ <;> omega

def AtP (g : Form) (up : Bool) (t i : Int) : Prop := setAt g i ≠ [] ∧ (if up then t ≤ lstT (setAt g i) else fstT (setAt g i) ≤ t)

theorem hull_cond {l : List Span} {up : Bool} {t : Int} (hl : Len l) : ∃ x : Span × Bool, spans_Hull l = some x ∧ (x.2 && ((up && (decide (x.1.To ≥ t))) || ((!up) && (decide (x.1.From ≤ t))))) = decide (l ≠ [] ∧ (if up then t ≤ lstT l else fstT l ≤ t)) := by
 refine ⟨_, hull_eq hl, ?_⟩
 by_cases h : l = []
 ·rw [if_pos h]; simp [h]
 ·rw [if_neg h]
  cases up <;> simp [h]

open Classical in
theorem reach_loop {g : Form} {sp : List size_spot} (h : Fit g) (up : Bool) (t : Int) {b : Int × Bool} {S : Int → Prop} (hB : Best S b) :
  ∃ r, loopO (size_form_reach.s2 ⟨g, sp⟩ t up (byU up)) (0, b.1, b.2) = some r ∧ Best (fun m => S m ∨ ∃ i, isOdd g i ∧ AtP g up t i ∧ m = sgU up * i) r := by
 have hs := h.shape
 have hl := h.lim
 have hodd := h.odds
 obtain ⟨r, q1, q2⟩ := loopO_inv (step := size_form_reach.s2 ⟨g, sp⟩ t up (byU up))
  (fun s => ∃ (k : Nat) (c : Int × Bool), k ≤ g.Odd.length ∧ s = ((k : Int), c.1, c.2) ∧ Best (fun m => S m ∨ ∃ x ∈ g.Odd.take k, AtP g up t x.Index ∧ m = sgU up * x.Index) c)
  (fun s => g.Odd.length - s.1.toNat)
  (fun r => Best (fun m => S m ∨ ∃ i, isOdd g i ∧ AtP g up t i ∧ m = sgU up * i) r) (by
   rintro s ⟨k, c, hk, rfl, hc⟩
   unfold size_form_reach.s2
   simp only
   by_cases hlt : k < g.Odd.length
   ·left
    have hm := List.getElem_mem hlt
    have htk : g.Odd.take (k + 1) = g.Odd.take k ++ [g.Odd[k]] := (List.take_append_getElem hlt).symm
    rw [dec_t (show (k : Int) < g.Odd.length by omega), cond_true, at?_nat hlt]
    simp only [Option.bind_some]
    obtain ⟨x, x1, x2⟩ := hull_cond (l := g.Odd[k].Ticks) (up := up) (t := t) (hl.ticks _ hm).2.1
    rw [x1]
    simp only [Option.bind_some]
    rw [x2]
    have hset : setAt g g.Odd[k].Index = g.Odd[k].Ticks := setAt_odd hs.inc hm
    have hat : (g.Odd[k].Ticks ≠ [] ∧ (if up then t ≤ lstT g.Odd[k].Ticks else fstT g.Odd[k].Ticks ≤ t)) ↔ AtP g up t g.Odd[k].Index := by unfold AtP; rw [hset]
    have ht := (hs.odd _ hm).2
    unfold tickP at ht
    by_cases hcnd : AtP g up t g.Odd[k].Index
    ·rw [dec_t (hat.2 hcnd), cond_true]
     have hw : w64 (w64 (0 - byU up) * g.Odd[k].Index) = sgU up * g.Odd[k].Index := sg_w up (by omega)
     rw [hw, put_size_form_reach_s3]
     simp only [Option.bind_some]
     rw [w64_id (by omega)]
     refine ⟨_, rfl, ⟨k + 1, putB c (sgU up * g.Odd[k].Index), hlt, by push_cast; rfl, ?_⟩, by simp only; omega⟩
     refine hc.put fun m => ?_
     rw [htk]
     constructor
     ·rintro (h1 | ⟨y, hy, h1, h2⟩)
      ·exact .inl (.inl h1)
      ·rcases List.mem_append.1 hy with h3 | h3
       ·exact .inl (.inr ⟨y, h3, h1, h2⟩)
       ·rw [List.mem_singleton] at h3; subst h3; exact .inr h2
     ·rintro ((h1 | ⟨y, hy, h1, h2⟩) | h1)
      ·exact .inl h1
      ·exact .inr ⟨y, List.mem_append_left _ hy, h1, h2⟩
      ·exact .inr ⟨_, List.mem_append_right _ (List.mem_singleton.2 rfl), hcnd, h1⟩
    ·rw [dec_f (fun h => hcnd (hat.1 h)), cond_false]
     simp only [Option.bind_some]
     rw [w64_id (by omega)]
     refine ⟨_, rfl, ⟨k + 1, c, hlt, by push_cast; rfl, ?_⟩, by simp only; omega⟩
     refine hc.congr fun m => ?_
     rw [htk]
     constructor
     ·rintro (h1 | ⟨y, hy, h1, h2⟩)
      ·exact .inl h1
      ·rcases List.mem_append.1 hy with h3 | h3
       ·exact .inr ⟨y, h3, h1, h2⟩
       ·rw [List.mem_singleton] at h3; subst h3; exact absurd h1 hcnd
     ·rintro (h1 | ⟨y, hy, h1, h2⟩)
      ·exact .inl h1
      ·exact .inr ⟨y, List.mem_append_left _ hy, h1, h2⟩
   ·right
    obtain rfl : k = g.Odd.length := by omega
    rw [dec_f (by omega), cond_false]
    rw [List.take_length] at hc
    refine ⟨_, rfl, hc.congr fun m => ?_⟩
    constructor
    ·rintro (h1 | ⟨i, ⟨x, hx, rfl⟩, h1, h2⟩)
     ·exact .inl h1
     ·exact .inr ⟨x, hx, h1, h2⟩
    ·rintro (h1 | ⟨x, hx, h1, h2⟩)
     ·exact .inl h1
     ·exact .inr ⟨_, ⟨x, hx, rfl⟩, h1, h2⟩) (0, b.1, b.2) ⟨0, b, Nat.zero_le _, rfl, hB.congr fun m => by simp⟩
 exact ⟨r, q1, q2⟩

theorem spots_ne {g : Form} (hs : Shape g) (h0 : 0 < g.Count) (hb : ¬ Bare g) : spotsOf g ≠ [] := by
 obtain ⟨i, i1, i2, i3⟩ := cs_some hs hb h0 0
 obtain ⟨s, s1, s2⟩ := (spots_ok hs).all i i1 (by omega) i3
 exact List.ne_nil_of_mem s1

theorem sg_sg (up : Bool) (n : Int) : sgU up * (sgU up * n) = n := by unfold sgU; cases up <;> simp

theorem reach_size {g : Form} (h : Fit g) (hb : 0 < g.Count → ¬ Bare g) {t : Int} (ht : BigT t) (up : Bool) :
  ∃ n b, size_form_reach ⟨g, spotsOf g⟩ t up = some (n, b) ∧ Best (fun m => ∃ i, AtP g up t i ∧ m = sgU up * i) (sgU up * n, b) ∧ -300000000000000 ≤ n ∧ n ≤ 300000000000000 := by
 have hs := h.shape
 have hby : (bif up then some (1 : Int) else some (-1)) = some (byU up) := by unfold byU; cases up <;> rfl
 unfold size_form_reach
 rw [hby]
 simp only [Option.bind_some]
 have key : ∃ b : Int × Bool, (bif (decide (g.Count > 0)) then
   (size_form_core ⟨g, spotsOf g⟩ t up).bind fun x1 =>
   (loopO (size_form_reach.s0 ⟨g, spotsOf g⟩ (byU up)) x1).bind fun (y3 : Int) =>
   (
    (loopO (size_form_reach.s1) (([(w64 ((w64 (0 - (byU up))) * y3))].length : Int), 0, [(w64 ((w64 (0 - (byU up))) * y3))], 0, false)).bind fun (y6 : (List Int) × Int × Bool) =>
    some (y6.1, y6.2.1, y6.2.2)).bind fun (y5 : (List Int) × Int × Bool) =>
   some (y5.2.1, y5.2.2)
  else
   some (0, false)) = some b ∧ Best (fun m => ∃ i, ¬ isOdd g i ∧ AtP g up t i ∧ m = sgU up * i) b ∧ (b.2 = true → -211106232533992 ≤ b.1 ∧ b.1 ≤ 211106232533992) := by
  by_cases h0 : 0 < g.Count
  ·rw [dec_t h0, cond_true]
   have hsp := spots_ok hs
   have hn := spots_ne hs h0 (hb h0)
   have hln : (spotsOf g).length ≤ 12 := Nat.le_trans (spotsUp_len g _) h.few
   have hcore : ∃ i0, size_form_core ⟨g, spotsOf g⟩ t up = some i0 ∧ (if up then FirstC g t i0 else LastC g t i0) ∧ -211106232532992 ≤ i0 ∧ i0 ≤ 211106232532992 := by
    cases up
    ·obtain ⟨i, e1, e2, e3⟩ := core_down_eq h h0 hsp hn hln ht
     exact ⟨i, e1, by simpa using e2, e3⟩
    ·obtain ⟨i, e1, e2, e3⟩ := core_up_eq h h0 hsp hn hln ht
     exact ⟨i, e1, by simpa using e2, e3⟩
   obtain ⟨i0, c1, c2, c3⟩ := hcore
   obtain ⟨i, w1, w2, w3, w4, w5, w6, w7⟩ := walk_eq (sp := spotsOf g) h h0 (hb h0) up c3
   rw [c1]
   simp only [Option.bind_some]
   rw [w1]
   simp only [Option.bind_some]
   have hw : w64 (w64 (0 - byU up) * i) = sgU up * i := sg_w up (by omega)
   rw [hw, put_size_form_reach_s1]
   simp only [Option.bind_some]
   refine ⟨_, rfl, ?_, ?_⟩
   ·show Best _ (sgU up * i, true)
    refine ⟨fun _ => ⟨⟨i, w2, ?_, rfl⟩, ?_⟩, fun h => by cases h⟩
    ·unfold AtP
     rw [setAt_cs h0 w2]
     refine ⟨w3, ?_⟩
     cases up
     ·simp only [Bool.false_eq_true, if_false] at c2 w4 ⊢
      by_cases hii : i = i0
      ·rw [hii]; exact c2.2.1
      ·have o1 := cs_order hs h.turns h0 (show i < i0 by omega) w3 c2.1
       obtain ⟨j, q, j0, j1, jk, ej⟩ := turn_split h0 i
       have hjn : cs g j ≠ [] := fun hh => w3 (by rw [ej, hh]; rfl)
       have o2 := fst_le_lst (cs_right hs h0 j0 j1) hjn
       have o3 := lst_shift (q * g.Period) hjn
       rw [← ej] at o3
       have := c2.2.1
       omega
     ·simp only [if_true] at c2 w4 ⊢
      by_cases hii : i = i0
      ·rw [hii]; exact c2.2.1
      ·have o1 := cs_order hs h.turns h0 (show i0 < i by omega) c2.1 w3
       obtain ⟨j, q, j0, j1, jk, ej⟩ := turn_split h0 i
       have hjn : cs g j ≠ [] := fun hh => w3 (by rw [ej, hh]; rfl)
       have o2 := fst_le_lst (cs_right hs h0 j0 j1) hjn
       have o3 := lst_shift (q * g.Period) hjn
       rw [← ej] at o3
       have := c2.2.1
       omega
    ·rintro m ⟨k, k1, k2, rfl⟩
     unfold AtP at k2
     rw [setAt_cs h0 k1] at k2
     cases up
     ·simp only [Bool.false_eq_true, if_false, sgU] at c2 w7 k2 ⊢
      by_cases hki : k ≤ i
      ·omega
      ·exfalso
       by_cases hk0 : k ≤ i0
       ·rcases w7 k ⟨by omega, hk0⟩ with h1 | h1
        ·exact k1 h1
        ·exact k2.1 h1
       ·have := c2.2.2 k (by omega) k2.1
        omega
     ·simp only [if_true, sgU] at c2 w7 k2 ⊢
      by_cases hki : i ≤ k
      ·omega
      ·exfalso
       by_cases hk0 : i0 ≤ k
       ·rcases w7 k ⟨hk0, by omega⟩ with h1 | h1
        ·exact k1 h1
        ·exact k2.1 h1
       ·have := c2.2.2 k (by omega) k2.1
        omega
   ·intro _
    show -211106232533992 ≤ sgU up * i ∧ sgU up * i ≤ 211106232533992
    unfold sgU
    cases up <;> simp only [Bool.false_eq_true, if_false, if_true] <;> omega
  ·rw [dec_f h0, cond_false]
   refine ⟨_, rfl, Best.none ?_, fun h => by cases h⟩
   rintro n ⟨i, i1, i2, rfl⟩
   exact i2.1 (setAt_none i1 (by have := hs.count; omega))
 obtain ⟨b, k1, k2, k3⟩ := key
 rw [k1]
 simp only [Option.bind_some]
 obtain ⟨r, r1, r2⟩ := reach_loop (sp := spotsOf g) h up t k2
 rw [r1]
 simp only [Option.bind_some]
 have hB : Best (fun m => ∃ i, AtP g up t i ∧ m = sgU up * i) r := r2.congr fun m => by
  constructor
  ·rintro ⟨i, i1, i2⟩
   by_cases ho : isOdd g i
   ·exact .inr ⟨i, ho, i1, i2⟩
   ·exact .inl ⟨i, ho, i1, i2⟩
  ·rintro (⟨i, i1, i2, i3⟩ | ⟨i, i1, i2, i3⟩)
   ·exact ⟨i, i2, i3⟩
   ·exact ⟨i, i2, i3⟩
 have hrb : -211106232533992 ≤ r.1 ∧ r.1 ≤ 211106232533992 := by
  cases hr : r.2 with
  | false => have := (r2.no hr).1; omega
  | true =>
   rcases (r2.yes hr).1 with h1 | ⟨i, ⟨x, hx, rfl⟩, i2, i3⟩
   ·cases hbb : b.2 with
    | false => exact absurd h1 ((k2.no hbb).2 _)
    | true =>
     have e1 := (k2.yes hbb).2 _ h1
     have e2 := (r2.yes hr).2 _ (.inl (k2.yes hbb).1)
     have := k3 hbb
     omega
   ·have := (hs.odd x hx).2
    unfold tickP at this
    rw [i3]
    unfold sgU
    cases up <;> simp only [Bool.false_eq_true, if_false, if_true] <;> omega
 have hw : w64 (w64 (0 - byU up) * r.1) = sgU up * r.1 := sg_w up (by omega)
 rw [hw]
 refine ⟨sgU up * r.1, r.2, rfl, ?_, ?_⟩
 ·rw [sg_sg]; exact hB
 ·unfold sgU
  cases up <;> simp only [Bool.false_eq_true, if_false, if_true] <;> omega

end Go.Dn

set_option linter.unusedVariables false
set_option linter.unusedSimpArgs false
namespace Go.Dn
open Go

def CoreP (g : Form) (up : Bool) (d i j : Int) : Prop := cs g i ≠ [] ∧ cs g j ≠ [] ∧ (if up then d ≤ lstT (cs g j) - fstT (cs g i) else fstT (cs g j) - lstT (cs g i) ≤ d)
def PairP (g : Form) (up : Bool) (d i j : Int) : Prop := setAt g i ≠ [] ∧ setAt g j ≠ [] ∧ (if up then d ≤ lstT (setAt g j) - fstT (setAt g i) else fstT (setAt g j) - lstT (setAt g i) ≤ d)

def BigI (n : Int) : Prop := -600000000000000 ≤ n ∧ n ≤ 600000000000000
theorem putB_big {b : Int × Bool} {n : Int} (hb : BigI b.1) (hn : BigI n) : BigI (putB b n).1 := by
 unfold putB; split
 ·exact hn
 ·exact hb
theorem sg_big {up : Bool} {n : Int} (h : BigI n) : BigI (sgU up * n) := by unfold BigI sgU at *; cases up <;> simp <;> omega
theorem Best.join {S W S' : Int → Prop} {b : Int × Bool} {m0 : Int} (h : Best S b) (hm : W m0) (hall : ∀ n, W n → n ≤ m0) (hS : ∀ m, S' m ↔ S m ∨ W m) : Best S' (putB b m0) := by
 have h1 := h.put (S' := fun m => S m ∨ m = m0) (n := m0) (fun m => Iff.rfl)
 refine ⟨fun hb => ⟨(hS _).2 ?_, fun n hn => ?_⟩, fun hb => ⟨(h1.no hb).1, fun n hn => ?_⟩⟩
 ·rcases (h1.yes hb).1 with h2 | h2
  ·exact .inl h2
  ·rw [h2]; exact .inr hm
 ·rcases (hS n).1 hn with h2 | h2
  ·exact (h1.yes hb).2 n (.inl h2)
  ·exact Int.le_trans (hall n h2) ((h1.yes hb).2 m0 (.inr rfl))
 ·exact (h1.no hb).2 m0 (.inr rfl)

theorem sgw2 (up : Bool) {x : Int} (h : BigI x) : w64 (sgU up * w64 x) = sgU up * x := by
 unfold BigI at h
 rw [w64_id (x := x) (by omega), w64_id]
 unfold sgU; cases up <;> simp <;> omega
theorem sg_le {up : Bool} {i n x : Int} (h : sgU up * i ≤ sgU up * n) : sgU up * (i - x) ≤ sgU up * (n - x) := by rw [Int.mul_sub, Int.mul_sub]; omega

theorem far_spots {g : Form} (h : Fit g) (hb : 0 < g.Count → ¬ Bare g) {d : Int} (hd : tickP d) (up : Bool) :
  ∃ r, loopO (size_far.s0 d up ⟨g, spotsOf g⟩ (sgU up)) (0, 0, false) = some r ∧ BigI r.1 ∧ Best (fun m => ∃ i j, 0 ≤ i ∧ i < g.Count ∧ CoreP g up d i j ∧ m = sgU up * (j - i)) r := by
 have hs := h.shape
 have hcnt := hs.count
 have hfew := h.few
 have hsp := spots_ok hs
 have hln : (spotsOf g).length ≤ 12 := Nat.le_trans (spotsUp_len g _) h.few
 generalize spotsOf g = sp at *
 obtain ⟨r, q1, q2⟩ := loopO_inv (step := size_far.s0 d up ⟨g, sp⟩ (sgU up))
  (fun s => ∃ (k : Nat) (c : Int × Bool), k ≤ sp.length ∧ s = ((k : Int), c.1, c.2) ∧ BigI c.1 ∧ Best (fun m => ∃ x ∈ sp.take k, ∃ j, CoreP g up d x.index j ∧ m = sgU up * (j - x.index)) c)
  (fun s => sp.length - s.1.toNat)
  (fun r => BigI r.1 ∧ Best (fun m => ∃ i j, 0 ≤ i ∧ i < g.Count ∧ CoreP g up d i j ∧ m = sgU up * (j - i)) r) (by
   rintro s ⟨k, c, hk, rfl, hcb, hc⟩
   unfold size_far.s0
   simp only
   by_cases hlt : k < sp.length
   ·left
    have hm := List.getElem_mem hlt
    have htk : sp.take (k + 1) = sp.take k ++ [sp[k]] := (List.take_append_getElem hlt).symm
    obtain ⟨b1, b2, b3, b4, b5⟩ := hsp.mem _ hm
    have h0 : 0 < g.Count := by omega
    have rx := lst_tick (cs_right hs h0 b1 b2) b3
    rw [← b4, ← b5] at rx
    unfold tickP at rx hd
    rw [dec_t (show (k : Int) < sp.length by omega), cond_true, at?_nat hlt]
    simp only [Option.bind_some]
    have hy : (bif up then some sp[k].place.first else some sp[k].place.last) = some (if up then sp[k].place.first else sp[k].place.last) := by cases up <;> rfl
    rw [hy]
    simp only [Option.bind_some]
    have hyb : -1099511627776 ≤ (if up then sp[k].place.first else sp[k].place.last) ∧ (if up then sp[k].place.first else sp[k].place.last) ≤ 1099511627776 := by split <;> omega
    have hye : (if up then sp[k].place.first else sp[k].place.last) = if up then fstT (cs g sp[k].index) else lstT (cs g sp[k].index) := by rw [b4, b5]
    generalize (if up then sp[k].place.first else sp[k].place.last) = y at *
    rw [w64_id (x := y + d) (by omega)]
    have hn : sp ≠ [] := List.ne_nil_of_mem hm
    have hcore : ∃ i0, size_form_core ⟨g, sp⟩ (y + d) up = some i0 ∧ (if up then FirstC g (y + d) i0 else LastC g (y + d) i0) ∧ -211106232532992 ≤ i0 ∧ i0 ≤ 211106232532992 := by
     cases up
     ·obtain ⟨i, e1, e2, e3⟩ := core_down_eq h h0 hsp hn hln (t := y + d) (by unfold BigT; omega)
      exact ⟨i, e1, by simpa using e2, e3⟩
     ·obtain ⟨i, e1, e2, e3⟩ := core_up_eq h h0 hsp hn hln (t := y + d) (by unfold BigT; omega)
      exact ⟨i, e1, by simpa using e2, e3⟩
    obtain ⟨i0, c1, c2, c3⟩ := hcore
    rw [c1]
    simp only [Option.bind_some]
    have hbi : BigI (i0 - sp[k].index) := by unfold BigI; omega
    rw [sgw2 up hbi, put_size_far_s1]
    simp only [Option.bind_some]
    rw [w64_id (by omega)]
    refine ⟨_, rfl, ⟨k + 1, putB c (sgU up * (i0 - sp[k].index)), hlt, by push_cast; rfl, putB_big hcb (sg_big hbi), ?_⟩, by simp only; omega⟩
    refine hc.join (W := fun m => ∃ j, CoreP g up d sp[k].index j ∧ m = sgU up * (j - sp[k].index)) ?_ ?_ ?_
    ·refine ⟨i0, ⟨b3, ?_⟩, rfl⟩
     cases up
     ·simp only [Bool.false_eq_true, if_false] at c2 hye ⊢
      exact ⟨c2.1, by have := c2.2.1; omega⟩
     ·simp only [if_true] at c2 hye ⊢
      exact ⟨c2.1, by have := c2.2.1; omega⟩
    ·rintro n ⟨j, j1, rfl⟩
     apply sg_le
     cases up
     ·simp only [Bool.false_eq_true, if_false, sgU] at c2 hye ⊢
      by_cases hji : j ≤ i0
      ·omega
      ·have := c2.2.2 j (by omega) j1.2.1
       have j2 := j1.2.2
       simp only [Bool.false_eq_true, if_false] at j2
       omega
     ·simp only [if_true, sgU] at c2 hye ⊢
      by_cases hji : i0 ≤ j
      ·omega
      ·have := c2.2.2 j (by omega) j1.2.1
       have j2 := j1.2.2
       simp only [if_true] at j2
       omega
    ·intro m
     rw [htk]
     constructor
     ·rintro ⟨x, hx, j, j1, j2⟩
      rcases List.mem_append.1 hx with h3 | h3
      ·exact .inl ⟨x, h3, j, j1, j2⟩
      ·rw [List.mem_singleton] at h3; subst h3; exact .inr ⟨j, j1, j2⟩
     ·rintro (⟨x, hx, j, j1, j2⟩ | ⟨j, j1, j2⟩)
      ·exact ⟨x, List.mem_append_left _ hx, j, j1, j2⟩
      ·exact ⟨_, List.mem_append_right _ (List.mem_singleton.2 rfl), j, j1, j2⟩
   ·right
    obtain rfl : k = sp.length := by omega
    rw [dec_f (by omega), cond_false]
    rw [List.take_length] at hc
    refine ⟨_, rfl, hcb, hc.congr fun m => ?_⟩
    constructor
    ·rintro ⟨i, j, i0, i1, hp, e⟩
     obtain ⟨x, hx, rfl⟩ := hsp.all i i0 i1 hp.1
     exact ⟨x, hx, j, hp, e⟩
    ·rintro ⟨x, hx, j, hp, e⟩
     obtain ⟨b1, b2, _⟩ := hsp.mem x hx
     exact ⟨x.index, j, b1, b2, hp, e⟩) (0, 0, false) ⟨0, (0, false), Nat.zero_le _, rfl, by unfold BigI; simp, Best.none (by simp)⟩
 exact ⟨r, q1, q2⟩

theorem pair_at {g : Form} {up : Bool} {d i j : Int} : PairP g up d i j ↔ setAt g i ≠ [] ∧ AtP g up ((if up then fstT (setAt g i) else lstT (setAt g i)) + d) j := by
 unfold PairP AtP
 cases up
 ·simp only [Bool.false_eq_true, if_false]
  exact ⟨fun h => ⟨h.1, h.2.1, by omega⟩, fun h => ⟨h.1, h.2.1, by omega⟩⟩
 ·simp only [if_true]
  exact ⟨fun h => ⟨h.1, h.2.1, by omega⟩, fun h => ⟨h.1, h.2.1, by omega⟩⟩
theorem pair_to {g : Form} {up : Bool} {d i j : Int} : PairP g up d i j ↔ setAt g j ≠ [] ∧ AtP g (!up) ((if up then lstT (setAt g j) else fstT (setAt g j)) - d) i := by
 unfold PairP AtP
 cases up
 ·simp only [Bool.false_eq_true, if_false, Bool.not_false, if_true]
  exact ⟨fun h => ⟨h.2.1, h.1, by omega⟩, fun h => ⟨h.2.1, h.1, by omega⟩⟩
 ·simp only [if_true, Bool.not_true, Bool.false_eq_true, if_false]
  exact ⟨fun h => ⟨h.2.1, h.1, by omega⟩, fun h => ⟨h.2.1, h.1, by omega⟩⟩
theorem sg_not (up : Bool) (n : Int) : sgU (!up) * n = -(sgU up * n) := by unfold sgU; cases up <;> simp

theorem far_odds {g : Form} (h : Fit g) (hb : 0 < g.Count → ¬ Bare g) {d : Int} (hd : tickP d) (up : Bool) {b : Int × Bool} {S : Int → Prop} (hbb : BigI b.1) (hB : Best S b) :
  ∃ r, loopO (size_far.s2 d up ⟨g, spotsOf g⟩ (sgU up)) (0, b.1, b.2) = some r ∧ BigI r.1 ∧ Best (fun m => S m ∨ ∃ i j, (isOdd g i ∨ isOdd g j) ∧ PairP g up d i j ∧ m = sgU up * (j - i)) r := by
 have hs := h.shape
 have hl := h.lim
 have hodd := h.odds
 obtain ⟨r, q1, q2⟩ := loopO_inv (step := size_far.s2 d up ⟨g, spotsOf g⟩ (sgU up))
  (fun s => ∃ (k : Nat) (c : Int × Bool), k ≤ g.Odd.length ∧ s = ((k : Int), c.1, c.2) ∧ BigI c.1 ∧ Best (fun m => S m ∨ ∃ x ∈ g.Odd.take k, ∃ i j, (x.Index = i ∨ x.Index = j) ∧ PairP g up d i j ∧ m = sgU up * (j - i)) c)
  (fun s => g.Odd.length - s.1.toNat)
  (fun r => BigI r.1 ∧ Best (fun m => S m ∨ ∃ i j, (isOdd g i ∨ isOdd g j) ∧ PairP g up d i j ∧ m = sgU up * (j - i)) r) (by
   rintro s ⟨k, c, hk, rfl, hcb, hc⟩
   unfold size_far.s2
   simp only
   by_cases hlt : k < g.Odd.length
   ·left
    have hm := List.getElem_mem hlt
    have htk : g.Odd.take (k + 1) = g.Odd.take k ++ [g.Odd[k]] := (List.take_append_getElem hlt).symm
    have hset : setAt g g.Odd[k].Index = g.Odd[k].Ticks := setAt_odd hs.inc hm
    have hti := (hs.odd _ hm).2
    have hrt := (hs.odd _ hm).1
    rw [dec_t (show (k : Int) < g.Odd.length by omega), cond_true, at?_nat hlt]
    simp only [Option.bind_some]
    rw [hull_eq (hl.ticks _ hm).2.1]
    simp only [Option.bind_some]
    by_cases hne : g.Odd[k].Ticks = []
    ·rw [if_pos hne]
     simp only [Bool.not_false, cond_true, Option.bind_some, Jx.elim]
     rw [w64_id (by omega)]
     refine ⟨_, rfl, ⟨k + 1, c, hlt, by push_cast; rfl, hcb, ?_⟩, by simp only; omega⟩
     refine hc.congr fun m => ?_
     rw [htk]
     constructor
     ·rintro (h1 | ⟨x, hx, i, j, h1, h2, h3⟩)
      ·exact .inl h1
      ·rcases List.mem_append.1 hx with h4 | h4
       ·exact .inr ⟨x, h4, i, j, h1, h2, h3⟩
       ·rw [List.mem_singleton] at h4; subst h4
        rcases h1 with rfl | rfl
        ·exact absurd (hset.trans hne) h2.1
        ·exact absurd (hset.trans hne) h2.2.1
     ·rintro (h1 | ⟨x, hx, h1⟩)
      ·exact .inl h1
      ·exact .inr ⟨x, List.mem_append_left _ hx, h1⟩
    ·rw [if_neg hne]
     have rx := lst_tick hrt hne
     unfold tickP at rx hd hti
     simp only [Bool.not_true, cond_false]
     have hy : (bif up then some (lstT g.Odd[k].Ticks, fstT g.Odd[k].Ticks) else some (fstT g.Odd[k].Ticks, lstT g.Odd[k].Ticks)) = some ((if up then lstT g.Odd[k].Ticks else fstT g.Odd[k].Ticks), (if up then fstT g.Odd[k].Ticks else lstT g.Odd[k].Ticks)) := by cases up <;> rfl
     rw [hy]
     simp only [Option.bind_some]
     have hyb : -1099511627776 ≤ (if up then lstT g.Odd[k].Ticks else fstT g.Odd[k].Ticks) ∧ (if up then lstT g.Odd[k].Ticks else fstT g.Odd[k].Ticks) ≤ 1099511627776 := by split <;> omega
     have hzb : -1099511627776 ≤ (if up then fstT g.Odd[k].Ticks else lstT g.Odd[k].Ticks) ∧ (if up then fstT g.Odd[k].Ticks else lstT g.Odd[k].Ticks) ≤ 1099511627776 := by split <;> omega
     have pa : ∀ j, PairP g up d g.Odd[k].Index j ↔ AtP g up ((if up then fstT g.Odd[k].Ticks else lstT g.Odd[k].Ticks) + d) j := fun j => by
      rw [pair_at, hset]; exact ⟨fun h => h.2, fun h => ⟨hne, h⟩⟩
     have pt : ∀ i, PairP g up d i g.Odd[k].Index ↔ AtP g (!up) ((if up then lstT g.Odd[k].Ticks else fstT g.Odd[k].Ticks) - d) i := fun i => by
      rw [pair_to, hset]; exact ⟨fun h => h.2, fun h => ⟨hne, h⟩⟩
     generalize (if up then fstT g.Odd[k].Ticks else lstT g.Odd[k].Ticks) = z at *
     generalize (if up then lstT g.Odd[k].Ticks else fstT g.Odd[k].Ticks) = y at *
     rw [w64_id (x := z + d) (by omega), w64_id (x := y - d) (by omega)]
     obtain ⟨n1, p1, r1, t1, u1, v1⟩ := reach_size h hb (t := z + d) (by unfold BigT; omega) up
     obtain ⟨n2, p2, r2, t2, u2, v2⟩ := reach_size h hb (t := y - d) (by unfold BigT; omega) (!up)
     rw [r1, r2]
     simp only [Option.bind_some]
     have hb1 : BigI (n1 - g.Odd[k].Index) := by unfold BigI; omega
     have hb2 : BigI (g.Odd[k].Index - n2) := by unfold BigI; omega
     have first : ∃ c1 : Int × Bool, (bif p1 then
       (
        (loopO (size_far.s3) (([(w64 (sgU up * (w64 (n1 - g.Odd[k].Index))))].length : Int), 0, [(w64 (sgU up * (w64 (n1 - g.Odd[k].Index))))], c.1, c.2)).bind fun (y16 : (List Int) × Int × Bool) =>
        some (y16.1, y16.2.1, y16.2.2)).bind fun (y15 : (List Int) × Int × Bool) =>
       some (y15.2.1, y15.2.2)
      else
       some (c.1, c.2)) = some c1 ∧ BigI c1.1 ∧ Best (fun m => (S m ∨ ∃ x ∈ g.Odd.take k, ∃ i j, (x.Index = i ∨ x.Index = j) ∧ PairP g up d i j ∧ m = sgU up * (j - i)) ∨ ∃ j, PairP g up d g.Odd[k].Index j ∧ m = sgU up * (j - g.Odd[k].Index)) c1 := by
      cases hp : p1 with
      | true =>
       subst hp
       rw [cond_true, sgw2 up hb1, put_size_far_s3]
       obtain ⟨⟨i, i1, i2⟩, hall⟩ := t1.yes rfl
       have ei : i = n1 := by
        have := congrArg (fun x => sgU up * x) i2
        simp only [sg_sg] at this
        exact this.symm
       subst ei
       refine ⟨_, rfl, putB_big hcb (sg_big hb1), ?_⟩
       refine hc.join (W := fun m => ∃ j, PairP g up d g.Odd[k].Index j ∧ m = sgU up * (j - g.Odd[k].Index)) ⟨i, (pa i).2 i1, rfl⟩ ?_ (fun m => Iff.rfl)
       rintro n ⟨j, j1, rfl⟩
       exact sg_le (hall _ ⟨j, (pa j).1 j1, rfl⟩)
      | false =>
       subst hp
       rw [cond_false]
       refine ⟨_, rfl, hcb, hc.congr fun m => ⟨?_, .inl⟩⟩
       rintro (h1 | ⟨j, j1, j2⟩)
       ·exact h1
       ·exact absurd ⟨j, (pa j).1 j1, rfl⟩ ((t1.no rfl).2 (sgU up * j))
     obtain ⟨c1, f1, f2, f3⟩ := first
     rw [f1]
     simp only [Option.bind_some]
     have second : ∃ c2 : Int × Bool, (bif p2 then
      (
       (loopO (size_far.s4) (([(w64 (sgU up * (w64 (g.Odd[k].Index - n2))))].length : Int), 0, [(w64 (sgU up * (w64 (g.Odd[k].Index - n2))))], c1.1, c1.2)).bind fun (y20 : (List Int) × Int × Bool) =>
       some (y20.1, y20.2.1, y20.2.2)).bind fun (y19 : (List Int) × Int × Bool) =>
      some (Jx.go (y19.2.1, y19.2.2))
     else
      some (Jx.go (c1.1, c1.2)) : Option (Jx (Int × Bool) Unit)) = some (.go c2) ∧ BigI c2.1 ∧ Best (fun m => ((S m ∨ ∃ x ∈ g.Odd.take k, ∃ i j, (x.Index = i ∨ x.Index = j) ∧ PairP g up d i j ∧ m = sgU up * (j - i)) ∨ ∃ j, PairP g up d g.Odd[k].Index j ∧ m = sgU up * (j - g.Odd[k].Index)) ∨ ∃ i, PairP g up d i g.Odd[k].Index ∧ m = sgU up * (g.Odd[k].Index - i)) c2 := by
      cases hp : p2 with
      | true =>
       subst hp
       rw [cond_true, sgw2 up hb2, put_size_far_s4]
       obtain ⟨⟨i, i1, i2⟩, hall⟩ := t2.yes rfl
       have ei : i = n2 := by
        have := congrArg (fun x => sgU (!up) * x) i2
        simp only [sg_sg] at this
        exact this.symm
       subst ei
       refine ⟨_, rfl, putB_big f2 (sg_big hb2), ?_⟩
       refine f3.join (W := fun m => ∃ i, PairP g up d i g.Odd[k].Index ∧ m = sgU up * (g.Odd[k].Index - i)) ⟨i, (pt i).2 i1, rfl⟩ ?_ (fun m => Iff.rfl)
       rintro n ⟨j, j1, rfl⟩
       have := hall _ ⟨j, (pt j).1 j1, rfl⟩
       rw [sg_not, sg_not] at this
       rw [Int.mul_sub, Int.mul_sub]
       omega
      | false =>
       subst hp
       rw [cond_false]
       refine ⟨_, rfl, f2, f3.congr fun m => ⟨?_, .inl⟩⟩
       rintro (h1 | ⟨j, j1, j2⟩)
       ·exact h1
       ·exact absurd ⟨j, (pt j).1 j1, rfl⟩ ((t2.no rfl).2 (sgU (!up) * j))
     obtain ⟨c2, g1, g2, g3⟩ := second
     rw [g1]
     simp only [Option.bind_some, Jx.elim]
     rw [w64_id (by omega)]
     refine ⟨_, rfl, ⟨k + 1, c2, hlt, by push_cast; rfl, g2, ?_⟩, by simp only; omega⟩
     refine g3.congr fun m => ?_
     rw [htk]
     constructor
     ·rintro (h1 | ⟨x, hx, i, j, h1, h2, h3⟩)
      ·exact .inl (.inl (.inl h1))
      ·rcases List.mem_append.1 hx with h4 | h4
       ·exact .inl (.inl (.inr ⟨x, h4, i, j, h1, h2, h3⟩))
       ·rw [List.mem_singleton] at h4; subst h4
        rcases h1 with rfl | rfl
        ·exact .inl (.inr ⟨j, h2, h3⟩)
        ·exact .inr ⟨i, h2, h3⟩
     ·rintro (((h1 | ⟨x, hx, h1⟩) | ⟨j, j1, j2⟩) | ⟨i, i1, i2⟩)
      ·exact .inl h1
      ·exact .inr ⟨x, List.mem_append_left _ hx, h1⟩
      ·exact .inr ⟨_, List.mem_append_right _ (List.mem_singleton.2 rfl), _, j, .inl rfl, j1, j2⟩
      ·exact .inr ⟨_, List.mem_append_right _ (List.mem_singleton.2 rfl), i, _, .inr rfl, i1, i2⟩
   ·right
    obtain rfl : k = g.Odd.length := by omega
    rw [dec_f (by omega), cond_false]
    rw [List.take_length] at hc
    refine ⟨_, rfl, hcb, hc.congr fun m => ?_⟩
    constructor
    ·rintro (h1 | ⟨i, j, h1, h2, h3⟩)
     ·exact .inl h1
     ·rcases h1 with ⟨x, hx, hxi⟩ | ⟨x, hx, hxi⟩
      ·exact .inr ⟨x, hx, i, j, .inl hxi, h2, h3⟩
      ·exact .inr ⟨x, hx, i, j, .inr hxi, h2, h3⟩
    ·rintro (h1 | ⟨x, hx, i, j, h1, h2, h3⟩)
     ·exact .inl h1
     ·rcases h1 with h1 | h1
      ·exact .inr ⟨i, j, .inl ⟨x, hx, h1⟩, h2, h3⟩
      ·exact .inr ⟨i, j, .inr ⟨x, hx, h1⟩, h2, h3⟩) (0, b.1, b.2) ⟨0, b, Nat.zero_le _, rfl, hbb, hB.congr fun m => by simp⟩
 exact ⟨r, q1, q2⟩

theorem core_pair_free {g : Form} (h : Fit g) (h0 : 0 < g.Count) {up : Bool} {d i j : Int} (hp : CoreP g up d i j) : ∃ i' j', PairP g up d i' j' ∧ j' - i' = j - i := by
 obtain ⟨k, hk, hn⟩ := pigeon (g.Odd.map (·.Index) ++ g.Odd.map (fun x => x.Index - (j - i))) (fun k => i + g.Count * k) (fun a b hab => by
  have h4 : g.Count * (a : Int) = g.Count * b := by omega
  have := Int.eq_of_mul_eq_mul_left (by omega) h4
  omega)
 rw [List.mem_append, not_or] at hn
 have o1 : ¬ isOdd g (i + g.Count * k) := by
  rintro ⟨x, hx, e⟩
  exact hn.1 (List.mem_map.2 ⟨x, hx, e⟩)
 have o2 : ¬ isOdd g (j + g.Count * k) := by
  rintro ⟨x, hx, e⟩
  exact hn.2 (List.mem_map.2 ⟨x, hx, by rw [e]; omega⟩)
 refine ⟨i + g.Count * k, j + g.Count * k, ?_, by omega⟩
 obtain ⟨p1, p2, p3⟩ := hp
 unfold PairP
 rw [setAt_cs h0 o1, setAt_cs h0 o2, cs_turn h0, cs_turn h0, (lst_shift _ p1).1, (lst_shift _ p1).2, (lst_shift _ p2).1, (lst_shift _ p2).2]
 refine ⟨by simpa using p1, by simpa using p2, ?_⟩
 cases up
 ·simp only [Bool.false_eq_true, if_false] at p3 ⊢; omega
 ·simp only [if_true] at p3 ⊢; omega

theorem free_pair_core {g : Form} (h : Fit g) {up : Bool} {d i j : Int} (hi : ¬ isOdd g i) (hj : ¬ isOdd g j) (hp : PairP g up d i j) : 0 < g.Count ∧ ∃ i' j', 0 ≤ i' ∧ i' < g.Count ∧ CoreP g up d i' j' ∧ j' - i' = j - i := by
 have hc := h.shape.count
 have h0 : 0 < g.Count := by
  by_cases h0 : 0 < g.Count
  ·exact h0
  ·exact absurd (setAt_none hi (by omega)) hp.1
 refine ⟨h0, ?_⟩
 unfold PairP at hp
 rw [setAt_cs h0 hi, setAt_cs h0 hj] at hp
 obtain ⟨s, q, s0, s1, rfl, es⟩ := turn_split h0 i
 have ej : cs g j = (cs g (j - g.Count * q)).map (shiftS (q * g.Period)) := by
  have := cs_turn h0 (j - g.Count * q) q
  rwa [show j - g.Count * q + g.Count * q = j by omega] at this
 rw [es, ej] at hp
 obtain ⟨p1, p2, p3⟩ := hp
 have n1 : cs g s ≠ [] := by simpa using p1
 have n2 : cs g (j - g.Count * q) ≠ [] := by simpa using p2
 rw [(lst_shift _ n1).1, (lst_shift _ n1).2, (lst_shift _ n2).1, (lst_shift _ n2).2] at p3
 refine ⟨s, j - g.Count * q, s0, s1, ⟨n1, n2, ?_⟩, by omega⟩
 cases up
 ·simp only [Bool.false_eq_true, if_false] at p3 ⊢; omega
 ·simp only [if_true] at p3 ⊢; omega

theorem far_eq {f g : Form} (hg : canon_Form f = some g) (h : Fit g) (hb : 0 < g.Count → ¬ Bare g) {d : Int} (hd : tickP d) (up : Bool) :
  ∃ n b, size_far f d up = some (n, b, 0) ∧ BigI n ∧ Best (fun m => ∃ i j, PairP g up d i j ∧ m = sgU up * (j - i)) (sgU up * n, b) := by
 unfold size_far
 have hr : size_inRange d = true := by unfold size_inRange; unfold tickP at hd; simp; omega
 rw [hr, Bool.not_true, cond_false, made_eq hg h.lim h.few]
 simp only [Option.bind_some]
 have hy : (bif up then some (-1 : Int) else some 1) = some (sgU up) := by unfold sgU; cases up <;> rfl
 rw [hy]
 simp only [Option.bind_some]
 obtain ⟨r1, a1, a2, a3⟩ := far_spots h hb hd up
 rw [a1]
 simp only [Option.bind_some]
 obtain ⟨r2, b1, b2, b3⟩ := far_odds h hb hd up a2 a3
 rw [b1]
 simp only [Option.bind_some]
 have hw : w64 (sgU up * r2.1) = sgU up * r2.1 := by
  have := sg_big (up := up) b2
  unfold BigI at this
  exact w64_id (by omega)
 rw [hw]
 refine ⟨_, _, rfl, sg_big b2, ?_⟩
 rw [sg_sg]
 refine b3.congr fun m => ?_
 constructor
 ·rintro ⟨i, j, p, e⟩
  by_cases hi : isOdd g i
  ·exact .inr ⟨i, j, .inl hi, p, e⟩
  ·by_cases hj : isOdd g j
   ·exact .inr ⟨i, j, .inr hj, p, e⟩
   ·obtain ⟨h0, i', j', i0, i1, hp, e'⟩ := free_pair_core h hi hj p
    exact .inl ⟨i', j', i0, i1, hp, by rw [e, e']⟩
 ·rintro (⟨i, j, i0, i1, hp, e⟩ | ⟨i, j, ho, p, e⟩)
  ·obtain ⟨i', j', p, e'⟩ := core_pair_free h (by omega) hp
   exact ⟨i', j', p, by rw [e, e']⟩
  ·exact ⟨i, j, p, e⟩
end Go.Dn

set_option linter.unusedVariables false
set_option linter.unusedSimpArgs false
namespace Go.Dn
open Go

theorem law25_small_eq {f : Form} (hl : Lim f) : ∃ b, epactlaw25_small f = some b ∧ (b = true ↔ SmallF f ∧ RightF f) := by
 unfold epactlaw25_small
 obtain ⟨b, hb, hbs⟩ := epactlaw05_Small_eq hl
 rw [hb]
 simp only [Option.bind_some]
 cases b with
 | false => exact ⟨false, rfl, fun h => (by cases h), fun h => by have := hbs.2 h.1; cases this⟩
 | true =>
  have hsm := hbs.1 rfl
  have hnl : ¬ LongF f := by unfold LongF; have := hsm.1; have := hsm.2.1; have := hsm.2.2; omega
  rw [cond_true]
  rcases gran_Right_eq hl with ⟨h, _⟩ | ⟨_, h1, h2⟩ | ⟨_, h1, h2⟩
  ·exact absurd h hnl
  ·rw [h2]; exact ⟨true, rfl, fun _ => ⟨hsm, h1⟩, fun _ => rfl⟩
  ·rw [h2]; exact ⟨false, rfl, fun h => (by cases h), fun h => absurd h.2 h1⟩

theorem small_canon {f : Form} (hl : Lim f) (hr : RightF f) (hsm : SmallF f) : ∃ g, canon_Form f = some g ∧ Fit g ∧ (0 < g.Count → ¬ Bare g) ∧ setAt g = setAt f := by
 have hs := hr.shape
 obtain ⟨c, hc, hf⟩ := canon_Form_eq hl hs
 have hs' := canonF_shape hs hc
 have hr' := canonF_right hr hc
 have hcl := coreOf_le hs hc
 refine ⟨_, hf, ⟨canonF_lim hl hs hc, hs', hr'.turns, Nat.le_trans hcl.2.2.1 hsm.1, Nat.le_trans (List.length_filter_le _ _) hsm.2.1⟩, ?_, canonF_setAt hs hc⟩
 intro h0 hb
 have ez := canonF_csz hs hc
 have hz : ∀ i, csz f i = [] := fun i => by rw [← ez]; exact csz_bare hs' hb i
 rcases hc with ⟨h1, rfl⟩ | ⟨h1, h2, _⟩
 ·exact absurd h0 (by show ¬ (0 : Int) < 0; omega)
 ·obtain ⟨i, i1, i2, i3⟩ := cs_some hs h1 h2 0
  have := hz i
  rw [csz_pos h2] at this
  exact i3 this

structure DownS (f : Form) (d : Int) (r : Int × Bool) : Prop where
 yes : r.2 = true → (∃ i j, PairP f false d i j ∧ r.1 = j - i) ∧ ∀ i j, PairP f false d i j → j - i ≤ r.1
 no : r.2 = false → ∀ i j, ¬ PairP f false d i j
structure UpS (f : Form) (d : Int) (r : Int × Bool) : Prop where
 yes : r.2 = true → (∃ i j, PairP f true d i j ∧ r.1 = j - i) ∧ ∀ i j, PairP f true d i j → r.1 ≤ j - i
 no : r.2 = false → ∀ i j, ¬ PairP f true d i j

theorem pair_congr {f g : Form} (h : setAt g = setAt f) {up : Bool} {d i j : Int} : PairP g up d i j ↔ PairP f up d i j := by unfold PairP; rw [h]

theorem size_Down_eq {f : Form} (hl : Lim f) (hr : RightF f) (hsm : SmallF f) {d : Int} (hd : tickP d) : ∃ n b, size_Down f d = some (n, b, 0) ∧ BigI n ∧ DownS f d (n, b) := by
 obtain ⟨g, g1, g2, g3, g4⟩ := small_canon hl hr hsm
 obtain ⟨n, b, e1, e2, e3⟩ := far_eq g1 g2 g3 hd false
 unfold size_Down
 rw [e1]
 refine ⟨n, b, rfl, e2, ⟨fun hb => ?_, fun hb i j hp => ?_⟩⟩
 ·obtain ⟨⟨i, j, p, e⟩, hall⟩ := e3.yes hb
  simp only [sgU, Bool.false_eq_true, if_false, Int.one_mul] at e hall
  refine ⟨⟨i, j, (pair_congr g4).1 p, e⟩, fun i' j' hp => ?_⟩
  exact hall _ ⟨i', j', (pair_congr g4).2 hp, rfl⟩
 ·exact (e3.no hb).2 _ ⟨i, j, (pair_congr g4).2 hp, rfl⟩
theorem size_Up_eq {f : Form} (hl : Lim f) (hr : RightF f) (hsm : SmallF f) {d : Int} (hd : tickP d) : ∃ n b, size_Up f d = some (n, b, 0) ∧ BigI n ∧ UpS f d (n, b) := by
 obtain ⟨g, g1, g2, g3, g4⟩ := small_canon hl hr hsm
 obtain ⟨n, b, e1, e2, e3⟩ := far_eq g1 g2 g3 hd true
 unfold size_Up
 rw [e1]
 refine ⟨n, b, rfl, e2, ⟨fun hb => ?_, fun hb i j hp => ?_⟩⟩
 ·obtain ⟨⟨i, j, p, e⟩, hall⟩ := e3.yes hb
  simp only [sgU, if_true] at e hall
  refine ⟨⟨i, j, (pair_congr g4).1 p, by simp only; omega⟩, fun i' j' hp => ?_⟩
  have := hall _ ⟨i', j', (pair_congr g4).2 hp, rfl⟩
  simp only; omega
 ·exact (e3.no hb).2 _ ⟨i, j, (pair_congr g4).2 hp, rfl⟩

theorem down_mono {f : Form} {d d' i j : Int} (h : PairP f false d i j) (hd : d ≤ d') : PairP f false d' i j := by
 unfold PairP at *
 simp only [Bool.false_eq_true, if_false] at *
 exact ⟨h.1, h.2.1, by omega⟩
noncomputable def bad (low high : Bound) : Bool := (((!(safe_Right low)) || (!(safe_Right high))) || (low.Inf == 1)) || (high.Inf == (-1))
structure RangeS (f : Form) (low high : Bound) (r : Range) (ok : Bool) : Prop where
 none : ok = false → r = Range.mk 0 0 false false
 hi : ok = true → (r.HasHigh = true ↔ high.Inf = 0 ∧ high.N ≤ 1099511627776)
 lo : ok = true → (r.HasLow = true ↔ low.Inf = 0 ∧ -1099511627776 ≤ low.N)
 atH : ok = true → r.HasHigh = true → DownS f (max high.N (-1099511627776)) (r.High, true)
 atL : ok = true → r.HasLow = true → UpS f (min low.N 1099511627776) (r.Low, true)
 nhi : ok = true → r.HasHigh = false → r.High = 0
 nlo : ok = true → r.HasLow = false → r.Low = 0
 not : ok = false → (high.Inf = 0 ∧ high.N ≤ 1099511627776 ∧ ∀ i j, ¬ PairP f false (max high.N (-1099511627776)) i j) ∨ (low.Inf = 0 ∧ -1099511627776 ≤ low.N ∧ ∀ i j, ¬ PairP f true (min low.N 1099511627776) i j)

theorem carry_Range_bad {f : Form} {low high : Bound} (h : bad low high = true) : carry_Range f low high = some (Range.mk 0 0 false false, false, 2) := by
 unfold carry_Range
 rw [show ((((!(safe_Right low)) || (!(safe_Right high))) || (low.Inf == 1)) || (high.Inf == (-1))) = true from h]
 rfl

theorem carry_Range_eq {f : Form} (hl : Lim f) (hr : RightF f) (hsm : SmallF f) {low high : Bound} (h : bad low high = false) : ∃ r ok, carry_Range f low high = some (r, ok, 0) ∧ RangeS f low high r ok := by
 unfold carry_Range
 rw [show ((((!(safe_Right low)) || (!(safe_Right high))) || (low.Inf == 1)) || (high.Inf == (-1))) = false from h, cond_false]
 have t1 : tickP (max high.N (-1099511627776)) ∨ ¬ (high.N ≤ 1099511627776) := by unfold tickP; omega
 have t2 : tickP (min low.N 1099511627776) ∨ ¬ (-1099511627776 ≤ low.N) := by unfold tickP; omega
 rw [iMax_eq, iMin_eq]
 -- the high end
 by_cases ch : high.Inf = 0 ∧ high.N ≤ 1099511627776
 ·have ech : ((high.Inf == 0) && (decide (high.N ≤ 1099511627776))) = true := by simp [ch.1, ch.2]
  rw [ech, cond_true]
  obtain ⟨n, b, e1, e2, e3⟩ := size_Down_eq hl hr hsm (t1.resolve_right fun h => h ch.2)
  rw [e1]
  simp only [Option.bind_some]
  cases b with
  | false =>
   simp only [Bool.not_false, cond_true, Option.bind_some, Jx.elim]
   exact ⟨_, _, rfl, fun _ => rfl, nofun, nofun, nofun, nofun, nofun, nofun, fun _ => .inl ⟨ch.1, ch.2, e3.no rfl⟩⟩
  | true =>
   simp only [Bool.not_true, cond_false, Option.bind_some, Jx.elim]
   by_cases cl : low.Inf = 0 ∧ -1099511627776 ≤ low.N
   ·have ecl : ((low.Inf == 0) && (decide (low.N ≥ (-1099511627776)))) = true := by simp [cl.1]; exact cl.2
    rw [ecl, cond_true]
    obtain ⟨m, c, f1, f2, f3⟩ := size_Up_eq hl hr hsm (t2.resolve_right fun h => h cl.2)
    rw [f1]
    simp only [Option.bind_some]
    cases c with
    | false =>
     simp only [Bool.not_false, cond_true, Option.bind_some, Jx.elim]
     exact ⟨_, _, rfl, fun _ => rfl, nofun, nofun, nofun, nofun, nofun, nofun, fun _ => .inr ⟨cl.1, cl.2, f3.no rfl⟩⟩
    | true =>
     simp only [Bool.not_true, cond_false, Option.bind_some, Jx.elim]
     exact ⟨_, _, rfl, nofun, fun _ => ⟨fun _ => ch, fun _ => rfl⟩, fun _ => ⟨fun _ => cl, fun _ => rfl⟩, fun _ _ => e3, fun _ _ => f3, fun _ h => (by cases h), fun _ h => (by cases h), nofun⟩
   ·have ecl : ((low.Inf == 0) && (decide (low.N ≥ (-1099511627776)))) = false := by
     apply Bool.eq_false_iff.2; intro h; simp at h; exact cl ⟨h.1, h.2⟩
    rw [ecl, cond_false]
    simp only [Option.bind_some, Jx.elim]
    exact ⟨_, _, rfl, nofun, fun _ => ⟨fun _ => ch, fun _ => rfl⟩, fun _ => ⟨fun h => (by cases h), fun h => absurd h cl⟩, fun _ _ => e3, fun _ h => (by cases h), fun _ h => (by cases h), fun _ _ => rfl, nofun⟩
 ·have ech : ((high.Inf == 0) && (decide (high.N ≤ 1099511627776))) = false := by
   apply Bool.eq_false_iff.2; intro h; simp at h; exact ch h
  rw [ech, cond_false]
  simp only [Option.bind_some, Jx.elim]
  by_cases cl : low.Inf = 0 ∧ -1099511627776 ≤ low.N
  ·have ecl : ((low.Inf == 0) && (decide (low.N ≥ (-1099511627776)))) = true := by simp [cl.1]; exact cl.2
   rw [ecl, cond_true]
   obtain ⟨m, c, f1, f2, f3⟩ := size_Up_eq hl hr hsm (t2.resolve_right fun h => h cl.2)
   rw [f1]
   simp only [Option.bind_some]
   cases c with
   | false =>
    simp only [Bool.not_false, cond_true, Option.bind_some, Jx.elim]
    exact ⟨_, _, rfl, fun _ => rfl, nofun, nofun, nofun, nofun, nofun, nofun, fun _ => .inr ⟨cl.1, cl.2, f3.no rfl⟩⟩
   | true =>
    simp only [Bool.not_true, cond_false, Option.bind_some, Jx.elim]
    exact ⟨_, _, rfl, nofun, fun _ => ⟨fun h => (by cases h), fun h => absurd h ch⟩, fun _ => ⟨fun _ => cl, fun _ => rfl⟩, fun _ h => (by cases h), fun _ _ => f3, fun _ _ => rfl, fun _ h => (by cases h), nofun⟩
  ·have ecl : ((low.Inf == 0) && (decide (low.N ≥ (-1099511627776)))) = false := by
    apply Bool.eq_false_iff.2; intro h; simp at h; exact cl ⟨h.1, h.2⟩
   rw [ecl, cond_false]
   simp only [Option.bind_some, Jx.elim]
   exact ⟨_, _, rfl, nofun, fun _ => ⟨fun h => (by cases h), fun h => absurd h ch⟩, fun _ => ⟨fun h => (by cases h), fun h => absurd h cl⟩, fun _ h => (by cases h), fun _ h => (by cases h), fun _ _ => rfl, fun _ _ => rfl, nofun⟩

theorem carryArgs_true (f : Form) (low high : Bound) (hf : f.ok) (h1 : low.ok) (h2 : high.ok) : epactlaw25_CarryArgs f low high = some true := by
 have hl := Form.lim hf
 unfold epactlaw25_CarryArgs
 obtain ⟨b, e1, i1⟩ := law25_small_eq hl
 rw [e1]
 cases b with
 | false => rfl
 | true =>
 obtain ⟨sf, rf⟩ := i1.1 rfl
 simp only [Option.bind_some, Bool.not_true, cond_false]
 rw [show ((((!(safe_Right low)) || (!(safe_Right high))) || (low.Inf == 1)) || (high.Inf == (-1))) = bad low high from rfl]
 cases hb : bad low high with
 | true =>
  rw [carry_Range_bad hb]
  rfl
 | false =>
  obtain ⟨r, ok, e2, s⟩ := carry_Range_eq hl rf sf hb
  obtain ⟨r2, ok2, e3, s2⟩ := carry_Range_eq hl rf sf (low := ⟨-1, 0⟩) (high := ⟨1, 0⟩) rfl
  rw [e2]
  simp only [Option.bind_some, cond_false]
  have c1 : ((((0 : Int) != 0) || ((low.Inf == (-1)) && r.HasLow)) || ((high.Inf == 1) && r.HasHigh)) = false := by
   apply Bool.eq_false_iff.2
   intro h
   simp at h
   cases ok with
   | false => rw [s.none rfl] at h; simp at h
   | true =>
    rcases h with ⟨q1, q2⟩ | ⟨q1, q2⟩
    ·have := (s.lo rfl).1 q2; omega
    ·have := (s.hi rfl).1 q2; omega
  rw [c1, cond_false, e3]
  simp only [Option.bind_some]
  have hok : ok2 = true := by
   cases ok2 with
   | true => rfl
   | false => rcases s2.not rfl with ⟨q, _⟩ | ⟨q, _⟩ <;> simp at q
  subst hok
  have a1 : r2.HasHigh = false := by
   cases h : r2.HasHigh with
   | false => rfl
   | true => have := (s2.hi rfl).1 h; simp at this
  have a2 : r2.HasLow = false := by
   cases h : r2.HasLow with
   | false => rfl
   | true => have := (s2.lo rfl).1 h; simp at this
  rw [s2.nhi rfl a1, s2.nlo rfl a2, a1, a2]
  rfl

def Near (f : Form) (m d : Int) : Prop := ∃ i j, PairP f false d i j ∧ m ≤ j - i
theorem Near.mono {f : Form} {m m' d d' : Int} (h : Near f m d) (hm : m' ≤ m) (hd : d ≤ d') : Near f m' d' := by
 obtain ⟨i, j, h1, h2⟩ := h
 exact ⟨i, j, down_mono h1 hd, by omega⟩
def farI (m : Int) : Int := min (max m (-4611686018427387904)) 4611686018427387904
def LowD (f : Form) (m d : Int) : Prop := -1099511627776 ≤ d ∧ d ≤ 1099511627776 ∧ (∀ z, -1099511627776 ≤ z → z < d → ¬ Near f m z) ∧ (d < 1099511627776 → Near f m d)
def boundD (d : Int) : Bound := if d = -1099511627776 then ⟨-1, 0⟩ else ⟨0, d⟩

theorem LowD.mono {f : Form} {m m' d d' : Int} (h : LowD f m d) (h' : LowD f m' d') (hm : m ≤ m') : d ≤ d' := by
 obtain ⟨a1, a2, a3, a4⟩ := h
 obtain ⟨b1, b2, b3, b4⟩ := h'
 by_cases hd : d ≤ d'
 ·exact hd
 ·exact absurd ((b4 (by omega)).mono hm (Int.le_refl _)) (a3 d' b1 (by omega))
def boundH (d : Int) : Bound := if d = -1099511627776 then ⟨1, 0⟩ else ⟨0, -d⟩
def goodB (x : Bound) : Prop := safe_Right x = true ∧ x.N ≤ 1099511627776 ∧ -1099511627776 ≤ x.N
end Go.Dn
