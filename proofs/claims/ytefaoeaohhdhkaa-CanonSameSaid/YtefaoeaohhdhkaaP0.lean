/- Tools to reckon with the printed functions. -/
import Derived.Test.YtefaoeaohhdhkaaSh
set_option linter.unusedVariables false
set_option linter.unusedSimpArgs false
namespace Go.Dn
open Go

/-- A loop comes to an end, and what holds then. -/
theorem loopO_inv {S R : Type} {step : S → Option (S ⊕ R)} (I : S → Prop) (m : S → Nat) (post : R → Prop)
    (h : ∀ s, I s → (∃ s', step s = some (.inl s') ∧ I s' ∧ m s' < m s) ∨ (∃ r, step s = some (.inr r) ∧ post r)) : ∀ s, I s → ∃ r, loopO step s = some r ∧ post r := by
  have key : ∀ n s, m s = n → I s → ∃ r, loopO step s = some r ∧ post r := by
    intro n
    induction n using Nat.strongRecOn with
    | _ n ih =>
      intro s hm hI
      rcases h s hI with ⟨s', h1, h2, h3⟩ | ⟨r, h1, h2⟩
      · obtain ⟨r, q1, q2⟩ := ih (m s') (by omega) s' rfl h2
        exact ⟨r, by rw [loopO_eq, h1]; exact q1, q2⟩
      · exact ⟨r, by rw [loopO_eq, h1], h2⟩
  exact fun s hI => key _ s rfl hI

/-- The answer is known ahead. -/
theorem loopO_val {S R : Type} {step : S → Option (S ⊕ R)} (I : S → R → Prop) (m : S → Nat)
    (h : ∀ s r, I s r → (∃ s', step s = some (.inl s') ∧ I s' r ∧ m s' < m s) ∨ step s = some (.inr r)) {s : S} {r : R} (hI : I s r) : loopO step s = some r := by
  obtain ⟨r', h1, h2⟩ := loopO_inv (I := fun s => I s r) m (fun r' => r' = r) (fun s hs => by
    rcases h s r hs with ⟨s', h1, h2, h3⟩ | h1
    · exact .inl ⟨s', h1, h2, h3⟩
    · exact .inr ⟨r, h1, rfl⟩) s hI
  rw [h1, h2]

theorem bind_eq {α β : Type} {x : Option α} {a : α} {f : α → Option β} {b : Option β} (h : x = some a) (hf : f a = b) : x.bind f = b := by rw [h]; exact hf

theorem wrap_i64 (a : Int) : IntKind.i64.wrap a = (a + 9223372036854775808) % 18446744073709551616 - 9223372036854775808 := by
  simp [IntKind.wrap, IntKind.bits, IntKind.signed]
  split <;> omega
theorem wrap_u64 (a : Int) : IntKind.u64.wrap a = a % 18446744073709551616 := by
  simp [IntKind.wrap, IntKind.bits, IntKind.signed]
theorem wrap_i8 (a : Int) : IntKind.i8.wrap a = (a + 128) % 256 - 128 := by
  simp [IntKind.wrap, IntKind.bits, IntKind.signed]
  split <;> omega
theorem wrap_i32 (a : Int) : IntKind.i32.wrap a = (a + 2147483648) % 4294967296 - 2147483648 := by
  simp [IntKind.wrap, IntKind.bits, IntKind.signed]
  split <;> omega
theorem okI_i64 {x : Int} : okI .i64 x ↔ -9223372036854775808 ≤ x ∧ x ≤ 9223372036854775807 := Iff.rfl
theorem okI_i32 {x : Int} : okI .i32 x ↔ -2147483648 ≤ x ∧ x ≤ 2147483647 := Iff.rfl
theorem okI_i8 {x : Int} : okI .i8 x ↔ -128 ≤ x ∧ x ≤ 127 := Iff.rfl
theorem okI_u8 {x : Int} : okI .u8 x ↔ 0 ≤ x ∧ x ≤ 255 := Iff.rfl
theorem w64_id {x : Int} (h : -9223372036854775808 ≤ x ∧ x ≤ 9223372036854775807) : w64 x = x := by
  unfold w64; rw [wrap_i64]; omega
theorem maxLen_eq : maxLen = 9223372036854775807 := rfl
theorem room_eq : room = 140737488355328 := rfl

theorem at?_lt {α : Type} {l : List α} {i : Int} (h0 : 0 ≤ i) (h : i < l.length) : at? l i = some (l[i.toNat]'(by omega)) := by
  unfold at?; rw [if_pos h0, List.getElem?_eq_getElem]
theorem at?_nat {α : Type} {l : List α} {k : Nat} (h : k < l.length) : at? l (k : Int) = some l[k] := by
  rw [at?_lt (by omega) (by omega)]; rfl
theorem at?_none {α : Type} {l : List α} {i : Int} (h : i < 0 ∨ (l.length : Int) ≤ i) : at? l i = none := by
  unfold at?
  split
  · rw [List.getElem?_eq_none]; omega
  · rfl
theorem app?_ok {α : Type} {b : Nat} {l m : List α} (h : (l.length + m.length) * b ≤ room) : app? b l m = some (l ++ m) := if_pos h
theorem nz?_ok {b : Int} (h : b ≠ 0) : nz? b = some () := if_neg h

theorem beq_t {a b : Int} (h : a = b) : (a == b) = true := by simp [h]
theorem beq_f {a b : Int} (h : a ≠ b) : (a == b) = false := by simp [h]
theorem bne_t {a b : Int} (h : a ≠ b) : (a != b) = true := by simp [h]
theorem bne_f {a b : Int} (h : a = b) : (a != b) = false := by simp [h]
theorem ibeq (a b : Int) : (a == b) = decide (a = b) := by by_cases h : a = b <;> simp [h]
theorem dec_t {p : Prop} [Decidable p] (h : p) : decide p = true := by simp [h]
theorem dec_f {p : Prop} [Decidable p] (h : ¬ p) : decide p = false := by simp [h]

theorem pickB {α : Type} (c : Bool) (a b : α) : (bif c then a else b) = if c = true then a else b := by cases c <;> rfl

theorem first_bad {α : Type} {l : List α} {good : Nat → α → Prop} (h : ¬ ∀ k x, l[k]? = some x → good k x) : ∃ (k : Nat) (x : α), l[k]? = some x ∧ ¬ good k x ∧ ∀ j y, j < k → l[j]? = some y → good j y := by
  have hex : ∃ k : Nat, ∃ x, l[k]? = some x ∧ ¬ good k x := by
    apply Classical.byContradiction
    intro hn
    exact h fun k x hk => Classical.byContradiction fun hg => hn ⟨k, x, hk, hg⟩
  obtain ⟨k, hk⟩ := hex
  induction k using Nat.strongRecOn with
  | _ k ih =>
    by_cases h : ∃ j, j < k ∧ ∃ x, l[j]? = some x ∧ ¬ good j x
    · obtain ⟨j, hj, hx⟩ := h
      exact ih j hj hx
    · obtain ⟨x, hx, hb⟩ := hk
      exact ⟨k, x, hx, hb, fun j y hj hy => Classical.byContradiction fun hg => h ⟨j, hj, y, hy, hg⟩⟩

/-- 'for i, x := range l { if bad(x) { return false } }'. -/
theorem all_loop {α R : Type} {l : List α} {step : Int → Option (Int ⊕ R)} (good : Nat → α → Prop) {no yes : R}
    (hstep : ∀ (k : Nat) (x : α), l[k]? = some x → (∀ j y, j < k → l[j]? = some y → good j y) → (step (k : Int) = some (.inl ((k : Int) + 1)) ∧ good k x) ∨ (step (k : Int) = some (.inr no) ∧ ¬ good k x))
    (hend : step (l.length : Int) = some (.inr yes)) : (loopO step 0 = some yes ∧ ∀ k x, l[k]? = some x → good k x) ∨ (loopO step 0 = some no ∧ ¬ ∀ k x, l[k]? = some x → good k x) := by
  by_cases hall : ∀ k x, l[k]? = some x → good k x
  · refine .inl ⟨?_, hall⟩
    refine loopO_val (I := fun (s : Int) r => r = yes ∧ ∃ k : Nat, s = k ∧ k ≤ l.length) (fun s => (l.length - s.toNat)) ?_ ⟨rfl, 0, rfl, Nat.zero_le _⟩
    rintro s r ⟨rfl, k, rfl, hk⟩
    by_cases hlt : k < l.length
    · rcases hstep k l[k] (List.getElem?_eq_getElem hlt) (fun j y _ hy => hall j y hy) with ⟨h1, _⟩ | ⟨_, h2⟩
      · exact .inl ⟨_, h1, ⟨rfl, k + 1, by push_cast; rfl, hlt⟩, by simp; omega⟩
      · exact absurd (hall k _ (List.getElem?_eq_getElem hlt)) h2
    · have : k = l.length := by omega
      subst this
      exact .inr hend
  · refine .inr ⟨?_, hall⟩
    obtain ⟨k0, x0, hx0, hb0, hgood⟩ := first_bad hall
    have hlt0 := (List.getElem?_eq_some_iff.1 hx0).1
    refine loopO_val (I := fun (s : Int) r => r = no ∧ ∃ k : Nat, s = k ∧ k ≤ k0) (fun s => (l.length - s.toNat)) ?_ ⟨rfl, 0, rfl, Nat.zero_le _⟩
    rintro s r ⟨rfl, k, rfl, hk⟩
    by_cases hlt : k < k0
    · have hkl : k < l.length := by omega
      rcases hstep k l[k] (List.getElem?_eq_getElem hkl) (fun j y hj hy => hgood j y (by omega) hy) with ⟨h1, _⟩ | ⟨_, h2⟩
      · exact .inl ⟨_, h1, ⟨rfl, k + 1, by push_cast; rfl, hlt⟩, by simp; omega⟩
      · exact absurd (hgood k _ hlt (List.getElem?_eq_getElem hkl)) h2
    · have : k = k0 := by omega
      subst this
      rcases hstep k x0 hx0 hgood with ⟨_, h2⟩ | ⟨h1, _⟩
      · exact absurd h2 hb0
      · exact .inr h1

/-- 'for _, x := range l { acc = acc with x }'. -/
theorem fold_loop {α A R : Type} {l : List α} {step : A × Int → Option ((A × Int) ⊕ R)} (f : A → Nat → α → A) (fin : A → R) (I : Nat → A → Prop) {a0 : A} (h0 : I 0 a0)
    (hgo : ∀ (k : Nat) (x : α) (a : A), l[k]? = some x → I k a → step (a, (k : Int)) = some (.inl (f a k x, (k : Int) + 1)) ∧ I (k + 1) (f a k x))
    (hend : ∀ a, I l.length a → step (a, (l.length : Int)) = some (.inr (fin a))) : ∃ a, loopO step (a0, 0) = some (fin a) ∧ I l.length a := by
  obtain ⟨r, h1, a, rfl, h2⟩ := loopO_inv (step := step) (I := fun s => ∃ (k : Nat) (a : A), s = (a, (k : Int)) ∧ k ≤ l.length ∧ I k a) (fun s => l.length - s.2.toNat) (fun r => ∃ a, r = fin a ∧ I l.length a) (by
    rintro s ⟨k, a, rfl, hk, hI⟩
    by_cases hlt : k < l.length
    · obtain ⟨q1, q2⟩ := hgo k l[k] a (List.getElem?_eq_getElem hlt) hI
      exact .inl ⟨_, q1, ⟨k + 1, _, by push_cast; rfl, hlt, q2⟩, by simp; omega⟩
    · have : k = l.length := by omega
      subst this
      exact .inr ⟨_, hend a hI, a, rfl, hI⟩) (a0, 0) ⟨0, a0, rfl, Nat.zero_le _, h0⟩
  exact ⟨a, h1, h2⟩
end Go.Dn
