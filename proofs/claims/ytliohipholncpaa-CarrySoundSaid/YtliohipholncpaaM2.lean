/- Part 2 of what the row stands on. -/
import Derived.Test.YtliohipholncpaaProg
import Derived.KernelRfl
import Derived.ScopeJumps
import Derived.Test.YtliohipholncpaaM1
set_option linter.unusedVariables false
set_option linter.unusedSimpArgs false
namespace Go.Dn
open Go

theorem Has.perm {σ : Heap} {lo hi : Nat} {L L' : List Res} (H : Has σ lo hi L) (hp : L.Perm L') : Has σ lo hi L' := by
 have mem : ∀ {A : List Res}, (∀ (k : Nat) (r : Res), A[k]? = some r → r.holds σ) ↔ ∀ r ∈ A, r.holds σ := fun {A} =>
  ⟨fun h r hr => by obtain ⟨k, hk⟩ := List.getElem?_of_mem hr; exact h k r hk, fun h k r hk => h r (List.mem_of_getElem? hk)⟩
 have pw : L.Pairwise (fun r s => ∀ id, r.owner = some id → s.owner ≠ some id) := by
  rw [List.pairwise_iff_getElem]
  intro i j hi' hj hij
  exact H.sep i j _ _ (by omega) (List.getElem?_eq_getElem hi') (List.getElem?_eq_getElem hj)
 have pw' : L'.Pairwise (fun r s => ∀ id, r.owner = some id → s.owner ≠ some id) := (hp.pairwise_iff (fun {a b} h id h1 h2 => h id h2 h1)).1 pw
 refine ⟨mem.2 fun r hr => mem.1 H.holds r (hp.mem_iff.2 hr), fun k r hk => ?_, fun i j r s hij h1 h2 => ?_, H.le⟩
 ·obtain ⟨k', hk'⟩ := List.getElem?_of_mem (hp.mem_iff.2 (List.mem_of_getElem? hk))
  exact H.lt k' r hk'
 ·obtain ⟨hi', rfl⟩ := List.getElem?_eq_some_iff.1 h1
  obtain ⟨hj', rfl⟩ := List.getElem?_eq_some_iff.1 h2
  rw [List.pairwise_iff_getElem] at pw'
  rcases Nat.lt_or_ge i j with h | h
  ·exact pw' i j hi' hj' h
  ·intro id h3 h4
   exact pw' j i hj' hi' (by omega) id h4 h3

def pdOf : Ex → Option Code
 | .normal => none
 | .exit t => some (.exit t)
 | .ret => some .ret
theorem Has.slCells {σ : Heap} {lo hi : Nat} {L : List Res} {k : Nat} {v : PV} {et : TypeId} {sz : Nat} {xs : List (List FV)} {lv : Bool} (H : Has σ lo hi L) (h : L[k]? = some (.sl v et sz xs lv)) : v.cells = some [v] := by
 rcases (H.holds k _ h).2 with ⟨rfl, _⟩ | ⟨id, rfl, _⟩ <;> rfl

theorem Runs.env {X : Ctx} {n : Nat} {fn : FuncId} {c : Code} {e : Env} {σ : Heap} {Q : Ex → Env → Heap → Prop} (l : List (Nat × PV)) (he : Z4 e l) (h : ∀ e0, Runs X n fn c (sets e0 l) σ Q) : Runs X n fn c e σ Q := by
 obtain ⟨e0, rfl⟩ := he.ex
 exact h e0

section
variable {X : Ctx}

def YldH (X : Ctx) (id : Nat) {S T : Type} (C : S → List Res → Prop) (pvT : T → List PV) (y : S → T → Option (S × Bool)) : Prop :=
 ∀ s t s' b, y s t = some (s', b) → ∀ σ lo hi O L, C s L → Has σ lo hi (O ++ L) → ∃ σ' L', Z0Z X (.yld id) (pvT t) σ = some (.v (.bool b), σ') ∧ C s' L' ∧ Hs σ' (O ++ L')

def ItF (X : Ctx) (f : FuncId) (args : List PV) {S : Type} (C : S → List Res → Prop) (s s' : S) : Prop :=
 ∀ σ L, C s L → Hs σ L → ∃ σ' L', Z0Z X (.fn f) args σ = some (.tup [], σ') ∧ C s' L' ∧ Hs σ' L'

structure EndsI {S : Type} (C : S → List Res → Prop) (s : S) (x : Ex) (e : Env) (σ : Heap) : Prop where
 out : (x = .normal ∨ x = .ret) ∧ ∃ L, C s L ∧ Hs σ L

theorem EndsI.H {S : Type} {C : S → List Res → Prop} {s : S} {x : Ex} {e : Env} {σ : Heap} {lo hi : Nat} {L L0 : List Res} (hx : x = .normal ∨ x = .ret) (H : Has σ lo hi L) (k : Nat) (hk : L.drop k = L0) (hC : C s L0) : EndsI C s x e σ :=
 ⟨hx, L0, hC, (hk ▸ H.drop k : Has σ lo hi L0).all⟩

theorem ItF.of {f : FuncId} {args : List PV} {S : Type} {C : S → List Res → Prop} {s s' : S} {fu : Func} {c : Code} {m : Nat} (hf : X.P.funcs[f]? = some fu) (hb : fu.body = some c) (hr : fu.results = #[]) (hi : X.intr f args = none) (hk : X.keep f = false) (ho : X.opn f = false) (hs : args.all PV.still = true)
  (hp : args.all PV.pure = false) (hm : max fu.ntmps args.length = m) (h : ∀ σ L, C s L → Hs σ L → Runs X m f c (Z5s args) σ (EndsI C s')) : ItF X f args C s s' := by
 subst hm
 intro σ L hC H
 obtain ⟨lf, x, e', σ1, h1, hE⟩ := (h σ L hC H).run
 obtain ⟨hx, L', hC', H'⟩ := hE.out
 refine ⟨σ1, L', Z2c (lf := lf) ?_, hC', H'⟩
 have hbody : Z1W X (Z0Z X) lf f args σ = some (.tup [], σ1) := by
  simp only [Z1W, hf, hb, h1]
  rcases hx with rfl | rfl <;> simp [hr, Z0M, Z1o]
 simp only [Z4W, hi, hk, Bool.false_eq_true, if_false, Z52 hs, ho, hp, hbody, Option.bind_some]
 rfl

section
variable {n : Nat} {dr : Bool} {fn : FuncId} {ops : Array Oper} {base i : Nat} {l : List Oper} {e : Env} {σ : Heap} {K : Env → Heap → Prop} {Q : Ex → Env → Heap → Prop}
variable {d : Nat} {t : TypeId} {p : String} {af : Array Edge} {x : Operand} {lo hi : Nat} {L : List Res}

theorem Ops.callY {S T : Type} {C : S → List Res → Prop} {pvT : T → List PV} {y : S → T → Option (S × Bool)} {id : Nat} {args : Array Operand} {ts : Array TypeId} {s s' : S} {z : T} {b : Bool} (O : List Res) (H : Has σ lo hi (O ++ L)) (hC : C s L) (hx : Z3 X e x = some (.yld id)) (ha : Zn X e args.toList = some (pvT z))
  (hy : YldH X id C pvT y) (hq : y s z = some (s', b)) (hdr : dr = false) (hd : Nat.blt d n = true)
  (hk : ∀ σ' L', C s' L' → Hs σ' (O ++ L') → Ops X n dr ops base (i + 1) l (set e d (.v (.bool b))) σ' K) :
  Ops X n dr ops base i (⟨some d, .call { callee := .value x, args := args, argTypes := ts }, t, p, af, none⟩ :: l) e σ K := by
 obtain ⟨σ', L', q1, q2, q3⟩ := hy _ _ _ _ hq σ lo hi O L hC H
 exact .plain (x := .v (.bool b)) (σ1 := σ') (by simp only [ZS, Z0D, ha, hx, q1]) (fun h => by rw [hdr] at h; cases h) hd (hk σ' L' q2 q3)
end

def RangeC (id : Nat) (fn : FuncId) (e : Env) (n : Nat) (ps : List Nat) (as_ bo : Code) {S : Type} (Co : S → List Res → Prop) (pd : Nat → Option Code) : S × Nat → List Res → Prop :=
 fun s L => ∃ M, Co s.1 M ∧ L = .loop id fn e n ps as_ bo (if s.2 = 0 then .ready else .done) (pd s.2) :: M

variable {n : Nat} {fn : FuncId} {e : Env} {σ : Heap} {Q : Ex → Env → Heap → Prop}

def BodyOK (X : Ctx) (n : Nat) (fn : FuncId) (e : Env) (ps : List Nat) (as_ bo : Code) {S T : Type} (Co : S → List Res → Prop) (pvT : T → List PV) (yb : S → T → Option (S × Nat)) (pd : Nat → Option Code) : Prop :=
 ∀ (R0 R1 : Res) s t s' p, yb s t = some (s', p) → ∀ σ M O, Co s M → Hs σ (R0 :: (M ++ O)) →
  Runs X n fn as_ (Z3i e n ps (pvT t)) σ fun x e1 σ1 => x = .normal ∧ ∃ M1, Hs σ1 (R0 :: (M1 ++ O)) ∧
   ∀ σ2, Hs σ2 (R1 :: (M1 ++ O)) → Runs X n fn bo e1 σ2 fun x e2 σ3 => (pdOf x = pd p ∧ (x = .normal ↔ p = 0)) ∧ ∃ M2, Co s' M2 ∧ Hs σ3 (R1 :: (M2 ++ O))

theorem rangeY_ok {S T : Type} {ps : List Nat} {as_ bo : Code} {Co : S → List Res → Prop} {pvT : T → List PV} {yb : S → T → Option (S × Nat)} {pd : Nat → Option Code} (hpd : pd 0 = none) (hlen : ∀ t, ps.length = (pvT t).length) (hpure : ∀ t, (pvT t).all PV.pure = true)
  (hbody : BodyOK X n fn e ps as_ bo Co pvT yb pd) (id : Nat) : YldH X id (RangeC id fn e n ps as_ bo Co pd) pvT (Zo yb) := by
 rintro ⟨s, p⟩ t ⟨s', p'⟩ b hy σ lo hi O L ⟨M, hM, rfl⟩ H
 unfold Zo at hy
 simp only at hy hM
 split at hy
 ·rename_i hp0
  subst hp0
  rw [Option.map_eq_some_iff] at hy
  obtain ⟨r, hr, he⟩ := hy
  simp only [Prod.mk.injEq] at he
  obtain ⟨rfl, rfl⟩ := he
  simp only [if_true, hpd] at H
  have H1 : Hs σ (.loop id fn e n ps as_ bo .ready none :: (M ++ O)) := (H.perm (by rw [← List.cons_append]; exact List.perm_append_comm)).all
  obtain ⟨l1, x1, e1, σ1, r1, rfl, M1, H2, hb⟩ := (hbody (.loop id fn e n ps as_ bo .ready none) (.loop id fn e n ps as_ bo .busy none) s t s' p' hr σ M O hM H1).run
  have hent : σ1.ent id = .loop fn e n ps as_ bo .ready none := H2.holds 0 _ rfl
  have H3 : Hs (σ1.put id (.loop fn e n ps as_ bo .busy none)) (.loop id fn e n ps as_ bo .busy none :: (M1 ++ O)) := (H2.put (k := 0) rfl rfl (r' := .loop id fn e n ps as_ bo .busy none) Z23 rfl).all
  obtain ⟨l2, x2, e2, σ3, r2, ⟨hx, hx0⟩, M2, hM2, H4⟩ := (hb _ H3).run
  have hent0 : σ.ent id = .loop fn e n ps as_ bo .ready none := H1.holds 0 _ rfl
  have fin : ∀ (st : LoopState) (pc : Option Code), Hs (σ3.put id (.loop fn e n ps as_ bo st pc)) (O ++ (.loop id fn e n ps as_ bo st pc :: M2)) := fun st pc =>
   ((H4.put (k := 0) rfl rfl (r' := .loop id fn e n ps as_ bo st pc) Z23 rfl).perm (by rw [List.set_cons_zero, ← List.cons_append]; exact List.perm_append_comm)).all
  have call : ∀ (st : LoopState) (pc : Option Code) (b : Bool), (match x2 with
    | .normal => some (PV.v (.bool true), σ3.put id (.loop fn e n ps as_ bo .ready none))
    | .exit t => some (PV.v (.bool false), σ3.put id (.loop fn e n ps as_ bo .done (some (.exit t))))
    | .ret => some (PV.v (.bool false), σ3.put id (.loop fn e n ps as_ bo .done (some .ret)))) = some (.v (.bool b), σ3.put id (.loop fn e n ps as_ bo st pc)) →
    Z0Z X (.yld id) (pvT t) σ = some (.v (.bool b), σ3.put id (.loop fn e n ps as_ bo st pc)) := by
   intro st pc b hm
   refine Z2c (lf := max l1 l2) ?_
   simp only [Z4W, hent0, hlen t, if_true, Z2n (hpure t), Z2Q (Nat.le_max_left l1 l2) r1, hent, Z2Q (Nat.le_max_right l1 l2) r2]
   exact hm
  cases x2 with
  | normal =>
   have hp0 := hx0.1 rfl
   subst hp0
   exact ⟨_, _, call .ready none true rfl, ⟨M2, hM2, by simp [hpd]⟩, fin .ready none⟩
  | exit t' =>
   have hp0 : p' ≠ 0 := fun h => by have := hx0.2 h; cases this
   have hbeq : (p' == 0) = false := by simpa using hp0
   rw [hbeq]
   exact ⟨_, _, call .done (some (.exit t')) false rfl, ⟨M2, hM2, by simp only [if_neg hp0, ← hx, pdOf]⟩, fin .done _⟩
  | ret =>
   have hp0 : p' ≠ 0 := fun h => by have := hx0.2 h; cases this
   have hbeq : (p' == 0) = false := by simpa using hp0
   rw [hbeq]
   exact ⟨_, _, call .done (some .ret) false rfl, ⟨M2, hM2, by simp only [if_neg hp0, ← hx, pdOf]⟩, fin .done _⟩
 ·cases hy

theorem Runs.rangeH {S T : Type} {g : Operand} {ps : Array Tmp} {as_ bo : Code} {f : FuncId} {first caps : List PV} {M0 : List Res} (H : Hs σ M0) (hg : Z3 X e g = some (.clo f first caps))
  (Co : S → List Res → Prop) (pvT : T → List PV) (yb : S → T → Option (S × Nat)) (pd : Nat → Option Code) (hpd : pd 0 = none) (hjd : ∀ p, ∃ x, Z5v (pd p) = some x) {s0 : S} {r : S × Nat} (h0 : Co s0 M0) (hlen : ∀ t, ps.toList.length = (pvT t).length) (hpure : ∀ t, (pvT t).all PV.pure = true)
  (hbody : BodyOK X n fn e ps.toList as_ bo Co pvT yb pd)
  (hit : ∀ id, YldH X id (RangeC id fn e n ps.toList as_ bo Co pd) pvT (Zo yb) → ItF X f (first ++ [.yld id] ++ caps) (RangeC id fn e n ps.toList as_ bo Co pd) (s0, 0) r)
  (hq : ∀ x σ' M', Z5v (pd r.2) = some x → Co r.1 M' → Hs σ' M' → Q x e σ') : Runs X n fn (.rangeFunc g ps as_ bo) e σ Q := by
 obtain ⟨m, ent⟩ := σ
 let σ1 : Heap := ⟨m + 1, upd ent m (.loop fn e n ps.toList as_ bo .ready none)⟩
 have H1 : Hs σ1 (.loop m fn e n ps.toList as_ bo .ready none :: M0) := by
  have h1 : Has (⟨m + 1, ent⟩ : Heap) m (m + 1) M0 := H.enter 1
  exact (h1.push (b := m) (en := .loop fn e n ps.toList as_ bo .ready none) (Nat.le_refl _) (Nat.lt_succ_self _) (r' := .loop m fn e n ps.toList as_ bo .ready none) Z23 rfl).all
 obtain ⟨σ2, L', hc, ⟨M', hM', rfl⟩, H2⟩ := hit m (rangeY_ok hpd hlen hpure hbody m) σ1 _ ⟨M0, h0, by simp [hpd]⟩ H1
 have hent : σ2.ent m = .loop fn e n ps.toList as_ bo (if r.2 = 0 then .ready else .done) (pd r.2) := H2.holds 0 _ rfl
 have hnb : (if r.2 = 0 then LoopState.ready else LoopState.done) ≠ LoopState.busy := by split <;> simp
 have Hf : Hs (σ2.put m (.loop fn e n ps.toList as_ bo .exhausted (pd r.2))) M' := ((H2.put (k := 0) rfl rfl (r' := .loop m fn e n ps.toList as_ bo .exhausted (pd r.2)) Z23 rfl).erase 0).all
 obtain ⟨x, hx⟩ := hjd r.2
 refine ⟨0, x, e, _, ?_, hq x _ M' hx hM' Hf⟩
 simp only [ZL, hg]
 rw [show Z0Z X (.fn f) (first ++ [PV.yld m] ++ caps) ⟨m + 1, upd ent m (.loop fn e n ps.toList as_ bo .ready none)⟩ = some (.tup [], σ2) from hc]
 simp only [hent, if_neg hnb, hx]

theorem callO_of {f : FuncId} {args : List PV} {fu : Func} {c : Code} {m : Nat} {σ : Heap} {Post : PV → Heap → Prop} (hf : X.P.funcs[f]? = some fu) (hb : fu.body = some c) (hi : X.intr f args = none) (hk : X.keep f = false) (ho : X.opn f = true) (hp : args.all PV.pure = true) (hm : max fu.ntmps args.length = m)
  (h : Runs X m f c (Z5s args) σ fun x e σ' => (x = .normal ∨ x = .ret) ∧ ∃ xs, Z0M X.P e σ' fu.results.toList = some xs ∧ Post (Z1o xs) σ') : ∃ r σ', Z0Z X (.fn f) args σ = some (r, σ') ∧ Post r σ' := by
 subst hm
 obtain ⟨lf, x, e', σ1, h1, hx, xs, h2, h3⟩ := h.run
 refine ⟨Z1o xs, σ1, Z2c (lf := lf) ?_, h3⟩
 have hbody : Z1W X (Z0Z X) lf f args σ = some (Z1o xs, σ1) := by
  simp only [Z1W, hf, hb, h1]
  rcases hx with rfl | rfl <;> simp only [h2, Option.map_some]
 simp only [Z4W, hi, hk, Bool.false_eq_true, if_false, Z2n hp, ho, if_true, hbody]

theorem Ops.callO {n : Nat} {dr : Bool} {ops : Array Oper} {base i : Nat} {l : List Oper} {e : Env} {σ : Heap} {K : Env → Heap → Prop} {d : Nat} {t : TypeId} {p : String} {af : Array Edge}
  {f : FuncId} {args : Array Operand} {ts : Array TypeId} {ys : List PV} {Post : PV → Heap → Prop} (ha : Zn X e args.toList = some ys) (hf : ∃ r σ', Z0Z X (.fn f) ys σ = some (r, σ') ∧ Post r σ') (hdr : dr = true → Z3U (Region.before ops) ops i = true) (hd : Nat.blt d n = true)
  (hk : ∀ r σ', Post r σ' → Ops X n dr ops base (i + 1) l (set e d r) σ' K) :
  Ops X n dr ops base i (⟨some d, .call { callee := .value (.func f), args := args, argTypes := ts }, t, p, af, none⟩ :: l) e σ K := by
 obtain ⟨r, σ', q1, q2⟩ := hf
 exact .plain (x := r) (σ1 := σ') (by simp only [ZS, Z0D, ha, Z3, q1]) (fun h => Z5o (hdr h)) hd (hk r σ' q2)
end

end Go.Dn

namespace Go.Dn
open Go

theorem Has.Zf {σ : Heap} {lo hi : Nat} {T : List Res} (A : List Res) (ks : List Nat) (hn : ks.Nodup) (hk : ks.all (Nat.blt · A.length) = true) (H : Has σ lo hi (A ++ T)) : Has σ lo hi (Dn.pick A ks ++ T) := by
 have hk' : ∀ k ∈ ks, k < A.length := fun k h => by
  have := List.all_eq_true.1 hk k h
  exact Nat.le_of_ble_eq_true this
 have h := H.pick (ks ++ (List.range T.length).map (A.length + ·)) (by
  refine List.nodup_append.2 ⟨hn, ?_, ?_⟩
  ·exact List.Pairwise.map _ (fun a b hab => by omega) List.nodup_range
  ·intro a ha b hb
   obtain ⟨j, _, rfl⟩ := List.mem_map.1 hb
   have := hk' a ha
   omega)
 have fc : ∀ (f g : Nat → Option Res) (l : List Nat), (∀ k ∈ l, f k = g k) → l.filterMap f = l.filterMap g := by
  intro f g l
  induction l with
  | nil => intro _; rfl
  | cons k l ih =>
   intro h
   rw [List.filterMap_cons, List.filterMap_cons, h k List.mem_cons_self, ih fun k hk => h k (List.mem_cons_of_mem _ hk)]
 have fr : ∀ (T : List Res), List.filterMap (fun j => T[j]?) (List.range T.length) = T := by
  intro T
  induction T with
  | nil => rfl
  | cons r T ih =>
   rw [List.length_cons, List.range_succ_eq_map, List.filterMap_cons, List.filterMap_map]
   simp only [List.getElem?_cons_zero]
   congr 1
 have e : Dn.pick (A ++ T) (ks ++ (List.range T.length).map (A.length + ·)) = Dn.pick A ks ++ T := by
  unfold Dn.pick
  rw [List.filterMap_append]
  congr 1
  ·exact fc _ _ _ fun k hm => List.getElem?_append_left (hk' k hm)
  ·rw [List.filterMap_map]
   refine Eq.trans (fc _ _ _ fun j _ => ?_) (fr T)
   simp [Function.comp, List.getElem?_append_right]
 rw [← e]; exact h

theorem Has.mem {σ : Heap} {lo hi : Nat} {L : List Res} (H : Has σ lo hi L) : ∀ r ∈ L, r.holds σ ∧ ∀ id, r.owner = some id → (id < lo ∨ hi ≤ id) ∧ id < σ.nx := fun r hr => by
 obtain ⟨k, hk⟩ := List.getElem?_of_mem hr
 exact ⟨H.holds k r hk, H.lt k r hk⟩

abbrev Apart (r s : Res) : Prop := ∀ id, r.owner = some id → s.owner ≠ some id

theorem Has.pw {σ : Heap} {lo hi : Nat} {L : List Res} (H : Has σ lo hi L) : L.Pairwise Apart := by
 rw [List.pairwise_iff_getElem]
 intro i j hi' hj hij
 exact H.sep i j _ _ (by omega) (List.getElem?_eq_getElem hi') (List.getElem?_eq_getElem hj)

theorem Has.mk' {σ : Heap} {lo hi : Nat} {L : List Res} (hm : ∀ r ∈ L, r.holds σ ∧ ∀ id, r.owner = some id → (id < lo ∨ hi ≤ id) ∧ id < σ.nx) (hp : L.Pairwise Apart) (hle : hi ≤ σ.nx) : Has σ lo hi L := by
 refine ⟨fun k r hk => (hm r (List.mem_of_getElem? hk)).1, fun k r hk => (hm r (List.mem_of_getElem? hk)).2, fun i j r s hij h1 h2 => ?_, hle⟩
 obtain ⟨hi', rfl⟩ := List.getElem?_eq_some_iff.1 h1
 obtain ⟨hj', rfl⟩ := List.getElem?_eq_some_iff.1 h2
 rw [List.pairwise_iff_getElem] at hp
 rcases Nat.lt_or_ge i j with h | h
 ·exact hp i j hi' hj' h
 ·intro id h3 h4
  exact hp j i hj' hi' (by omega) id h4 h3

def holes (lo hi : Nat) : List Res := .floor hi :: (List.range (hi - lo)).map fun j => .hole (lo + j)

theorem mem_holes {lo hi : Nat} {r : Res} (h : r ∈ holes lo hi) : r = .floor hi ∨ ∃ id, r = .hole id ∧ lo ≤ id ∧ id < hi := by
 rcases List.mem_cons.1 h with h | h
 ·exact .inl h
 ·obtain ⟨j, hj, rfl⟩ := List.mem_map.1 h
  have := List.mem_range.1 hj
  exact .inr ⟨_, rfl, by omega, by omega⟩

theorem Has.holesIn {σ : Heap} {lo hi : Nat} {L : List Res} (H : Has σ lo hi L) : Hs σ (L ++ holes lo hi) := by
 refine Has.mk' (fun r hr => ?_) ?_ (Nat.le_refl _)
 ·rcases List.mem_append.1 hr with h | h
  ·exact ⟨(H.mem r h).1, fun id ho => ⟨.inl ((H.mem r h).2 id ho).2, ((H.mem r h).2 id ho).2⟩⟩
  ·rcases mem_holes h with rfl | ⟨id, rfl, h1, h2⟩
   ·exact ⟨H.le, fun id ho => by cases ho⟩
   ·refine ⟨trivial, fun id' ho => ?_⟩
    cases ho
    have := H.le
    exact ⟨.inl (by omega), by omega⟩
 ·refine List.pairwise_append.2 ⟨H.pw, ?_, ?_⟩
  ·refine List.pairwise_cons.2 ⟨fun r _ id ho => (by cases ho), ?_⟩
   refine List.Pairwise.map _ ?_ List.nodup_range
   intro a b hab id h1 h2
   have h1 : lo + a = id := Option.some.inj h1
   have h2 : lo + b = id := Option.some.inj h2
   omega
  ·intro r hr s hs id h1 h2
   have := ((H.mem r hr).2 id h1).1
   rcases mem_holes hs with rfl | ⟨id', rfl, h3, h4⟩
   ·cases h2
   ·cases h2; omega

theorem Has.holesOut {σ : Heap} {lo hi : Nat} {A L : List Res} (H : Hs σ (A ++ (L ++ holes lo hi))) : Has σ lo hi (A ++ L) := by
 rw [← List.append_assoc] at H
 have hp := List.pairwise_append.1 H.pw
 refine Has.mk' (fun r hr => ?_) hp.1 ?_
 ·have h1 := H.mem r (List.mem_append_left _ hr)
  refine ⟨h1.1, fun id ho => ⟨?_, (h1.2 id ho).2⟩⟩
  rcases Nat.lt_or_ge id lo with h | h
  ·exact .inl h
  ·rcases Nat.lt_or_ge id hi with h' | h'
   ·exact absurd rfl (hp.2.2 r hr (.hole id) (List.mem_cons_of_mem _ (List.mem_map.2 ⟨id - lo, List.mem_range.2 (by omega), by congr 1; omega⟩)) id ho)
   ·exact .inr h'
 ·exact (H.mem (.floor hi) (List.mem_append_right _ List.mem_cons_self)).1

section
variable {X : Ctx} {f : FuncId} {fu : Func} {c : Code} {m : Nat} {σ : Heap} {cv : PV} {ys args : List PV} {L : List Res} {PostA : PV → List Res → Prop}

def CallI (X : Ctx) (cv : PV) (ys : List PV) (σ : Heap) (T : List Res) (PostA : PV → List Res → Prop) : Prop := ∃ r σ' A, callV X cv ys σ = some (r, σ') ∧ PostA r A ∧ Hs σ' (A ++ T)

theorem Z5y (hf : X.P.funcs[f]? = some fu) (hb : fu.body = some c) (hcv : ∀ σ, callV X cv ys σ = Z0Z X (.fn f) args σ) (hi : X.intr f args = none) (hk : X.keep f = true) (ho : X.opn f = true) (hm : max fu.ntmps args.length = m) {T : List Res}
  (h : Runs X m f c (Z5s args) σ fun x e σ' => (x = .normal ∨ x = .ret) ∧ ∃ xs, Z0M X.P e σ' fu.results.toList = some xs ∧ ∃ A, PostA (Z1o xs) A ∧ Hs σ' (A ++ T)) : CallI X cv ys σ T PostA := by
 subst hm
 obtain ⟨lf, x, e', σ1, h1, hx, xs, h2, A, h3, h4⟩ := h.run
 refine ⟨Z1o xs, σ1, A, ?_, h3, h4⟩
 rw [hcv]
 refine Z2c (lf := lf) ?_
 have hbody : Z1W X (Z0Z X) lf f args σ = some (Z1o xs, σ1) := by
  simp only [Z1W, hf, hb, h1]
  rcases hx with rfl | rfl <;> simp only [h2, Option.map_some]
 simp only [Z4W, hi, hk, if_true, ho, hbody]

theorem callIO_of (hf : X.P.funcs[f]? = some fu) (hb : fu.body = some c) (hcv : ∀ σ, callV X cv ys σ = Z0Z X (.fn f) args σ) (hi : X.intr f args = none) (hk : X.keep f = false) (ho : X.opn f = true) (hp : args.all PV.pure = true) (hm : max fu.ntmps args.length = m) {T : List Res}
  (h : Runs X m f c (Z5s args) σ fun x e σ' => (x = .normal ∨ x = .ret) ∧ ∃ xs, Z0M X.P e σ' fu.results.toList = some xs ∧ ∃ A, PostA (Z1o xs) A ∧ Hs σ' (A ++ T)) : CallI X cv ys σ T PostA := by
 obtain ⟨r, σ', h1, A, h2, h3⟩ := callO_of (Post := fun r σ' => ∃ A, PostA r A ∧ Hs σ' (A ++ T)) hf hb hi hk ho hp hm h
 exact ⟨r, σ', A, by rw [hcv]; exact h1, h2, h3⟩
end

section
variable {X : Ctx} {n : Nat} {dr : Bool} {fn : FuncId} {ops : Array Oper} {base i : Nat} {l : List Oper} {e : Env} {σ : Heap} {K : Env → Heap → Prop}
variable {d : Nat} {t t1 : TypeId} {p : String} {af : Array Edge} {x : Operand} {lo hi : Nat} {L : List Res}

theorem callV_step {cv : PV} {args : List PV} {r : PV} {σ' : Heap} {c : Call} {id0 : Nat} (hc : c.callee = .value x) (hx : Z3 X e x = some cv) (ha : Zn X e c.args.toList = some args) (h : Dn.callV X cv args σ = some (r, σ')) : Z0D X (Z0Z X) e σ id0 c = some (r, σ') := by
 simp only [Z0D, ha, hc, hx]
 unfold Dn.callV at h
 split at h
 ·exact h
 ·exact h
 ·cases h

theorem Sub.more {C L M : List Res} (h : Sub C L) : Sub C (L ++ M) := by
 induction h with
 | nil => exact .nil
 | cons k h t ih =>
  refine .cons k ?_ ih
  rw [List.getElem?_append_left (List.getElem?_eq_some_iff.1 h).1, h]

theorem callI_back {cv : PV} {ys : List PV} {PostA : PV → List Res → Prop} (A : List Res) (H : Has σ lo hi (A ++ L)) (hf : ∀ T, (∀ C, Sub C L → Sub C T) → Hs σ (A ++ T) → CallI X cv ys σ T PostA) :
  ∃ r σ' A', Dn.callV X cv ys σ = some (r, σ') ∧ PostA r A' ∧ Has σ' lo hi (A' ++ L) := by
 have hsub : ∀ C, Sub C L → Sub C (L ++ holes lo hi) := fun C h => h.more
 have H1 := H.holesIn
 rw [List.append_assoc] at H1
 obtain ⟨r, σ', A', h1, h2, h3⟩ := hf (L ++ holes lo hi) hsub H1
 exact ⟨r, σ', A', h1, h2, h3.holesOut⟩

theorem Ops.callI {cv : PV} {args : Array Operand} {ts : Array TypeId} {ys : List PV} {PostA : PV → List Res → Prop} (A : List Res) (H : Has σ lo hi (A ++ L)) (hx : Z3 X e x = some cv) (ha : Zn X e args.toList = some ys) (hf : ∀ T, (∀ C, Sub C L → Sub C T) → Hs σ (A ++ T) → CallI X cv ys σ T PostA) (hdr : dr = true → Z3U (Region.before ops) ops i = true) (hd : Nat.blt d n = true)
  (hk : ∀ r A' σ', PostA r A' → Has σ' lo hi (A' ++ L) → Ops X n dr ops base (i + 1) l (set e d r) σ' K) :
  Ops X n dr ops base i (⟨some d, .call { callee := .value x, args := args, argTypes := ts }, t, p, af, none⟩ :: l) e σ K := by
 obtain ⟨r, σ', A', q1, q2, q3⟩ := callI_back A H hf
 exact .plain (x := r) (σ1 := σ') (by simp only [ZS]; exact callV_step rfl hx ha q1) (fun h => Z5o (hdr h)) hd (hk r A' σ' q2 q3)

def FnO (X : Ctx) (f : FuncId) (args : List PV) (PostA : PV → List Res → Prop) : Prop := ∀ σ T, Hs σ T → CallI X (.v (.fn f)) args σ T PostA

theorem FnO.of {f : FuncId} {fu : Func} {c : Code} {m : Nat} {args : List PV} {PostA : PV → List Res → Prop} (hf : X.P.funcs[f]? = some fu) (hb : fu.body = some c) (hi : X.intr f args = none) (hk : X.keep f = false) (ho : X.opn f = true) (hp : args.all PV.pure = true) (hm : max fu.ntmps args.length = m)
  (h : ∀ σ T, Hs σ T → Runs X m f c (Z5s args) σ fun x e σ' => (x = .normal ∨ x = .ret) ∧ ∃ xs, Z0M X.P e σ' fu.results.toList = some xs ∧ ∃ A, PostA (Z1o xs) A ∧ Hs σ' (A ++ T)) : FnO X f args PostA :=
 fun σ T H => callIO_of hf hb (fun _ => rfl) hi hk ho hp hm (h σ T H)

theorem Ops.Z0T {id ver off : Nat} {te : TypeId} {cells : List PV} (H : Has σ lo hi L) (k : Nat) (hk : L[k]? = some (.blk id te cells)) (hv : cells.length = ver) (hx : Z3 X e x = some (.ptr id ver off)) (ha : dr = true → Seen ops base i id false) (hd : Nat.blt d n = true)
  (hk' : Ops X n dr ops base (i + 1) l (set e d (.ptr id ver off)) σ K) : Ops X n dr ops base i (⟨some d, .nilCheck x, t, p, af, none⟩ :: l) e σ K := by
 refine .plain (x := .ptr id ver off) (σ1 := σ) ?_ (fun h => Z33 (ids := [id]) rfl ?_ (fun j hj => by simp at hj; subst hj; exact ha h)) hd hk'
 ·simp only [ZS, hx, H.cur hk hv, if_true]
 ·simp only [touched, Z06, List.flatMap_cons, List.flatMap_nil, hx, vids, List.append_nil]
theorem Ops.callF {f : FuncId} {args : Array Operand} {ts : Array TypeId} {ys : List PV} {r : PV} (hx : Z3 X e x = some (.v (.fn f))) (ha : Zn X e args.toList = some ys) (hf : Fn X f ys r) (hd : Nat.blt d n = true) (hk : Ops X n dr ops base (i + 1) l (set e d r) σ K) :
  Ops X n dr ops base i (⟨some d, .call { callee := .value x, args := args, argTypes := ts }, t, p, af, none⟩ :: l) e σ K :=
 .plain (x := r) (σ1 := σ) (by simp only [ZS, Z0D, ha, hx, hf.call σ]) (fun _ => by
  exact ask0 (by simp only [Z01, Z0Q, ha, Z4k, hx, Z8A hf.pure, hf.opn, hf.keep, Bool.not_false, Bool.and_self])) hd hk

inductive ExpP : List Res → List (Nat × PV) → List (Nat × PV) → List Res → Prop
 | nil {L : List Res} : ExpP L [] [] L
 | keep {L L' : List Res} {j : Nat} {x : PV} {ps qs : List (Nat × PV)} (h : Z5u x = false) (t : ExpP L ps qs L') : ExpP L ((j, x) :: ps) ((j, x) :: qs) L'
 | exp {L L1 L2 : List Res} {j : Nat} {x y : PV} {ps qs : List (Nat × PV)} (h : ExpV L x y L1) (t : ExpP L1 ps qs L2) : ExpP L ((j, x) :: ps) ((j, y) :: qs) L2

theorem Z9Q {x : PV} {y : FV} {L' : List Res} (H : Has σ lo hi L) (h : ExpC L x y L') (hr : isRef x = false) : x = .v y ∧ L' = L := by
 cases h with
 | v y => exact ⟨rfl, rfl⟩
 | n => cases hr
 | ro h =>
  rcases h with ⟨rfl, rfl⟩ | rfl
  ·cases hr
  ·exact ⟨rfl, rfl⟩
 | s k h =>
  rcases (H.sl h).2 with ⟨rfl, _⟩ | ⟨id, rfl, _⟩ <;> cases hr

theorem Z8y : ∀ {xs : List PV} {ys : List FV} {L L' : List Res}, Has σ lo hi L → ExpCs L xs ys L' → xs.any isRef = false → xs = vs ys ∧ L' = L
 | [], ys, L, L', H, h, _ => by cases h; exact ⟨rfl, rfl⟩
 | x :: xs, ys, L, L', H, h, hr => by
  simp only [List.any_cons, Bool.or_eq_false_iff] at hr
  cases h with
  | cons h t =>
   obtain ⟨rfl, rfl⟩ := Z9Q H h hr.1
   obtain ⟨rfl, rfl⟩ := Z8y H t hr.2
   exact ⟨rfl, rfl⟩

theorem expV_noref {x y : PV} {L' : List Res} (H : Has σ lo hi L) (h : ExpV L x y L') (hr : Z5u x = false) : y = x ∧ L' = L := by
 cases h with
 | c h =>
  have : isRef x = false := by cases x <;> first | rfl | exact hr
  obtain ⟨rfl, rfl⟩ := Z9Q H h this
  exact ⟨rfl, rfl⟩
 | a h =>
  obtain ⟨rfl, rfl⟩ := Z8y H h hr
  exact ⟨rfl, rfl⟩
 | p h => exact ⟨rfl, rfl⟩

theorem fvsOf_vs (l : List FV) : fvsOf (vs l) = some l := by
 induction l with
 | nil => rfl
 | cons x l ih => show (fvsOf (vs l)).map (x :: ·) = _; rw [ih]; rfl

theorem frzC_ok {x : PV} {y : FV} {L' : List Res} (H : Has σ lo hi L) (h : ExpC L x y L') : ∃ σ', Z3F σ x = some (.v y, σ') ∧ Has σ' lo hi L' ∧ σ'.nx = σ.nx := by
 cases h with
 | v y => exact ⟨σ, rfl, H, rfl⟩
 | n => exact ⟨σ, rfl, H, rfl⟩
 | ro h => rcases h with ⟨rfl, rfl⟩ | rfl <;> exact ⟨σ, rfl, H, rfl⟩
 | @s _ et sz xs lv k h =>
  obtain ⟨hs, hv⟩ := H.sl h
  rcases hv with ⟨rfl, rfl⟩ | ⟨id, rfl, hb⟩
  ·exact ⟨σ, rfl, H.say h ⟨by simp, .inl ⟨rfl, rfl⟩⟩ rfl, rfl⟩
  ·refine ⟨σ.put id (.blk et (vs xs.flatten) false), ?_, H.put h rfl (r' := .sl (.buf id xs.length sz) et sz xs false) ⟨hs, .inr ⟨id, rfl, Z23⟩⟩ rfl, rfl⟩
   simp only [Z3F, hb]
   rw [if_pos (by rw [Z39, Z1z hs]), fvsOf_vs, Option.map_some, Z7F hs]

theorem frzCs_ok : ∀ {xs : List PV} {σ : Heap} {L L' : List Res} {ys : List FV}, Has σ lo hi L → ExpCs L xs ys L' → ∃ σ', Z2S σ xs = some (vs ys, σ') ∧ Has σ' lo hi L' ∧ σ'.nx = σ.nx
 | [], σ, L, L', ys, H, h => by cases h; exact ⟨σ, rfl, H, rfl⟩
 | x :: xs, σ, L, L', ys, H, h => by
  cases h with
  | cons h t =>
   obtain ⟨σ1, q1, q2, q3⟩ := frzC_ok H h
   obtain ⟨σ2, p1, p2, p3⟩ := frzCs_ok q2 t
   exact ⟨σ2, by simp only [Z2S, q1, Option.bind_some, p1]; rfl, p2, p3.trans q3⟩

theorem frzV_ok {x y : PV} {L' : List Res} (H : Has σ lo hi L) (h : ExpV L x y L') (hn : Z5u x = true) : ∃ σ', Z2r σ x = some (y, σ') ∧ Has σ' lo hi L' ∧ σ'.nx = σ.nx := by
 cases h with
 | c h =>
  obtain ⟨σ', q1, q2, q3⟩ := frzC_ok H h
  refine ⟨σ', ?_, q2, q3⟩
  cases h with
  | v y => cases hn
  | n => simp only [Z2r, q1]
  | ro h =>
   rcases h with ⟨rfl, rfl⟩ | rfl
   ·simp only [Z2r, q1]
   ·cases hn
  | s k h =>
   obtain ⟨_, ⟨rfl, rfl⟩ | ⟨id, rfl, hb⟩⟩ := H.sl h
   ·simp only [Z2r, q1]
   ·simp only [Z2r, q1]
 | a h =>
  obtain ⟨σ', q1, q2, q3⟩ := frzCs_ok H h
  exact ⟨σ', by simp only [Z2r, q1, Option.bind_some], q2, q3⟩
 | p h =>
  exfalso
  cases x <;> simp [PV.pure] at h <;> simp [Z5u] at hn
  obtain ⟨z, hz, hz2⟩ := hn
  have := h z hz
  cases z <;> simp [PV.isV] at this
  simp [isRef] at hz2

theorem expP_ok : ∀ {ps qs : List (Nat × PV)} {σ : Heap} {L L' : List Res}, Has σ lo hi L → ExpP L ps qs L' → ∃ σ', Z0h σ ps = some (qs, σ') ∧ Has σ' lo hi L' ∧ σ'.nx = σ.nx
 | [], qs, σ, L, L', H, h => by cases h; exact ⟨σ, rfl, H, rfl⟩
 | p :: ps, qs, σ, L, L', H, h => by
  cases h with
  | keep h t =>
   obtain ⟨σ1, q1, q2, q3⟩ := expP_ok H t
   exact ⟨σ1, by simp only [Z0h, h, Bool.false_eq_true, if_false, q1, Option.bind_some], q2, q3⟩
  | @exp _ L1 _ j x y ps qs h t =>
   by_cases hr : Z5u x = true
   ·obtain ⟨σ1, q1, q2, q3⟩ := frzV_ok H h hr
    obtain ⟨σ2, p1, p2, p3⟩ := expP_ok q2 t
    exact ⟨σ2, by simp only [Z0h, hr, if_true, q1, Option.bind_some, p1], p2, p3.trans q3⟩
   ·have hr : Z5u x = false := by simpa using hr
    obtain ⟨rfl, rfl⟩ := expV_noref H h hr
    obtain ⟨σ2, p1, p2, p3⟩ := expP_ok H t
    exact ⟨σ2, by simp only [Z0h, hr, Bool.false_eq_true, if_false, Option.bind_some, p1], p2, p3⟩

def FrzOK (ops : Array Oper) (base i : Nat) (pp : List (Nat × PV)) : Prop :=
 Z3U (Region.before ops) ops i = true ∨ ∃ ms : List Nat, (pp.flatMap fun p => Z5f p.2) = ms.map (base + ·) ∧
  (ms.all fun m => Nat.blt m ops.size && ((Region.before ops).getD i 0).testBit m && (List.range ops.size).all fun j => !(unord (Region.before ops) i j && ((Region.before ops).getD j 0).testBit m)) = true

theorem ask_frz {parts : Array (Nat × Operand)} {len : Nat} {pp : List (Nat × PV)} (hp : Z3I X e parts.toList = some pp) (h : FrzOK ops base i pp) : Z0X X ops base i ⟨some d, .buildSlice t1 len parts, t, p, af, none⟩ e = true := by
 rcases h with h | ⟨ms, h1, h2⟩
 ·exact Z5o h
 ·refine ask0 ?_
  have hf : frozen X e (.buildSlice t1 len parts) = ms.map (base + ·) := by simp only [frozen, hp, h1]
  simp only [Z01, Z0Q, hf]
  refine List.all_eq_true.2 fun k hk => ?_
  obtain ⟨m, hm, rfl⟩ := List.mem_map.1 hk
  have := List.all_eq_true.1 h2 m hm
  simp only [Bool.and_eq_true] at this
  simp only [Nat.add_sub_cancel_left, Bool.and_eq_true, decide_eq_true_eq]
  exact ⟨⟨⟨Nat.le_add_right _ _, by have := blt_lt this.1.1; omega⟩, this.1.2⟩, this.2⟩

theorem Ops.buildSF {parts : Array (Nat × Operand)} {len sz : Nat} {el : TypeId} {zs : List PV} {pp qq : List (Nat × PV)} {L' : List Res} (xs : List (List FV)) (H : Has σ lo hi L) (hlo : lo ≤ base + i) (hhi : base + i < hi)
  (ht : tslice X.P t1 = some el) (hp : Z3I X e parts.toList = some pp) (hE : ExpP L pp qq L') (hs : tsize X.P el = some sz) (hz : tzero X.P el = some zs) (hc : (zs.length == sz && sz != 0 && Nat.ble (len * sz) 1000000) = true)
  (hf : Z5w (fun i => some (i * sz, sz)) (List.replicate len zs).flatten qq = some (vs xs.flatten)) (hl : xs.length = len) (hx : xs.all (fun y => y.length == sz) = true) (hd : Nat.blt d n = true) (hdr : dr = true → FrzOK ops base i pp)
  (hk : ∀ σ', Has σ' (base + i + 1) hi (.sl (.buf (base + i) len sz) el sz xs true :: L') → Ops X n dr ops base (i + 1) l (set e d (.buf (base + i) len sz)) σ' K) (hlit : X.lit = false := by rfl) :
  Ops X n dr ops base i (⟨some d, .buildSlice t1 len parts, t, p, af, none⟩ :: l) e σ K := by
 simp only [Bool.and_eq_true, beq_iff_eq, bne_iff_ne, ne_eq, Nat.ble_eq] at hc
 obtain ⟨σ1, q1, H1, q3⟩ := expP_ok H hE
 have hl0 : (X.lit && len != 0) = false := by rw [hlit]; rfl
 refine .plain (x := .buf (base + i) len sz) (σ1 := σ1.put (base + i) (.blk el (vs xs.flatten) true)) ?_ (fun h => ask_frz hp (hdr h)) hd (hk _ (H1.push hlo hhi (r' := .sl (.buf (base + i) len sz) el sz xs true) ?_ rfl))
 ·simp only [ZS, Z1L, hp, Option.bind_some, q1, Z1w, ht, hs, hz]
  rw [if_pos ⟨hc.1.1, hc.1.2, hc.2⟩, hf]; simp only [litR, hl0]; rfl
 ·exact ⟨fun y hy => by have := List.all_eq_true.1 hx y hy; simpa using this, .inr ⟨base + i, by rw [hl], Z23⟩⟩
end

end Go.Dn

namespace Go.Dn
open Go

section
variable {X : Ctx} {n : Nat} {fn : FuncId} {ops : Array Oper} {base i : Nat} {l : List Oper} {e : Env} {σ : Heap} {K : Env → Heap → Prop}
variable {d : Nat} {t t1 : TypeId} {p : String} {af : Array Edge} {x y z : Operand} {lo hi k : Nat} {L : List Res}

theorem Ops.makeMapH (H : Has σ lo hi L) (hlo : lo ≤ base + i) (hhi : base + i < hi) (ht : tmap X.P t1 = true) (hd : Nat.blt d n = true)
  (hk : ∀ σ', Has σ' (base + i + 1) hi (.mp (base + i) [] :: L) → Ops X n false ops base (i + 1) l (set e d (.mp (base + i))) σ' K) :
  Ops X n false ops base i (⟨some d, .makeMap t1 none, t, p, af, none⟩ :: l) e σ K :=
 .plain (x := .mp (base + i)) (σ1 := σ.put (base + i) (.map [])) (by simp only [ZS, ht, if_true]) (fun h => by cases h) hd
  (hk _ (H.push hlo hhi (r' := .mp (base + i) []) Z23 rfl))

theorem Has.mpE (H : Has σ lo hi L) {id : Nat} {kv : List (Int × Int)} (hk : L[k]? = some (.mp id kv)) : σ.ent id = .map kv := H.holds k _ hk

theorem Ops.lookupH {id : Nat} {kv : List (Int × Int)} {a : Int} (H : Has σ lo hi L) (k : Nat) (hk : L[k]? = some (.mp id kv)) (hx : Z3 X e x = some (.mp id)) (hy : Z3 X e y = some (.v (.int .i64 a))) (ht : tmap X.P t1 = true) (hd : Nat.blt d n = true)
  (hk' : Ops X n false ops base (i + 1) l (set e d (.v (.int .i64 (mget kv a)))) σ K) : Ops X n false ops base i (⟨some d, .lookup t1 x y false, t, p, af, none⟩ :: l) e σ K :=
 .plain (x := .v (.int .i64 (mget kv a))) (σ1 := σ) (by simp only [ZS, hx, hy, mgetD, ht, if_true, H.mpE hk, Option.map_some]) (fun h => by cases h) hd hk'

theorem Ops.mapUpdateH {id : Nat} {kv : List (Int × Int)} {a b : Int} (H : Has σ lo hi L) (k : Nat) (hk : L[k]? = some (.mp id kv)) (hx : Z3 X e x = some (.mp id)) (hy : Z3 X e y = some (.v (.int .i64 a))) (hz : Z3 X e z = some (.v (.int .i64 b))) (ht : tmap X.P t1 = true)
  (hk' : ∀ σ', Has σ' lo hi (L.set k (.mp id (mput kv a b))) → Ops X n false ops base (i + 1) l e σ' K) : Ops X n false ops base i (⟨none, .mapUpdate t1 x y z, t, p, af, none⟩ :: l) e σ K :=
 .plain0 (x := .undef) (σ1 := σ.put id (.map (mput kv a b))) (by simp only [ZS, hx, hy, hz, mupdD, ht, if_true, H.mpE hk, Option.map_some]) (fun h => by cases h)
  (hk' _ (H.put hk rfl (r' := .mp id (mput kv a b)) Z23 rfl))
end

theorem Ops.nila {X : Ctx} {n : Nat} {dr : Bool} {ops : Array Oper} {base i : Nat} {e : Env} {σ : Heap} {K : Env → Heap → Prop} {lo hi : Nat} {L : List Res} (H : Has σ lo hi L) (h : Hs σ L → K e σ) : Ops X n dr ops base i [] e σ K := .nil (h H.all)

theorem Ops.callFX {X : Ctx} {n : Nat} {dr : Bool} {ops : Array Oper} {base i : Nat} {l : List Oper} {e : Env} {σ : Heap} {K : Env → Heap → Prop} {d : Nat} {t : TypeId} {p : String} {af : Array Edge} {x : Operand} {lo hi : Nat} {L : List Res}
  {f : FuncId} {args : Array Operand} {ts : Array TypeId} {xs ys : List PV} {r : PV} {L' : List Res} (H : Has σ lo hi L) (hx : Z3 X e x = some (.v (.fn f))) (ha : Zn X e args.toList = some xs) (hE : ExpVs L xs ys L') (hf : Fn X f ys r) (hi0 : X.intr f xs = none) (hi1 : X.intr f ys = none) (hdr : dr = true → Z3U (Region.before ops) ops i = true) (hd : Nat.blt d n = true)
  (hk : ∀ σ', Has σ' lo hi L' → Ops X n dr ops base (i + 1) l (set e d r) σ' K) :
  Ops X n dr ops base i (⟨some d, .call { callee := .value x, args := args, argTypes := ts }, t, p, af, none⟩ :: l) e σ K := by
 obtain ⟨σ', q1, q2, q3, _⟩ := Z7U H hE
 exact .plain (x := r) (σ1 := σ') (by simp only [ZS, Z0D, ha, hx, callL_exp hf hi0 hi1 q2]) (fun h => Z5o (hdr h)) hd (hk σ' q3)

section
variable {X : Ctx} {n : Nat} {dr : Bool} {ops : Array Oper} {base i : Nat} {l : List Oper} {e : Env} {σ : Heap} {K : Env → Heap → Prop}
variable {d : Nat} {t t1 : TypeId} {p : String} {af : Array Edge} {x y z : Operand} {lo hi k : Nat} {L : List Res}

end
end Go.Dn

namespace Go.Dn
open Go Go.Proofs
def cloneV (sz by_ : Nat) : List PV → Option PV
 | [.v (.sl xs)] => if (xs.all fun y => y.length == sz) = true ∧ xs.length * by_ ≤ room then some (.v (.sl xs)) else none
 | _ => none
def gcdV : List PV → Option PV
 | [.v (.int .u64 a), .v (.int .u64 b)] => if (0 ≤ a ∧ a ≤ 18446744073709551615) ∧ 0 ≤ b ∧ b ≤ 18446744073709551615 then some (.v (.int .u64 (Int.gcd a b))) else none
 | _ => none
noncomputable def CA : Ctx := { P := Try.prog, glob := fun _ => none, intr := fun f args => if f = 136 then gcdV args else if f = 67 then cloneV 2 16 args else none, opn := fun f => f == 37 || f == 92 || f == 105, keep := fun f => false, lit := true }
noncomputable def C0 : Ctx := { P := Try.prog, glob := fun _ => none, intr := fun _ _ => none, opn := fun _ => false, keep := fun _ => false }
theorem prog_ok : ProgOK Try.prog := by
 refine ⟨fun f fn h => ?_, by kernel_rfl⟩
 have hall : Try.prog.funcs.all (fun fn => !(fn.name == "runtime.NumGoroutine")) = true := by kernel_rfl
 have := Array.all_eq_true_iff_forall_mem.1 hall fn (Array.mem_of_getElem? h)
 simpa using this
theorem c0_ok : CtxOK C0 := ⟨prog_ok, fun f args r h => by cases h⟩
theorem prog_call (f : FuncId) (fu : Func) (vs : Array Value) (w : World) (hf : Try.prog.funcs[f]? = some fu) (hb : fu.body.isSome = true) : (callFunc f vs).run Try.prog w = .ok (.enter f vs) w := by
 have hp : (program).run Try.prog w = .ok Try.prog w := rfl
 simp only [callFunc, Sem.run_bind, hp, Result.andThen_ok, hf, prog_ok.names f fu hf]
 cases hc : fu.body with
 | none => rw [hc] at hb; cases hb
 | some c => simp
def InUg (a : Int) : Prop := 0 ≤ a ∧ a ≤ 18446744073709551615
abbrev u64v (a : Int) : PV := .v (.int .u64 a)

def uOf : Value → Nat | .int _ q => q.toNat | _ => 0

def gcdJ (s0 : St) (a0 : Act) (g : Nat) (a : Act) (w : World) : Prop := ∃ (e : Env) (σ : Heap) (ι : Nat → Nat) (x y : Int), Aft s0 12 a0 (set (set e 0 (u64v x)) 1 (u64v y)) σ a w ι ∧ InUg x ∧ InUg y ∧ Int.gcd x y = g

theorem gcd_step {x y : Int} (hx : 0 ≤ x) (hy : 0 ≤ y) : Int.gcd y (x.tmod y) = Int.gcd x y := by
 obtain ⟨m, rfl⟩ := Int.eq_ofNat_of_zero_le hx
 obtain ⟨k, rfl⟩ := Int.eq_ofNat_of_zero_le hy
 have : ((m : Int).tmod (k : Int)) = ((m % k : Nat) : Int) := rfl
 rw [this]
 show Nat.gcd k (m % k) = Nat.gcd m k
 rw [Nat.gcd_comm m k, Nat.gcd_rec k m, Nat.gcd_comm]

theorem gcd_loop {s0 : St} {a0 : Act} {g : Nat} {A B : Code} {Q : Exit → Act → World → Prop}
  (hA : ∀ (e : Env) (x y : Int) (m : Nat) (ent : Nat → Ent), Runs C0 12 136 A (set (set e 0 (u64v x)) 1 (u64v y)) ⟨m, ent⟩ fun ex e' σ' => (y = 0 ∧ ex = .ret ∧ e' 4 = u64v x) ∨ (y ≠ 0 ∧ ex = .normal ∧ e' 0 = u64v x ∧ e' 1 = u64v y))
  (hB : ∀ (e : Env) (x y : Int) (m : Nat) (ent : Nat → Ent), y ≠ 0 → Runs C0 12 136 B (set (set e 0 (u64v x)) 1 (u64v y)) ⟨m, ent⟩ fun ex e' σ' => ex = .normal ∧ e' 0 = u64v y ∧ e' 1 = u64v (x.tmod y))
  (hQ : ∀ e σ a w ι, Aft s0 12 a0 e σ a w ι → e 4 = u64v g → Q .ret a w) :
  ∀ a w, gcdJ s0 a0 g a w → (Code.seq A (.seq B (.goto 0))).wp Try.prog (Exit.jump 0 (fun a' w' => gcdJ s0 a0 g a' w' ∧ uOf (a'.tmps.getD 1 Go.undef) < uOf (a.tmps.getD 1 Go.undef)) Q) a w := by
 rintro a w ⟨e, σ, ι, x, y, h0, hx, hy, hg⟩
 refine wp_seq ?_
 have hG : Z0j C0 ⟨w, s0.Y, σ, ι⟩ := fun g cells hg => by cases hg
 have h1 := Z6W c0_ok (fn := 136) hG h0.inv h0.env (c := A) (hA e x y σ.nx σ.ent)
 refine wp_mono h1 fun ex a1 w1 hh => ?_
 obtain ⟨x1, e1, σ1, ι1, hq, rfl, ht⟩ := hh
 have ht1 := h0.trans ht
 rcases hq with ⟨rfl, rfl, h4⟩ | ⟨hy0, rfl, k0, k1⟩
 ·refine hQ e1 σ1 a1 w1 ι1 ht1 ?_
  rw [h4, ← hg]
  have : ((Int.gcd x 0 : Nat) : Int) = x := by rw [Int.gcd_zero_right]; have := hx.1; omega
  rw [this]
 ·simp only [Ex.out, Exit.then]
  refine wp_seq ?_
  have he1 : EnvR ⟨w1, s0.Y, σ1, ι1⟩ 12 (set (set e1 0 (u64v x)) 1 (u64v y)) a1 := by
   rw [← Z5K k0, ← Z5K k1]
   exact ht.env
  have hG1 : Z0j C0 ⟨w1, s0.Y, σ1, ι1⟩ := fun g cells hg => by cases hg
  have h2 := Z6W c0_ok (fn := 136) hG1 ht.inv he1 (c := B) (hB e1 x y σ1.nx σ1.ent hy0)
  refine wp_mono h2 fun ex a2 w2 hh => ?_
  obtain ⟨x2, e2, σ2, ι2, ⟨rfl, j0, j1⟩, rfl, ht2⟩ := hh
  have ht3 := ht1.trans ht2
  have hm1 : 0 ≤ x.tmod y := Int.tmod_nonneg y hx.1
  have hm2 : x.tmod y < y := Int.tmod_lt_of_pos x (by have := hy.1; omega)
  simp only [Ex.out, Exit.then]
  refine wp_goto ⟨rfl, ⟨e2, σ2, ι2, y, x.tmod y, ?_, hy, ⟨hm1, by have := hy.2; omega⟩, ?_⟩, ?_⟩
  ·rw [← Z5K j0, ← Z5K j1]
   exact ht3
  ·rw [← hg]
   exact gcd_step hx.1 hy.1
  ·have u1 := ht2.env.2 1
   rw [j1] at u1
   have u2 := h0.env.2 1
   rw [int_val u1, int_val u2]
   simp only [uOf]
   omega

set_option maxRecDepth 100000 in
theorem gcd_calls {s : St} (hi : Inv s) {a b : Int} (ha : InUg a) (hb : InUg b) : Calls Try.prog 136 #[.int .u64 a, .int .u64 b] s.w fun en w' => ∃ v, en = .returned v ∧ ∃ σ', Post s.under (u64v (Int.gcd a b)) σ' v w' := by
 have hv : PVRs s.under [u64v a, u64v b] #[.int .u64 a, .int .u64 b] := by
  refine ⟨rfl, fun i x hx => ?_⟩
  match i with
  | 0 => simp at hx; subst hx; exact .v (.int _ _)
  | 1 => simp at hx; subst hx; exact .v (.int _ _)
  | i + 2 => simp at hx
 have he := env_of (s := s.under) (k := 12) hv
 have hiu := Z8W hi
 have hG : Z0j C0 s.under := fun g cells hg => by cases hg
 refine (callsIn_wide (n := 0)).1 (callsIn_of_wp_marks Try.func136 rfl trivial ?_ rfl)
 refine wpIn_wide.2 ?_
 have hQ : ∀ e σ a' w ι, Aft s.under 12 { tmps := #[Value.int .u64 a, Value.int .u64 b] ++ Array.replicate (12 - 2) undef, defers := [] } e σ a' w ι → e 4 = u64v (Int.gcd a b) →
   bodyPostM Fence.wide 0 Try.prog Try.f136 (fun en w' => ∃ v, en = .returned v ∧ ∃ σ', Post s.under (u64v (Int.gcd a b)) σ' v w') .ret a' w := by
  intro e σ a' w ι ht h4
  exact leaves_ok (X := C0) (fu := Try.f136) (xs := [e 4]) rfl ht rfl fun v w' hp => ⟨v, rfl, σ, by rw [← h4]; exact hp⟩
 refine wp_seq ?_
 refine wp_mono (Z6W (X := C0) (s := s.under) c0_ok (fn := 136) hG hiu he (Q := fun ex e' σ' => ex = .normal ∧ e' 0 = u64v a ∧ e' 1 = u64v b) ?_) ?_
 ·show Runs C0 12 136 _ _ ⟨0, fun _ => .none⟩ _
  repeat' first
   | (apply Ops.moveV; exact rfl; exact rfl)
   | (apply Ops.int; exact rfl; exact rfl; exact rfl; exact rfl; exact rfl)
   | (apply Ops.Z7g; exact rfl; exact rfl)
   | apply Runs.then
   | (apply Runs.region; exact rfl)
   | apply Ops.nil
   | (apply Ops.extract; exact rfl; exact rfl; exact rfl)
   | (apply Ops.moveT; exact rfl; exact rfl)
   | (apply Ops.moveA; exact rfl; exact rfl)
   | (apply Ops.Z82; exact rfl; exact rfl)
   | (apply Ops.not; exact rfl; exact rfl)
   | (apply Ops.neg; exact rfl; exact rfl)
   | (apply Ops.conv; exact rfl; exact rfl; exact rfl; exact rfl)
   | (apply Ops.shr; exact rfl; exact rfl; decide; exact rfl)
   | (apply Ops.shl; exact rfl; exact rfl; decide; exact rfl)
   | (apply Ops.neB; exact rfl; exact rfl; exact rfl; exact rfl)
   | (apply Ops.eqB; exact rfl; exact rfl; exact rfl; exact rfl)
   | (apply Ops.pickTV; exact rfl; exact rfl; exact rfl)
   | (apply Ops.pickFV; exact rfl; exact rfl; exact rfl)
   | (apply Ops.want; exact rfl; exact rfl)
   | (apply Ops.pass; exact rfl; exact rfl; exact rfl)
   | (apply Ops.Z00; exact rfl; exact rfl; exact rfl)
   | (apply Runs.drawn; kernel_rfl; exact rfl)
   | apply Runs.inBlock
   | (apply Ops.knownT; exact rfl; exact rfl; assumption)
   | (apply Ops.knownF; exact rfl; exact rfl; assumption)
   | (refine Ops.split rfl rfl ?_ ?_ <;> intro _)
   | (apply Runs.yes; exact rfl)
   | (apply Runs.no; exact rfl)
   | (apply Runs.yesB; exact rfl; assumption)
   | (apply Runs.noB; exact rfl; assumption)
   | (refine Runs.whether rfl ?_ ?_ <;> intro _)
   | apply Runs.skip
   | apply Runs.ret
   | apply Runs.exit
   | (apply Ends.ret; exact rfl; exact rfl)
   | (apply Ends.normal; exact rfl; exact rfl)
  all_goals exact ⟨rfl, rfl, rfl⟩
 rintro ex a1 w1 ⟨x1, e1, σ1, ι1, ⟨rfl, k0, k1⟩, rfl, ht⟩
 have ht' : Aft s.under 12 { tmps := #[Value.int .u64 a, Value.int .u64 b] ++ Array.replicate (12 - 2) undef, defers := [] } (set (set e1 0 (u64v a)) 1 (u64v b)) σ1 a1 w1 ι1 := by
  rw [← Z5K k0, ← Z5K k1]
  exact ht
 simp only [Ex.out, Exit.then]
 refine wp_scope_jumps 0 (gcdJ s.under { tmps := #[Value.int .u64 a, Value.int .u64 b] ++ Array.replicate (12 - 2) undef, defers := [] } (Int.gcd a b)) (fun a' _ => uOf (a'.tmps.getD 1 Go.undef)) rfl ?_ ?_
 ·refine wp_seq (wp_label ?_)
  refine wp_mono (gcd_loop ?_ ?_ hQ a1 w1 ⟨e1, σ1, ι1, a, b, ht', ha, hb, rfl⟩) fun ex a2 w2 hh => ?_
  ·intro e x y m ent
   repeat' first
    | (apply Ops.moveV; exact rfl; exact rfl)
    | (apply Ops.int; exact rfl; exact rfl; exact rfl; exact rfl; exact rfl)
    | (apply Ops.Z7g; exact rfl; exact rfl)
    | apply Runs.then
    | (apply Runs.region; exact rfl)
    | apply Ops.nil
    | (apply Ops.extract; exact rfl; exact rfl; exact rfl)
    | (apply Ops.moveT; exact rfl; exact rfl)
    | (apply Ops.moveA; exact rfl; exact rfl)
    | (apply Ops.Z82; exact rfl; exact rfl)
    | (apply Ops.not; exact rfl; exact rfl)
    | (apply Ops.neg; exact rfl; exact rfl)
    | (apply Ops.conv; exact rfl; exact rfl; exact rfl; exact rfl)
    | (apply Ops.shr; exact rfl; exact rfl; decide; exact rfl)
    | (apply Ops.shl; exact rfl; exact rfl; decide; exact rfl)
    | (apply Ops.neB; exact rfl; exact rfl; exact rfl; exact rfl)
    | (apply Ops.eqB; exact rfl; exact rfl; exact rfl; exact rfl)
    | (apply Ops.pickTV; exact rfl; exact rfl; exact rfl)
    | (apply Ops.pickFV; exact rfl; exact rfl; exact rfl)
    | (apply Ops.want; exact rfl; exact rfl)
    | (apply Ops.pass; exact rfl; exact rfl; exact rfl)
    | (apply Ops.Z00; exact rfl; exact rfl; exact rfl)
    | (apply Runs.drawn; kernel_rfl; exact rfl)
    | apply Runs.inBlock
    | (apply Ops.knownT; exact rfl; exact rfl; assumption)
    | (apply Ops.knownF; exact rfl; exact rfl; assumption)
    | (refine Ops.split rfl rfl ?_ ?_ <;> intro _)
    | (apply Runs.yes; exact rfl)
    | (apply Runs.no; exact rfl)
    | (apply Runs.yesB; exact rfl; assumption)
    | (apply Runs.noB; exact rfl; assumption)
    | (refine Runs.whether rfl ?_ ?_ <;> intro _)
    | apply Runs.skip
    | apply Runs.ret
    | apply Runs.exit
    | (apply Ends.ret; exact rfl; exact rfl)
    | (apply Ends.normal; exact rfl; exact rfl)
   ·rename_i h
    exact .inl ⟨eq_of_beq h, rfl, rfl⟩
   ·rename_i h
    exact .inr ⟨ne_of_beq_false h, rfl, rfl, rfl⟩
  ·intro e x y m ent hy
   repeat' first
    | (apply Ops.moveV; exact rfl; exact rfl)
    | (apply Ops.int; exact rfl; exact rfl; exact rfl; exact rfl; exact rfl)
    | (apply Ops.Z7g; exact rfl; exact rfl)
    | apply Runs.then
    | (apply Runs.region; exact rfl)
    | apply Ops.nil
    | (apply Ops.extract; exact rfl; exact rfl; exact rfl)
    | (apply Ops.moveT; exact rfl; exact rfl)
    | (apply Ops.moveA; exact rfl; exact rfl)
    | (apply Ops.Z82; exact rfl; exact rfl)
    | (apply Ops.not; exact rfl; exact rfl)
    | (apply Ops.neg; exact rfl; exact rfl)
    | (apply Ops.conv; exact rfl; exact rfl; exact rfl; exact rfl)
    | (apply Ops.shr; exact rfl; exact rfl; decide; exact rfl)
    | (apply Ops.shl; exact rfl; exact rfl; decide; exact rfl)
    | (apply Ops.neB; exact rfl; exact rfl; exact rfl; exact rfl)
    | (apply Ops.eqB; exact rfl; exact rfl; exact rfl; exact rfl)
    | (apply Ops.pickTV; exact rfl; exact rfl; exact rfl)
    | (apply Ops.pickFV; exact rfl; exact rfl; exact rfl)
    | (apply Ops.want; exact rfl; exact rfl)
    | (apply Ops.pass; exact rfl; exact rfl; exact rfl)
    | (apply Ops.Z00; exact rfl; exact rfl; exact rfl)
    | (apply Runs.drawn; kernel_rfl; exact rfl)
    | apply Runs.inBlock
    | refine Ops.rem rfl rfl hy rfl ?_
    | (apply Ops.knownT; exact rfl; exact rfl; assumption)
    | (apply Ops.knownF; exact rfl; exact rfl; assumption)
    | (refine Ops.split rfl rfl ?_ ?_ <;> intro _)
    | (apply Runs.yes; exact rfl)
    | (apply Runs.no; exact rfl)
    | (apply Runs.yesB; exact rfl; assumption)
    | (apply Runs.noB; exact rfl; assumption)
    | (refine Runs.whether rfl ?_ ?_ <;> intro _)
    | apply Runs.skip
    | apply Runs.ret
    | apply Runs.exit
    | (apply Ends.ret; exact rfl; exact rfl)
    | (apply Ends.normal; exact rfl; exact rfl)
   all_goals exact ⟨rfl, rfl, rfl⟩
  ·cases ex <;> first | exact hh | exact ⟨hh.1, hh.2.1⟩
 ·intro a2 w2 hj
  refine wp_seq (wp_skip ?_)
  refine gcd_loop ?_ ?_ hQ a2 w2 hj
  ·intro e x y m ent
   repeat' first
    | (apply Ops.moveV; exact rfl; exact rfl)
    | (apply Ops.int; exact rfl; exact rfl; exact rfl; exact rfl; exact rfl)
    | (apply Ops.Z7g; exact rfl; exact rfl)
    | apply Runs.then
    | (apply Runs.region; exact rfl)
    | apply Ops.nil
    | (apply Ops.extract; exact rfl; exact rfl; exact rfl)
    | (apply Ops.moveT; exact rfl; exact rfl)
    | (apply Ops.moveA; exact rfl; exact rfl)
    | (apply Ops.Z82; exact rfl; exact rfl)
    | (apply Ops.not; exact rfl; exact rfl)
    | (apply Ops.neg; exact rfl; exact rfl)
    | (apply Ops.conv; exact rfl; exact rfl; exact rfl; exact rfl)
    | (apply Ops.shr; exact rfl; exact rfl; decide; exact rfl)
    | (apply Ops.shl; exact rfl; exact rfl; decide; exact rfl)
    | (apply Ops.neB; exact rfl; exact rfl; exact rfl; exact rfl)
    | (apply Ops.eqB; exact rfl; exact rfl; exact rfl; exact rfl)
    | (apply Ops.pickTV; exact rfl; exact rfl; exact rfl)
    | (apply Ops.pickFV; exact rfl; exact rfl; exact rfl)
    | (apply Ops.want; exact rfl; exact rfl)
    | (apply Ops.pass; exact rfl; exact rfl; exact rfl)
    | (apply Ops.Z00; exact rfl; exact rfl; exact rfl)
    | (apply Runs.drawn; kernel_rfl; exact rfl)
    | apply Runs.inBlock
    | (apply Ops.knownT; exact rfl; exact rfl; assumption)
    | (apply Ops.knownF; exact rfl; exact rfl; assumption)
    | (refine Ops.split rfl rfl ?_ ?_ <;> intro _)
    | (apply Runs.yes; exact rfl)
    | (apply Runs.no; exact rfl)
    | (apply Runs.yesB; exact rfl; assumption)
    | (apply Runs.noB; exact rfl; assumption)
    | (refine Runs.whether rfl ?_ ?_ <;> intro _)
    | apply Runs.skip
    | apply Runs.ret
    | apply Runs.exit
    | (apply Ends.ret; exact rfl; exact rfl)
    | (apply Ends.normal; exact rfl; exact rfl)
   ·rename_i h
    exact .inl ⟨eq_of_beq h, rfl, rfl⟩
   ·rename_i h
    exact .inr ⟨ne_of_beq_false h, rfl, rfl, rfl⟩
  ·intro e x y m ent hy
   repeat' first
    | (apply Ops.moveV; exact rfl; exact rfl)
    | (apply Ops.int; exact rfl; exact rfl; exact rfl; exact rfl; exact rfl)
    | (apply Ops.Z7g; exact rfl; exact rfl)
    | apply Runs.then
    | (apply Runs.region; exact rfl)
    | apply Ops.nil
    | (apply Ops.extract; exact rfl; exact rfl; exact rfl)
    | (apply Ops.moveT; exact rfl; exact rfl)
    | (apply Ops.moveA; exact rfl; exact rfl)
    | (apply Ops.Z82; exact rfl; exact rfl)
    | (apply Ops.not; exact rfl; exact rfl)
    | (apply Ops.neg; exact rfl; exact rfl)
    | (apply Ops.conv; exact rfl; exact rfl; exact rfl; exact rfl)
    | (apply Ops.shr; exact rfl; exact rfl; decide; exact rfl)
    | (apply Ops.shl; exact rfl; exact rfl; decide; exact rfl)
    | (apply Ops.neB; exact rfl; exact rfl; exact rfl; exact rfl)
    | (apply Ops.eqB; exact rfl; exact rfl; exact rfl; exact rfl)
    | (apply Ops.pickTV; exact rfl; exact rfl; exact rfl)
    | (apply Ops.pickFV; exact rfl; exact rfl; exact rfl)
    | (apply Ops.want; exact rfl; exact rfl)
    | (apply Ops.pass; exact rfl; exact rfl; exact rfl)
    | (apply Ops.Z00; exact rfl; exact rfl; exact rfl)
    | (apply Runs.drawn; kernel_rfl; exact rfl)
    | apply Runs.inBlock
    | refine Ops.rem rfl rfl hy rfl ?_
    | (apply Ops.knownT; exact rfl; exact rfl; assumption)
    | (apply Ops.knownF; exact rfl; exact rfl; assumption)
    | (refine Ops.split rfl rfl ?_ ?_ <;> intro _)
    | (apply Runs.yes; exact rfl)
    | (apply Runs.no; exact rfl)
    | (apply Runs.yesB; exact rfl; assumption)
    | (apply Runs.noB; exact rfl; assumption)
    | (refine Runs.whether rfl ?_ ?_ <;> intro _)
    | apply Runs.skip
    | apply Runs.ret
    | apply Runs.exit
    | (apply Ends.ret; exact rfl; exact rfl)
    | (apply Ends.normal; exact rfl; exact rfl)
   all_goals exact ⟨rfl, rfl, rfl⟩


set_option maxRecDepth 100000 in
theorem cloneT67 : CloneT Try.prog 41 43 2 16 [.v (.int .i64 0), .v (.int .i64 0)] := ⟨rfl, rfl, rfl, rfl, rfl⟩
theorem pvrs_one' {s : St} {x : PV} {vs : Array Value} (h : PVRs s [x] vs) : ∃ v, vs = #[v] ∧ PVR s x v := by
 obtain ⟨hl, hx⟩ := h
 have : vs.size = 1 := hl.symm
 refine ⟨vs.getD 0 Go.undef, ?_, hx 0 x rfl⟩
 apply Array.ext
 ·simpa using this
 ·intro i h1 h2
  have : i = 0 := by simp at h2; omega
  subst this
  simp [Array.getD, h1]
theorem ca_ok : CtxOK CA := by
 refine ⟨prog_ok, fun f args r h s hi hG vs hv hp => ?_⟩
 simp only [CA] at h
 split at h
 ·rename_i hf
  subst hf
  refine ⟨prog_call 136 _ _ _ Try.func136 rfl, ?_⟩
  unfold gcdV at h
  split at h
  ·rename_i a b
   split at h
   ·rename_i hab
    cases h
    obtain ⟨v0, v1, rfl, h0, h1⟩ := pvrs_two hv
    obtain rfl := Z20 h0
    obtain rfl := Z20 h1
    exact intr_under hi rfl (gcd_calls hi hab.1 hab.2)
   ·cases h
  ·cases h
 split at h
 ·rename_i hf
  subst hf
  refine ⟨prog_call 67 _ _ _ Try.func67 rfl, ?_⟩
  unfold cloneV at h
  split at h
  ·split at h
   ·rename_i xs hx
    cases h
    obtain ⟨v, rfl, hv1⟩ := pvrs_one' hv
    exact clone_calls (X := C0) (b := 4) c0_ok Try.func67 rfl rfl rfl (fun _ => rfl) cloneT67 hi hx.1 hx.2 hv1
   ·cases h
  ·cases h
 cases h
noncomputable def CX : Ctx := { P := Try.prog, glob := fun _ => none, intr := fun f args => CA.intr f args, opn := fun f => f == 37 || f == 85 || f == 86 || f == 92 || f == 105, keep := fun f => f == 85 || f == 86 }
theorem cx_ok : CtxOK CX := by
 refine ⟨prog_ok, fun f args r h s hi hG vs hv hp => ?_⟩
 simp only [CX] at h
 exact ca_ok.intr f args r h s hi hG vs hv hp
theorem cx_intr67 (args : List PV) : CX.intr 67 args = cloneV 2 16 args := rfl
end Go.Dn

namespace Go.Dn
open Go

structure Span where
 From : Int
 To : Int
 deriving DecidableEq

def Span.cs (x : Span) : List FV := [(.int .i64 x.From), (.int .i64 x.To)]

def Span.ok (x : Span) : Prop := okI .i64 x.From ∧ okI .i64 x.To

structure Granule where
 Index : Int
 Ticks : (List Span)
 deriving DecidableEq

def Granule.cs (x : Granule) : List FV := [(.int .i64 x.Index), (.sl (x.Ticks.map Span.cs))]

def Granule.ok (x : Granule) : Prop := okI .i64 x.Index ∧ okL 16 Span.ok x.Ticks

structure Form where
 Period : Int
 Count : Int
 Core : (List (List Span))
 Odd : (List Granule)
 deriving DecidableEq

def Form.cs (x : Form) : List FV := [(.int .i64 x.Period), (.int .i64 x.Count), (.sl (x.Core.map (cL Span.cs))), (.sl (x.Odd.map Granule.cs))]

def Form.ok (x : Form) : Prop := okI .i64 x.Period ∧ okI .i64 x.Count ∧ okL 24 (okL 16 Span.ok) x.Core ∧ okL 32 Granule.ok x.Odd

structure Bound where
 Inf : Int
 N : Int
 deriving DecidableEq

def Bound.cs (x : Bound) : List FV := [(.int .i8 x.Inf), (.int .i64 x.N)]

def Bound.ok (x : Bound) : Prop := okI .i8 x.Inf ∧ okI .i64 x.N

structure Range where
 Low : Int
 High : Int
 HasLow : Bool
 HasHigh : Bool
 deriving DecidableEq

def Range.cs (x : Range) : List FV := [(.int .i64 x.Low), (.int .i64 x.High), (.bool x.HasLow), (.bool x.HasHigh)]

def Range.ok (x : Range) : Prop := okI .i64 x.Low ∧ okI .i64 x.High ∧ okB x.HasLow ∧ okB x.HasHigh

structure size_place where
 first : Int
 last : Int
 deriving DecidableEq

def size_place.cs (x : size_place) : List FV := [(.int .i64 x.first), (.int .i64 x.last)]

def size_place.ok (x : size_place) : Prop := okI .i64 x.first ∧ okI .i64 x.last

structure size_spot where
 index : Int
 place : size_place
 deriving DecidableEq

def size_spot.cs (x : size_spot) : List FV := [(.int .i64 x.index), (.int .i64 x.place.first), (.int .i64 x.place.last)]

def size_spot.ok (x : size_spot) : Prop := okI .i64 x.index ∧ size_place.ok x.place

structure size_form where
 Form : Form
 spots : (List size_spot)
 deriving DecidableEq

def size_form.cs (x : size_form) : List FV := [(.int .i64 x.Form.Period), (.int .i64 x.Form.Count), (.sl (x.Form.Core.map (cL Span.cs))), (.sl (x.Form.Odd.map Granule.cs)), (.sl (x.spots.map size_spot.cs))]

def size_form.ok (x : size_form) : Prop := Form.ok x.Form ∧ okL 24 size_spot.ok x.spots

structure carry_asked where
 f : Form
 m : Int
 deriving DecidableEq

def carry_asked.cs (x : carry_asked) : List FV := [(.int .i64 x.f.Period), (.int .i64 x.f.Count), (.sl (x.f.Core.map (cL Span.cs))), (.sl (x.f.Odd.map Granule.cs)), (.int .i64 x.m)]

def carry_asked.ok (x : carry_asked) : Prop := Form.ok x.f ∧ okI .i64 x.m

noncomputable def Z0S.s0 (f : Form) (s1 : Int × Int) : Option ((Int × Int) ⊕ (Int)) :=
 (bif (decide (s1.2 < (f.Core.length : Int))) then
  (at? f.Core s1.2).bind fun x1 =>
  some (.inl ((w64 (s1.1 + (x1.length : Int))), (w64 (s1.2 + 1))))
 else
  some (.inr s1.1))

noncomputable def Z0S.s1 (f : Form) (s2 : Int × Int) : Option ((Int × Int) ⊕ (Int)) :=
 (bif (decide (s2.2 < (f.Odd.length : Int))) then
  (at? f.Odd s2.2).bind fun x2 =>
  some (.inl ((w64 (s2.1 + (x2.Ticks.length : Int))), (w64 (s2.2 + 1))))
 else
  some (.inr s2.1))

noncomputable def Z0S (f : Form) : Option (Int) :=
 (ZO (Z0S.s0 f) (0, 0)).bind fun (y1 : Int) =>
 (ZO (Z0S.s1 f) (y1, 0)).bind fun (y2 : Int) =>
 some y2

noncomputable def Z0z (f : Form) : Option (Bool) :=
 (
  (bif ((decide ((f.Core.length : Int) ≤ 12)) && (decide ((f.Odd.length : Int) ≤ 8))) then
   (Z0S f).bind fun x1 =>
   some (decide (x1 ≤ 60))
  else
   some false)).bind fun (y1 : Bool) =>
 some y1

noncomputable def Zg (t : Int) : Bool :=
 ((decide (t ≥ (-1099511627776))) && (decide (t ≤ 1099511627776)))

noncomputable def Z0U.s0 (l : (List Span)) (s1 : Int) : Option ((Int) ⊕ (Jx (Unit) (Bool))) :=
 (bif (decide (s1 < (l.length : Int))) then
  (at? l s1).bind fun x1 =>
  (
   (bif (((!(Zg x1.From)) || (!(Zg x1.To))) || (decide (x1.From > x1.To))) then
    some true
   else
    (
     (bif (decide (s1 > 0)) then
      (at? l (w64 (s1 - 1))).bind fun x2 =>
      some (decide (x1.From < (w64 (x2.To + 2))))
     else
      some false)).bind fun (y3 : Bool) =>
    some y3)).bind fun (y2 : Bool) =>
  (bif y2 then
   some (.inr (.ret false))
  else
   some (.inl (w64 (s1 + 1))))
 else
  some (.inr (.go ())))

noncomputable def Z0U (l : (List Span)) : Option (Bool) :=
 (ZO (Z0U.s0 l) 0).bind fun (y1 : Jx (Unit) (Bool)) =>
 y1.elim (fun r' =>
   some r') fun a2 =>
 some true

noncomputable def Z02 (i : Int) : Bool :=
 ((decide (i ≥ (-1099511627776))) && (decide (i ≤ 1099511627776)))

noncomputable def Z07.s0 (f : Form) (s1 : Int) : Option ((Int) ⊕ (Jx (Unit) (Bool))) :=
 (bif (decide (s1 < (f.Core.length : Int))) then
  (at? f.Core s1).bind fun x1 =>
  (Z0U x1).bind fun x2 =>
  (bif (!x2) then
   some (.inr (.ret false))
  else
   some (.inl (w64 (s1 + 1))))
 else
  some (.inr (.go ())))

noncomputable def Z07.s1 (f : Form) (s2 : Int) : Option ((Int) ⊕ (Jx (Unit) (Bool))) :=
 (bif (decide (s2 < (f.Odd.length : Int))) then
  (at? f.Odd s2).bind fun x3 =>
  (Z0U x3.Ticks).bind fun x4 =>
  (
   (bif ((!x4) || (!(Z02 x3.Index))) then
    some true
   else
    (
     (bif (decide (s2 > 0)) then
      (at? f.Odd (w64 (s2 - 1))).bind fun x5 =>
      some (decide (x3.Index ≤ x5.Index))
     else
      some false)).bind fun (y4 : Bool) =>
    some y4)).bind fun (y3 : Bool) =>
  (bif y3 then
   some (.inr (.ret false))
  else
   some (.inl (w64 (s2 + 1))))
 else
  some (.inr (.go ())))

noncomputable def Z07 (f : Form) : Option (Bool) :=
 (bif ((((f.Count != (f.Core.length : Int)) || ((f.Count == 0) != (f.Period == 0))) || (decide (f.Period < 0))) || (decide (f.Period > 1099511627776))) then
  some false
 else
  (ZO (Z07.s0 f) 0).bind fun (y1 : Jx (Unit) (Bool)) =>
  y1.elim (fun r' =>
    some r') fun a2 =>
  (ZO (Z07.s1 f) 0).bind fun (y2 : Jx (Unit) (Bool)) =>
  y2.elim (fun r' =>
    some r') fun a4 =>
  some true)

noncomputable def Z0d.s0 (f : Form) (s2 : Int × (List (List Span))) : Option ((Int × (List (List Span))) ⊕ ((List (List Span)))) :=
 (bif (decide (s2.1 < (f.Core.length : Int))) then
  (
   (
    (at? f.Core s2.1).bind fun x1 =>
    (bif (decide ((x1.length : Int) > 0)) then
     (app? 24 s2.2 [x1]).bind fun x2 =>
     some x2
    else
     some s2.2)).bind fun (y3 : (List (List Span))) =>
   some y3).bind fun (y2 : (List (List Span))) =>
  some (.inl ((w64 (s2.1 + 1)), y2))
 else
  some (.inr s2.2))

noncomputable def Z0d.s1 (f : Form) (y1 : (List (List Span))) (s3 : Int) : Option ((Int) ⊕ (Jx (Unit) (Bool))) :=
 (bif (decide (s3 < (y1.length : Int))) then
  (
   (
    (at? y1 s3).bind fun x3 =>
    (nz? (y1.length : Int)).bind fun u1 =>
    (at? y1 ((w64 (s3 + 1)).tmod (y1.length : Int))).bind fun x4 =>
    (
     (bif ((w64 (s3 + 1)) == (y1.length : Int)) then
      some f.Period
     else
      some 0)).bind fun (y7 : Int) =>
    (at? x3 (w64 ((x3.length : Int) - 1))).bind fun x5 =>
    (at? x4 0).bind fun x6 =>
    (bif (decide (x5.To ≥ (w64 (x6.From + y7)))) then
     some (.ret false)
    else
     some (.go ()))).bind fun (y6 : Jx (Unit) (Bool)) =>
   y6.elim (fun r' =>
     some (.ret r')) fun a4 =>
   some (.go ())).bind fun (y5 : Jx (Unit) (Bool)) =>
  y5.elim (fun r' =>
    some (.inr (.ret r'))) fun a5 =>
  some (.inl (w64 (s3 + 1)))
 else
  some (.inr (.go ())))

noncomputable def Z0d (f : Form) : Option (Bool) :=
 (ZO (Z0d.s0 f) (0, [])).bind fun (y1 : (List (List Span))) =>
 (ZO (Z0d.s1 f y1) 0).bind fun (y4 : Jx (Unit) (Bool)) =>
 y4.elim (fun r' =>
   some r') fun a6 =>
 some true

noncomputable def Z6.s0 (x' : (List Granule)) (target : Int) (cmp : Granule → Int → Option Int) (s1 : Int × Int) : Option ((Int × Int) ⊕ (Int)) :=
 (bif (decide (s1.1 < s1.2)) then
  (
   (at? x' (w64 ((IntKind.u64.wrap (w64 (s1.1 + s1.2))).fdiv (2 ^ 1)))).bind fun x1 =>
   (cmp x1 target).bind fun x2 =>
   (bif (decide (x2 < 0)) then
    some ((w64 ((w64 ((IntKind.u64.wrap (w64 (s1.1 + s1.2))).fdiv (2 ^ 1))) + 1)), s1.2)
   else
    some (s1.1, (w64 ((IntKind.u64.wrap (w64 (s1.1 + s1.2))).fdiv (2 ^ 1)))))).bind fun (y2 : Int × Int) =>
  some (.inl (y2.1, y2.2))
 else
  some (.inr s1.1))

noncomputable def Z6 (x' : (List Granule)) (target : Int) (cmp : Granule → Int → Option Int) : Option (Int × Bool) :=
 (ZO (Z6.s0 x' target cmp) (0, (x'.length : Int))).bind fun (y1 : Int) =>
 (
  (bif (decide (y1 < (x'.length : Int))) then
   (at? x' y1).bind fun x3 =>
   (cmp x3 target).bind fun x4 =>
   some (x4 == 0)
  else
   some false)).bind fun (y3 : Bool) =>
 some (y1, y3)

noncomputable def Z05 (x' : Int) : Bool :=
 (x' != x')

noncomputable def Zx (x' : Int) (y : Int) : Int :=
 (bif (Z05 x') then
  (bif (Z05 y) then
   0
  else
   (-1))
 else
  (bif (Z05 y) then
   1
  else
   (bif (decide (x' < y)) then
    (-1)
   else
    (bif (decide (x' > y)) then
     1
    else
     0))))

noncomputable def Z37 (g : Granule) (i : Int) : Int :=
 (Zx g.Index i)

noncomputable def Z3u (f : Form) (i : Int) : Option (Int × Bool) :=
 (Z6 f.Odd i (fun z0 z1 => some (Z37 z0 z1))).bind fun x1 =>
 some (x1.1, x1.2)

noncomputable def Z0k (a : Int) (b : Int) : Option (Int × Int × Int) :=
 (bif (b == 0) then
  some (0, 0, 11)
 else
  (bif ((b == (-1)) && (a == (-9223372036854775808))) then
   some (0, 0, 10)
  else
   (nz? b).bind fun u1 =>
   (nz? b).bind fun u2 =>
   (
    (bif (((a.tmod b) != 0) && ((decide ((a.tmod b) < 0)) != (decide (b < 0)))) then
     some ((w64 ((w64 (a.tdiv b)) - 1)), (w64 ((a.tmod b) + b)))
    else
     some ((w64 (a.tdiv b)), (a.tmod b)))).bind fun (y1 : Int × Int) =>
   some (y1.1, y1.2, 0)))

noncomputable def ZJ (a : Int) : Int :=
 (bif (decide (a < 0)) then
  (IntKind.u64.wrap (0 - (IntKind.u64.wrap a)))
 else
  (IntKind.u64.wrap a))

noncomputable def ZM (x' : Int) (y : Int) : Int × Int :=
 ((IntKind.u64.wrap ((IntKind.u64.wrap ((IntKind.u64.wrap ((x'.fdiv (2 ^ 32)) * (y.fdiv (2 ^ 32)))) + ((IntKind.u64.wrap ((IntKind.u64.wrap ((x'.fdiv (2 ^ 32)) * (iAnd .u64 y 4294967295))) + ((IntKind.u64.wrap ((iAnd .u64 x' 4294967295) * (iAnd .u64 y 4294967295))).fdiv (2 ^ 32)))).fdiv (2 ^ 32)))) + ((IntKind.u64.wrap ((iAnd .u64 (IntKind.u64.wrap ((IntKind.u64.wrap ((x'.fdiv (2 ^ 32)) * (iAnd .u64 y 4294967295))) + ((IntKind.u64.wrap ((iAnd .u64 x' 4294967295) * (iAnd .u64 y 4294967295))).fdiv (2 ^ 32)))) 4294967295) + (IntKind.u64.wrap ((iAnd .u64 x' 4294967295) * (y.fdiv (2 ^ 32)))))).fdiv (2 ^ 32)))), (IntKind.u64.wrap (x' * y)))

noncomputable def Z0O (n : Int) (minus : Bool) : Int × Int :=
 (bif (minus && (decide (n ≤ 9223372036854775808))) then
  ((w64 (IntKind.u64.wrap (0 - n))), 0)
 else
  (bif ((!minus) && (decide (n ≤ 9223372036854775807))) then
   ((w64 n), 0)
  else
   (0, 10)))

noncomputable def Z0P (a : Int) (b : Int) : Int × Int :=
 (bif (((ZM (ZJ a) (ZJ b)).1) != 0) then
  (0, 10)
 else
  ((Z0O ((ZM (ZJ a) (ZJ b)).2) ((decide (a < 0)) != (decide (b < 0)))).1, (Z0O ((ZM (ZJ a) (ZJ b)).2) ((decide (a < 0)) != (decide (b < 0)))).2))

noncomputable def Z2G (f : Form) (i : Int) : Option ((List Span) × Int × Int) :=
 (Z3u f i).bind fun x1 =>
 (bif x1.2 then
  (at? f.Odd x1.1).bind fun x2 =>
  some (x2.Ticks, 0, 0)
 else
  (bif (f.Count == 0) then
   some ([], 0, 0)
  else
   (Z0k i f.Count).bind fun x3 =>
   (at? f.Core x3.2.1).bind fun x4 =>
   some (x4, (Z0P x3.1 f.Period).1, (Z0P x3.1 f.Period).2)))

noncomputable def ZF (a : Int) (b : Int) : Int × Int :=
 (bif (((decide ((w64 (a + b)) > a)) != (decide (b > 0))) && (b != 0)) then
  (0, 10)
 else
  ((w64 (a + b)), 0))

noncomputable def Z0J.s0 (l : (List Span)) (by' : Int) (s2 : Int × (List Span)) : Option ((Int × (List Span)) ⊕ (Jx ((List Span)) ((List Span) × Int))) :=
 (bif (decide (s2.1 < (l.length : Int))) then
  (at? l s2.1).bind fun x1 =>
  (bif ((((((ZF x1.From by').2) != 0) || (((ZF x1.To by').2) != 0)) || (!(Zg ((ZF x1.From by').1)))) || (!(Zg ((ZF x1.To by').1)))) then
   some (.inr (.ret ([], 20)))
  else
   (app? 16 s2.2 [(Span.mk ((ZF x1.From by').1) ((ZF x1.To by').1))]).bind fun x2 =>
   some (.inl ((w64 (s2.1 + 1)), x2)))
 else
  some (.inr (.go s2.2)))

noncomputable def Z0J (l : (List Span)) (by' : Int) : Option ((List Span) × Int) :=
 (ZO (Z0J.s0 l by') (0, [])).bind fun (y1 : Jx ((List Span)) ((List Span) × Int)) =>
 y1.elim (fun r' =>
   some r') fun a2 =>
 some (a2, 0)

noncomputable def Z0L (f : Form) (i : Int) : Option ((List Span) × Int) :=
 (bif (!(Z02 i)) then
  some ([], 20)
 else
  (Z2G f i).bind fun x1 =>
  (bif ((x1.1.length : Int) == 0) then
   some ([], 0)
  else
   (bif (x1.2.2 != 0) then
    some ([], 20)
   else
    (Z0J x1.1 x1.2.1).bind fun x2 =>
    some (x2.1, x2.2))))

noncomputable def ZK.s0 (s : (List (List Span))) (f : (List Span) → Option Bool) (s1 : Int) : Option ((Int) ⊕ (Jx (Unit) (Int))) :=
 (bif (decide (s1 < (s.length : Int))) then
  (at? s s1).bind fun x1 =>
  (f x1).bind fun x2 =>
  (bif x2 then
   some (.inr (.ret s1))
  else
   some (.inl (w64 (s1 + 1))))
 else
  some (.inr (.go ())))

noncomputable def ZK (s : (List (List Span))) (f : (List Span) → Option Bool) : Option (Int) :=
 (ZO (ZK.s0 s f) 0).bind fun (y1 : Jx (Unit) (Int)) =>
 y1.elim (fun r' =>
   some r') fun a2 =>
 some (-1)

noncomputable def Zi (s : (List (List Span))) (f : (List Span) → Option Bool) : Option (Bool) :=
 (ZK s f).bind fun x1 =>
 some (decide (x1 ≥ 0))

noncomputable def Z4h (l : (List Span)) : Bool :=
 (decide ((l.length : Int) > 0))

noncomputable def Z3X (f : Form) : Option (Bool) :=
 (Zi f.Core (fun z0 => some (Z4h z0))).bind fun x1 =>
 some (!x1)

noncomputable def Z5I (f : Form) (i : Int) : Option (Bool) :=
 (Z2G f i).bind fun x1 =>
 some (decide ((x1.1.length : Int) > 0))

noncomputable def Z0E.s0 (f : Form) (by' : Int) (s1 : Int) : Option ((Int) ⊕ (Jx (Unit) (Int × Bool))) :=
 (bif ((decide (s1 ≥ 0)) && (decide (s1 < (f.Odd.length : Int)))) then
  (at? f.Odd s1).bind fun x3 =>
  (bif (decide ((x3.Ticks.length : Int) > 0)) then
   (at? f.Odd s1).bind fun x4 =>
   some (.inr (.ret (x4.Index, true)))
  else
   some (.inl (w64 (s1 + by'))))
 else
  some (.inr (.go ())))

noncomputable def Z0E.s1 (f : Form) (by' : Int) (s2 : Int) : Option ((Int) ⊕ (Jx (Unit) (Int × Bool))) :=
 (bif (Z02 s2) then
  (Z5I f s2).bind fun x5 =>
  (bif x5 then
   some (.inr (.ret (s2, true)))
  else
   some (.inl (w64 (s2 + by'))))
 else
  some (.inr (.go ())))

noncomputable def Z0E (f : Form) (from' : Int) (by' : Int) : Option (Int × Bool) :=
 (Z3X f).bind fun x1 =>
 (bif x1 then
  (Z3u f from').bind fun x2 =>
  (
   (bif ((decide (by' < 0)) && (!x2.2)) then
    some (w64 (x2.1 - 1))
   else
    some x2.1)).bind fun (y1 : Int) =>
  (ZO (Z0E.s0 f by') y1).bind fun (y2 : Jx (Unit) (Int × Bool)) =>
  y2.elim (fun r' =>
    some r') fun a2 =>
  some (0, false)
 else
  (ZO (Z0E.s1 f by') from').bind fun (y3 : Jx (Unit) (Int × Bool)) =>
  y3.elim (fun r' =>
    some r') fun a4 =>
  some (0, false))

noncomputable def Z1y (f : Form) (i : Int) : Option (Int × Bool) :=
 (bif (decide (i ≤ (-1099511627776))) then
  some (0, false)
 else
  (Z0E f (iMin (w64 (i - 1)) 1099511627776) (-1)).bind fun x1 =>
  some (x1.1, x1.2))

noncomputable def Z1d (f : Form) (i : Int) : Option (Int × Bool) :=
 (bif (decide (i ≥ 1099511627776)) then
  some (0, false)
 else
  (Z0E f (iMax (w64 (i + 1)) (-1099511627776)) 1).bind fun x1 =>
  some (x1.1, x1.2))

noncomputable def Z16 (a : (List Span)) (b : (List Span)) : Option (Bool) :=
 (
  (bif (((a.length : Int) == 0) || ((b.length : Int) == 0)) then
   some true
  else
   (at? a (w64 ((a.length : Int) - 1))).bind fun x1 =>
   (at? b 0).bind fun x2 =>
   some (decide (x1.To < x2.From)))).bind fun (y1 : Bool) =>
 some y1

noncomputable def Z2U (f : Form) (i : Int) : Option (Bool) :=
 (Z0L f i).bind fun x1 =>
 (bif (x1.2 != 0) then
  some false
 else
  (Z1y f i).bind fun x2 =>
  (Z1d f i).bind fun x3 =>
  (
   (bif x2.2 then
    (Z0L f x2.1).bind fun x4 =>
    (bif (x4.2 != 0) then
     some (.ret false)
    else
     some (.go x4.1))
   else
    some (.go []))).bind fun (y1 : Jx ((List Span)) (Bool)) =>
  y1.elim (fun r' =>
    some r') fun a2 =>
  (
   (bif x3.2 then
    (Z0L f x3.1).bind fun x5 =>
    (bif (x5.2 != 0) then
     some (.ret false)
    else
     some (.go x5.1))
   else
    some (.go []))).bind fun (y2 : Jx ((List Span)) (Bool)) =>
  y2.elim (fun r' =>
    some r') fun a4 =>
  (Z16 a2 x1.1).bind fun x6 =>
  (
   (bif x6 then
    (Z16 x1.1 a4).bind fun x7 =>
    some x7
   else
    some false)).bind fun (y3 : Bool) =>
  (
   (bif y3 then
    (Z16 a2 a4).bind fun x8 =>
    some x8
   else
    some false)).bind fun (y4 : Bool) =>
  some y4)

noncomputable def Z0a.s0 (f : Form) (s1 : Int) : Option ((Int) ⊕ (Jx (Unit) (Int))) :=
 (bif (decide (s1 < (f.Odd.length : Int))) then
  (at? f.Odd s1).bind fun x4 =>
  (Z2U f x4.Index).bind fun x5 =>
  (bif (!x5) then
   some (.inr (.ret 50))
  else
   some (.inl (w64 (s1 + 1))))
 else
  some (.inr (.go ())))

noncomputable def Z0a (f : Form) : Option (Int) :=
 (
  (bif ((decide ((f.Core.length : Int) > 6000)) || (decide ((f.Odd.length : Int) > 6000))) then
   some true
  else
   (Z0S f).bind fun x1 =>
   some (decide (x1 > 60000)))).bind fun (y1 : Bool) =>
 (bif y1 then
  some 3
 else
  (Z07 f).bind fun x2 =>
  (
   (bif (!x2) then
    some true
   else
    (Z0d f).bind fun x3 =>
    some (!x3))).bind fun (y2 : Bool) =>
  (bif y2 then
   some 50
  else
   (ZO (Z0a.s0 f) 0).bind fun (y3 : Jx (Unit) (Int)) =>
   y3.elim (fun r' =>
     some r') fun a2 =>
   some 0))

noncomputable def Z3Z (f : Form) : Option (Bool) :=
 (Z0z f).bind fun x1 =>
 (
  (bif x1 then
   (Z0a f).bind fun x2 =>
   some (x2 == 0)
  else
   some false)).bind fun (y1 : Bool) =>
 some y1

def Z0q : Bool := true

noncomputable def Zd.s0 (s1' : (List Span)) (s2' : (List Span)) (s1 : Int) : Option ((Int) ⊕ (Jx (Unit) (Bool))) :=
 (bif (decide (s1 < (s1'.length : Int))) then
  (at? s1' s1).bind fun x1 =>
  (at? s2' s1).bind fun x2 =>
  (bif (!((x1.From == x2.From) && ((x1.To == x2.To) && true))) then
   some (.inr (.ret false))
  else
   some (.inl (w64 (s1 + 1))))
 else
  some (.inr (.go ())))

noncomputable def Zd (s1' : (List Span)) (s2' : (List Span)) : Option (Bool) :=
 (bif ((s1'.length : Int) != (s2'.length : Int)) then
  some false
 else
  (ZO (Zd.s0 s1' s2') 0).bind fun (y1 : Jx (Unit) (Bool)) =>
  y1.elim (fun r' =>
    some r') fun a2 =>
  some true)

noncomputable def Z11 (a : (List Span)) (b : (List Span)) : Option (Bool) :=
 (Zd a b).bind fun x1 =>
 some x1

noncomputable def epactlaw05_FormOrder (f : Form) (i : Int) (k : Int) : Option (Bool) :=
 (Z3Z f).bind fun x1 =>
 (bif (!x1) then
  some Z0q
 else
  (Z0L f (iMin i k)).bind fun x2 =>
  (Z0L f (iMax i k)).bind fun x3 =>
  (bif ((x2.2 != 0) || (x3.2 != 0)) then
   some ((((x2.2 == 0) || ((x2.2 == 20) && ((x2.1.length : Int) == 0))) && ((x3.2 == 0) || ((x3.2 == 20) && ((x3.1.length : Int) == 0)))) && Z0q)
  else
   (Z0U x2.1).bind fun x4 =>
   (
    (bif x4 then
     (Z0U x3.1).bind fun x5 =>
     some x5
    else
     some false)).bind fun (y1 : Bool) =>
   (
    (bif y1 then
     (
      (bif ((iMin i k) == (iMax i k)) then
       (Z11 x2.1 x3.1).bind fun x6 =>
       some x6
      else
       some false)).bind fun (y3 : Bool) =>
     (
      (bif y3 then
       some true
      else
       (
        (bif (decide ((iMin i k) < (iMax i k))) then
         (Z16 x2.1 x3.1).bind fun x7 =>
         some x7
        else
         some false)).bind fun (y5 : Bool) =>
       some y5)).bind fun (y4 : Bool) =>
     some y4
    else
     some false)).bind fun (y2 : Bool) =>
   some (y2 && Z0q)))

noncomputable def Z3M.s0 (f : Form) (i : Int) (s1 : Int) : Option ((Int) ⊕ (Jx (Unit) (Bool))) :=
 (bif (decide (s1 < (f.Odd.length : Int))) then
  (at? f.Odd s1).bind fun x1 =>
  (bif (x1.Index == i) then
   some (.inr (.ret true))
  else
   some (.inl (w64 (s1 + 1))))
 else
  some (.inr (.go ())))

noncomputable def Z3M (f : Form) (i : Int) : Option (Bool) :=
 (ZO (Z3M.s0 f i) 0).bind fun (y1 : Jx (Unit) (Bool)) =>
 y1.elim (fun r' =>
   some r') fun a2 =>
 some false

noncomputable def epactlaw05_FormTurns (f : Form) (i : Int) : Option (Bool) :=
 (Z3Z f).bind fun x1 =>
 (
  (bif ((!x1) || (f.Count == 0)) then
   some true
  else
   (Z3M f ((w64 i).tmod 1048576)).bind fun x2 =>
   some x2)).bind fun (y1 : Bool) =>
 (
  (bif y1 then
   some true
  else
   (Z3M f (w64 (((w64 i).tmod 1048576) + f.Count))).bind fun x3 =>
   some x3)).bind fun (y2 : Bool) =>
 (bif y2 then
  some Z0q
 else
  (Z0L f ((w64 i).tmod 1048576)).bind fun x4 =>
  (Z0L f (w64 (((w64 i).tmod 1048576) + f.Count))).bind fun x5 =>
  (bif ((x4.2 != 0) || (x5.2 != 0)) then
   some Z0q
  else
   (Z0J x4.1 f.Period).bind fun x6 =>
   (
    (bif (x6.2 == 0) then
     (Z11 x6.1 x5.1).bind fun x7 =>
     some x7
    else
     some false)).bind fun (y3 : Bool) =>
   some (y3 && Z0q)))

noncomputable def Z1r.s0 (f : Form) (i : Int) (x2 : Int × Bool) (s1 : Int) : Option ((Int) ⊕ (Jx (Int) (Bool))) :=
 (bif ((x2.2 && (decide (s1 < x2.1))) && (decide (s1 < (w64 (((w64 i).fdiv (2 ^ 1)) + 40))))) then
  (Z0L f s1).bind fun x4 =>
  (bif ((x4.2 == 0) && (decide ((x4.1.length : Int) > 0))) then
   some (.inr (.ret false))
  else
   some (.inl (w64 (s1 + 1))))
 else
  some (.inr (.go ((w64 i).fdiv (2 ^ 1)))))

noncomputable def Z1r.s1 (f : Form) (x3 : Int × Bool) (a2 : Int) (s2 : Int) : Option ((Int) ⊕ (Jx (Unit) (Bool))) :=
 (bif ((x3.2 && (decide (s2 > x3.1))) && (decide (s2 > (w64 (a2 - 40))))) then
  (Z0L f s2).bind fun x5 =>
  (bif ((x5.2 == 0) && (decide ((x5.1.length : Int) > 0))) then
   some (.inr (.ret false))
  else
   some (.inl (w64 (s2 - 1))))
 else
  some (.inr (.go ())))

noncomputable def Z1r (f : Form) (i : Int) : Option (Bool) :=
 (Z3Z f).bind fun x1 =>
 (bif (!x1) then
  some Z0q
 else
  (Z1d f ((w64 i).fdiv (2 ^ 1))).bind fun x2 =>
  (Z1y f ((w64 i).fdiv (2 ^ 1))).bind fun x3 =>
  (bif ((x2.2 && (decide (x2.1 ≤ ((w64 i).fdiv (2 ^ 1))))) || (x3.2 && (decide (x3.1 ≥ ((w64 i).fdiv (2 ^ 1)))))) then
   some false
  else
   (ZO (Z1r.s0 f i x2) (w64 (((w64 i).fdiv (2 ^ 1)) + 1))).bind fun (y1 : Jx (Int) (Bool)) =>
   y1.elim (fun r' =>
     some r') fun a2 =>
   (ZO (Z1r.s1 f x3 a2) (w64 (a2 - 1))).bind fun (y2 : Jx (Unit) (Bool)) =>
   y2.elim (fun r' =>
     some r') fun a4 =>
   (
    (bif x2.2 then
     (Z1y f x2.1).bind fun x6 =>
     (bif ((x6.2 && (decide (x6.1 > a2))) || (x3.2 && ((!x6.2) || (decide (x6.1 < x3.1))))) then
      some (.ret false)
     else
      some (.go ()))
    else
     some (.go ()))).bind fun (y3 : Jx (Unit) (Bool)) =>
   y3.elim (fun r' =>
     some r') fun a6 =>
   some Z0q))

noncomputable def ZE.s0 (s1' : (List Span)) (s2' : (List Span)) (eq : Span → Span → Option Bool) (s1 : Int) : Option ((Int) ⊕ (Jx (Unit) (Bool))) :=
 (bif (decide (s1 < (s1'.length : Int))) then
  (at? s1' s1).bind fun x1 =>
  (at? s2' s1).bind fun x2 =>
  (eq x1 x2).bind fun x3 =>
  (bif (!x3) then
   some (.inr (.ret false))
  else
   some (.inl (w64 (s1 + 1))))
 else
  some (.inr (.go ())))

noncomputable def ZE (s1' : (List Span)) (s2' : (List Span)) (eq : Span → Span → Option Bool) : Option (Bool) :=
 (bif ((s1'.length : Int) != (s2'.length : Int)) then
  some false
 else
  (ZO (ZE.s0 s1' s2' eq) 0).bind fun (y1 : Jx (Unit) (Bool)) =>
  y1.elim (fun r' =>
    some r') fun a2 =>
  some true)

noncomputable def Z0H.s0 (s1' : (List (List Span))) (s2' : (List (List Span))) (eq : (List Span) → (List Span) → Option Bool) (s1 : Int) : Option ((Int) ⊕ (Jx (Unit) (Bool))) :=
 (bif (decide (s1 < (s1'.length : Int))) then
  (at? s1' s1).bind fun x1 =>
  (at? s2' s1).bind fun x2 =>
  (eq x1 x2).bind fun x3 =>
  (bif (!x3) then
   some (.inr (.ret false))
  else
   some (.inl (w64 (s1 + 1))))
 else
  some (.inr (.go ())))

noncomputable def Z0H (s1' : (List (List Span))) (s2' : (List (List Span))) (eq : (List Span) → (List Span) → Option Bool) : Option (Bool) :=
 (bif ((s1'.length : Int) != (s2'.length : Int)) then
  some false
 else
  (ZO (Z0H.s0 s1' s2' eq) 0).bind fun (y1 : Jx (Unit) (Bool)) =>
  y1.elim (fun r' =>
    some r') fun a2 =>
  some true)

noncomputable def Zz.s0 (s1' : (List Granule)) (s2' : (List Granule)) (eq : Granule → Granule → Option Bool) (s1 : Int) : Option ((Int) ⊕ (Jx (Unit) (Bool))) :=
 (bif (decide (s1 < (s1'.length : Int))) then
  (at? s1' s1).bind fun x1 =>
  (at? s2' s1).bind fun x2 =>
  (eq x1 x2).bind fun x3 =>
  (bif (!x3) then
   some (.inr (.ret false))
  else
   some (.inl (w64 (s1 + 1))))
 else
  some (.inr (.go ())))

noncomputable def Zz (s1' : (List Granule)) (s2' : (List Granule)) (eq : Granule → Granule → Option Bool) : Option (Bool) :=
 (bif ((s1'.length : Int) != (s2'.length : Int)) then
  some false
 else
  (ZO (Zz.s0 s1' s2' eq) 0).bind fun (y1 : Jx (Unit) (Bool)) =>
  y1.elim (fun r' =>
    some r') fun a2 =>
  some true)

noncomputable def Z3O.s0 (a : (List Span)) (b : (List Span)) (s1 : Int) : Option ((Int) ⊕ (Jx (Unit) (Bool))) :=
 (bif (decide (s1 < (a.length : Int))) then
  (at? a s1).bind fun x1 =>
  (at? b s1).bind fun x2 =>
  (bif (!((x2.From == x1.From) && ((x2.To == x1.To) && true))) then
   some (.inr (.ret false))
  else
   some (.inl (w64 (s1 + 1))))
 else
  some (.inr (.go ())))

noncomputable def Z3O (a : (List Span)) (b : (List Span)) : Option (Bool) :=
 (bif ((a.length : Int) != (b.length : Int)) then
  some false
 else
  (ZO (Z3O.s0 a b) 0).bind fun (y1 : Jx (Unit) (Bool)) =>
  y1.elim (fun r' =>
    some r') fun a2 =>
  some true)

noncomputable def Z0B.s0 (a : Form) (b : Form) (s1 : Int) : Option ((Int) ⊕ (Jx (Unit) (Bool))) :=
 (bif (decide (s1 < (a.Core.length : Int))) then
  (at? a.Core s1).bind fun x1 =>
  (at? b.Core s1).bind fun x2 =>
  (Z3O x1 x2).bind fun x3 =>
  (bif (!x3) then
   some (.inr (.ret false))
  else
   some (.inl (w64 (s1 + 1))))
 else
  some (.inr (.go ())))

noncomputable def Z0B.s1 (a : Form) (b : Form) (s2 : Int) : Option ((Int) ⊕ (Jx (Unit) (Bool))) :=
 (bif (decide (s2 < (a.Odd.length : Int))) then
  (at? a.Odd s2).bind fun x4 =>
  (at? b.Odd s2).bind fun x5 =>
  (
   (bif (x4.Index != x5.Index) then
    some true
   else
    (at? b.Odd s2).bind fun x6 =>
    (Z3O x4.Ticks x6.Ticks).bind fun x7 =>
    some (!x7))).bind fun (y3 : Bool) =>
  (bif y3 then
   some (.inr (.ret false))
  else
   some (.inl (w64 (s2 + 1))))
 else
  some (.inr (.go ())))

noncomputable def Z0B (a : Form) (b : Form) : Option (Bool) :=
 (bif ((((a.Period != b.Period) || (a.Count != b.Count)) || ((a.Core.length : Int) != (b.Core.length : Int))) || ((a.Odd.length : Int) != (b.Odd.length : Int))) then
  some false
 else
  (ZO (Z0B.s0 a b) 0).bind fun (y1 : Jx (Unit) (Bool)) =>
  y1.elim (fun r' =>
    some r') fun a2 =>
  (ZO (Z0B.s1 a b) 0).bind fun (y2 : Jx (Unit) (Bool)) =>
  y2.elim (fun r' =>
    some r') fun a4 =>
  some true)

noncomputable def Z2j (f : Form) : Option (Bool) :=
 (Z0z f).bind fun x1 =>
 (
  (bif x1 then
   (Z0a f).bind fun x2 =>
   some (x2 == 0)
  else
   some false)).bind fun (y1 : Bool) =>
 some y1

noncomputable def Z32.s0 (f : Form) (most : Int) (s1 : Int) : Option ((Int) ⊕ (Jx (Unit) (Bool))) :=
 (bif (decide (s1 < (f.Odd.length : Int))) then
  (at? f.Odd s1).bind fun x1 =>
  (bif ((decide (x1.Index < (w64 (0 - most)))) || (decide (x1.Index > most))) then
   some (.inr (.ret false))
  else
   some (.inl (w64 (s1 + 1))))
 else
  some (.inr (.go ())))

noncomputable def Z32 (f : Form) (most : Int) : Option (Bool) :=
 (ZO (Z32.s0 f most) 0).bind fun (y1 : Jx (Unit) (Bool)) =>
 y1.elim (fun r' =>
   some r') fun a2 =>
 some true

def Z12 : Bool := true

noncomputable def Z45 (l : (List Span)) : Bool :=
 (decide ((l.length : Int) > 0))

noncomputable def Z34 (f : Form) : Option (Bool) :=
 (Zi f.Core (fun z0 => some (Z45 z0))).bind fun x1 =>
 some (!x1)

noncomputable def Zw.s0 (p1' : Int) {S : Type} (yield : S → Int → Option (S × Bool)) (s1 : Int × S) : Option ((Int × S) ⊕ (Jx (S) (S))) :=
 (bif (decide (s1.1 ≤ p1')) then
  (nz? s1.1).bind fun u1 =>
  (
   (bif ((p1'.tmod s1.1) == 0) then
    (yield s1.2 s1.1).bind fun x1 =>
    some ((!x1.2), x1.1)
   else
    some (false, s1.2))).bind fun (y2 : Bool × S) =>
  (bif y2.1 then
   some (.inr (.ret y2.2))
  else
   some (.inl ((w64 (s1.1 + 1)), y2.2)))
 else
  some (.inr (.go s1.2)))

noncomputable def Zw {S : Type} (p1' : Int) (yield : S → Int → Option (S × Bool)) (st' : S) : Option (S) :=
 (ZO (Zw.s0 p1' yield) (1, st')).bind fun (y1 : Jx (S) (S)) =>
 y1.elim (fun r' =>
   some r') fun a2 =>
 some a2

noncomputable def Z1D (x' : Span) (y : Span) (p2' : Int) : Bool :=
 (((w64 (y.From - x'.From)) == p2') && ((w64 (y.To - x'.To)) == p2'))

noncomputable def Z1l (a : (List Span)) (b : (List Span)) (by' : Int) : Option (Bool) :=
 (ZE a b (fun z0 z1 => some (Z1D z0 z1 by'))).bind fun x1 =>
 some x1

noncomputable def Z0l.s0 (f : Form) (d : Int) (by' : Int) (s1 : Int) : Option ((Int) ⊕ (Jx (Unit) (Bool))) :=
 (bif (decide (s1 < (f.Core.length : Int))) then
  (
   (
    (at? f.Core s1).bind fun x1 =>
    (
     (bif (decide ((w64 (s1 + d)) ≥ f.Count)) then
      some ((w64 ((w64 (s1 + d)) - f.Count)), f.Period)
     else
      some ((w64 (s1 + d)), 0))).bind fun (y4 : Int × Int) =>
    (at? f.Core y4.1).bind fun x2 =>
    (Z1l x1 x2 (w64 (by' - y4.2))).bind fun x3 =>
    (bif (!x3) then
     some (.ret false)
    else
     some (.go ()))).bind fun (y3 : Jx (Unit) (Bool)) =>
   y3.elim (fun r' =>
     some (.ret r')) fun a4 =>
   some (.go ())).bind fun (y2 : Jx (Unit) (Bool)) =>
  y2.elim (fun r' =>
    some (.inr (.ret r'))) fun a5 =>
  some (.inl (w64 (s1 + 1)))
 else
  some (.inr (.go ())))

noncomputable def Z0l (f : Form) (d : Int) (by' : Int) : Option (Bool) :=
 (ZO (Z0l.s0 f d by') 0).bind fun (y1 : Jx (Unit) (Bool)) =>
 y1.elim (fun r' =>
   some r') fun a6 =>
 some true

noncomputable def Zs.s1 (x4 : (List (List Span))) (s3 : Int × (List (List Span))) : Option ((Int × (List (List Span))) ⊕ ((List (List Span)))) :=
 (bif (decide (s3.1 < (x4.length : Int))) then
  (at? x4 s3.1).bind fun x5 =>
  (clone? 16 x5).bind fun x6 =>
  (app? 24 s3.2 [x6]).bind fun x7 =>
  some (.inl ((w64 (s3.1 + 1)), x7))
 else
  some (.inr s3.2))

noncomputable def Zs.b0 (f : Form) (s2 : (List (List Span)) × Int × Int) (z2 : Int) : Option (((List (List Span)) × Int × Int) × Nat) :=
 (nz? z2).bind fun u1 =>
 (Z0k f.Period (w64 (f.Count.tdiv z2))).bind fun x2 =>
 (
  (bif (x2.2.1 != 0) then
   some true
  else
   (Z0l f z2 x2.1).bind fun x3 =>
   some (!x3))).bind fun (y3 : Bool) =>
 (bif y3 then
  some ((s2.1, s2.2.1, s2.2.2), 0)
 else
  (cut? f.Core 0 z2).bind fun x4 =>
  (ZO (Zs.s1 x4) (0, s2.1)).bind fun (y4 : (List (List Span))) =>
  some ((y4, x2.1, z2), 1))

noncomputable def Zs (f : Form) : Option (Form) :=
 (Z34 f).bind fun x1 =>
 (bif x1 then
  some (Form.mk 0 0 [] [])
 else
  (
   (Zw f.Count (Zo (Zs.b0 f)) (([], 0, 0), 0)).bind fun (y2 : ((List (List Span)) × Int × Int) × Nat) =>
   (bif (y2.2 == 0) then
    some (y2.1.1, y2.1.2.1, y2.1.2.2)
   else
    some (y2.1.1, y2.1.2.1, y2.1.2.2))).bind fun (y1 : (List (List Span)) × Int × Int) =>
  some (Form.mk y1.2.1 y1.2.2 y1.1 []))

noncomputable def Z2Z (f : Form) (g : Granule) : Option (Bool) :=
 (Z0L f g.Index).bind fun x1 =>
 (
  (bif (x1.2 == 0) then
   (Z11 x1.1 g.Ticks).bind fun x2 =>
   some x2
  else
   some false)).bind fun (y1 : Bool) =>
 some y1

noncomputable def Zq.s0 (f : Form) (x1 : Form) (s2 : Int × (List Granule)) : Option ((Int × (List Granule)) ⊕ ((List Granule))) :=
 (bif (decide (s2.1 < (f.Odd.length : Int))) then
  (
   (
    (at? f.Odd s2.1).bind fun x2 =>
    (Z2Z x1 x2).bind fun x3 =>
    (bif (!x3) then
     (clone? 16 x2.Ticks).bind fun x4 =>
     (app? 32 s2.2 [(Granule.mk x2.Index x4)]).bind fun x5 =>
     some x5
    else
     some s2.2)).bind fun (y3 : (List Granule)) =>
   some y3).bind fun (y2 : (List Granule)) =>
  some (.inl ((w64 (s2.1 + 1)), y2))
 else
  some (.inr s2.2))

noncomputable def Zq (f : Form) : Option (Form) :=
 (Zs f).bind fun x1 =>
 (ZO (Zq.s0 f x1) (0, [])).bind fun (y1 : (List Granule)) =>
 some (Form.mk x1.Period x1.Count x1.Core y1)

noncomputable def canon_equal_1 (x' : Granule) (y : Granule) : Option (Bool) :=
 (
  (bif (x'.Index == y.Index) then
   (Z11 x'.Ticks y.Ticks).bind fun x1 =>
   some x1
  else
   some false)).bind fun (y1 : Bool) =>
 some y1

noncomputable def Z8v (a : Form) (b : Form) : Option (Bool) :=
 (
  (bif ((a.Period == b.Period) && (a.Count == b.Count)) then
   (Z0H a.Core b.Core (fun z0 z1 => Z11 z0 z1)).bind fun x1 =>
   some x1
  else
   some false)).bind fun (y1 : Bool) =>
 (
  (bif y1 then
   (Zz a.Odd b.Odd (fun z0 z1 => canon_equal_1 z0 z1)).bind fun x2 =>
   some x2
  else
   some false)).bind fun (y2 : Bool) =>
 some y2

noncomputable def ZA9 (f : Form) (g : Form) : Option (Bool) :=
 (Zq f).bind fun x1 =>
 (Zq g).bind fun x2 =>
 (Z8v x1 x2).bind fun x3 =>
 some x3

noncomputable def Z3l.s0 (f : Form) (g : Form) (s1 : Int) : Option ((Int) ⊕ (Jx (Bool) (Bool))) :=
 (bif (decide (s1 ≤ 2000)) then
  (Z0L f s1).bind fun x5 =>
  (Z0L g s1).bind fun x6 =>
  (bif ((x5.2 != 0) || (x6.2 != 0)) then
   some (.inr (.ret Z12))
  else
   (Z11 x5.1 x6.1).bind fun x7 =>
   (bif (!x7) then
    some (.inr (.go false))
   else
    some (.inl (w64 (s1 + 1)))))
 else
  some (.inr (.go true)))

noncomputable def Z3l (f : Form) (g : Form) : Option (Bool) :=
 (Z2j f).bind fun x1 =>
 (
  (bif (!x1) then
   some true
  else
   (Z2j g).bind fun x2 =>
   some (!x2))).bind fun (y1 : Bool) =>
 (
  (bif y1 then
   some true
  else
   (Z32 f 200).bind fun x3 =>
   some (!x3))).bind fun (y2 : Bool) =>
 (
  (bif y2 then
   some true
  else
   (Z32 g 200).bind fun x4 =>
   some (!x4))).bind fun (y3 : Bool) =>
 (bif ((y3 || (decide (f.Period > 32768))) || (decide (g.Period > 32768))) then
  some Z12
 else
  (ZO (Z3l.s0 f g) (-2000)).bind fun (y4 : Jx (Bool) (Bool)) =>
  y4.elim (fun r' =>
    some r') fun a2 =>
  (ZA9 f g).bind fun x8 =>
  (
   (bif (x8 == a2) then
    (Zq f).bind fun x9 =>
    (Zq g).bind fun x10 =>
    (Z0B x9 x10).bind fun x11 =>
    some (x11 == a2)
   else
    some false)).bind fun (y5 : Bool) =>
  some (y5 && Z12))

noncomputable def canon_Is (f : Form) : Option (Bool) :=
 (Zq f).bind fun x1 =>
 (Z8v f x1).bind fun x2 =>
 some x2

noncomputable def Z3P.s0 (f : Form) (i : Int) (x2 : Form) (s1 : Int) : Option ((Int) ⊕ (Jx (Unit) (Bool))) :=
 (bif (decide (s1 < ([i, 0, 1, (-1), (w64 ((i.tmod 50) - 25))].length : Int))) then
  (at? [i, 0, 1, (-1), (w64 ((i.tmod 50) - 25))] s1).bind fun x9 =>
  (Z0L f x9).bind fun x10 =>
  (Z0L x2 x9).bind fun x11 =>
  (
   (bif (x10.2 != x11.2) then
    some true
   else
    (Z11 x10.1 x11.1).bind fun x12 =>
    some (!x12))).bind fun (y5 : Bool) =>
  (bif y5 then
   some (.inr (.ret false))
  else
   some (.inl (w64 (s1 + 1))))
 else
  some (.inr (.go ())))

noncomputable def Z3P (f : Form) (i : Int) : Option (Bool) :=
 (Z2j f).bind fun x1 =>
 (bif (!x1) then
  some Z12
 else
  (Zq f).bind fun x2 =>
  (Z0a x2).bind fun x3 =>
  (
   (bif (x3 != 0) then
    some true
   else
    (canon_Is x2).bind fun x4 =>
    some (!x4))).bind fun (y1 : Bool) =>
  (
   (bif y1 then
    some true
   else
    (Zq x2).bind fun x5 =>
    (Z0B x5 x2).bind fun x6 =>
    some (!x6))).bind fun (y2 : Bool) =>
  (
   (bif (((y2 || (decide (x2.Count > f.Count))) || (decide (x2.Period > f.Period))) || (decide ((x2.Odd.length : Int) > (f.Odd.length : Int)))) then
    some true
   else
    (Z0S x2).bind fun x7 =>
    (Z0S f).bind fun x8 =>
    some (decide (x7 > x8)))).bind fun (y3 : Bool) =>
  (bif y3 then
   some false
  else
   (ZO (Z3P.s0 f i x2) 0).bind fun (y4 : Jx (Unit) (Bool)) =>
   y4.elim (fun r' =>
     some r') fun a2 =>
   (ZA9 f x2).bind fun x13 =>
   some (x13 && Z12)))

noncomputable def Z6o (l : (List Span)) : Option ((List Span)) :=
 (new? 16 (l.length : Int) (Span.mk 0 0)).bind fun x1 =>
 some (cpy x1 l)

noncomputable def Z1a.s0 (f : Form) (s2 : Int × (List (List Span))) : Option ((Int × (List (List Span))) ⊕ ((List (List Span)))) :=
 (bif (decide (s2.1 < (f.Core.length : Int))) then
  (at? f.Core s2.1).bind fun x1 =>
  (Z6o x1).bind fun x2 =>
  (app? 24 s2.2 [x2]).bind fun x3 =>
  some (.inl ((w64 (s2.1 + 1)), x3))
 else
  some (.inr s2.2))

noncomputable def Z1a.s1 (f : Form) (s4 : Int × (List Granule)) : Option ((Int × (List Granule)) ⊕ ((List Granule))) :=
 (bif (decide (s4.1 < (f.Odd.length : Int))) then
  (at? f.Odd s4.1).bind fun x4 =>
  (Z6o x4.Ticks).bind fun x5 =>
  (app? 32 s4.2 [(Granule.mk x4.Index x5)]).bind fun x6 =>
  some (.inl ((w64 (s4.1 + 1)), x6))
 else
  some (.inr s4.2))

noncomputable def Z1a (f : Form) : Option (Form) :=
 (ZO (Z1a.s0 f) (0, [])).bind fun (y1 : (List (List Span))) =>
 (ZO (Z1a.s1 f) (0, [])).bind fun (y2 : (List Granule)) =>
 some (Form.mk f.Period f.Count y1 y2)

noncomputable def Z3v.s0 (f : Form) (s1 : Int) : Option ((Int) ⊕ (Jx (Unit) (Bool))) :=
 (bif (decide (s1 < (f.Core.length : Int))) then
  (at? f.Core s1).bind fun x1 =>
  (bif (decide ((x1.length : Int) > 0)) then
   some (.inr (.ret false))
  else
   some (.inl (w64 (s1 + 1))))
 else
  some (.inr (.go ())))

noncomputable def Z3v (f : Form) : Option (Bool) :=
 (ZO (Z3v.s0 f) 0).bind fun (y1 : Jx (Unit) (Bool)) =>
 y1.elim (fun r' =>
   some r') fun a2 =>
 some true

noncomputable def Z97 (a : Int) (b : Int) : Option (Int × Int) :=
 (nz? b).bind fun u1 =>
 (nz? b).bind fun u2 =>
 (
  (bif (decide ((a.tmod b) < 0)) then
   some ((w64 ((w64 (a.tdiv b)) - 1)), (w64 ((a.tmod b) + b)))
  else
   some ((w64 (a.tdiv b)), (a.tmod b)))).bind fun (y1 : Int × Int) =>
 some (y1.1, y1.2)

noncomputable def Z4J (f : Form) (i : Int) : Option ((List Span) × Int) :=
 (Z97 i f.Count).bind fun x1 =>
 (at? f.Core x1.2).bind fun x2 =>
 some (x2, (w64 (x1.1 * f.Period)))

noncomputable def Z31.s0 (a : (List Span)) (x' : Int) (b : (List Span)) (y : Int) (s1 : Int) : Option ((Int) ⊕ (Jx (Unit) (Bool))) :=
 (bif (decide (s1 < (a.length : Int))) then
  (at? a s1).bind fun x1 =>
  (at? b s1).bind fun x2 =>
  (
   (bif ((w64 (x1.From + x')) != (w64 (x2.From + y))) then
    some true
   else
    (at? a s1).bind fun x3 =>
    (at? b s1).bind fun x4 =>
    some ((w64 (x3.To + x')) != (w64 (x4.To + y))))).bind fun (y2 : Bool) =>
  (bif y2 then
   some (.inr (.ret false))
  else
   some (.inl (w64 (s1 + 1))))
 else
  some (.inr (.go ())))

noncomputable def Z31 (a : (List Span)) (x' : Int) (b : (List Span)) (y : Int) : Option (Bool) :=
 (bif ((a.length : Int) != (b.length : Int)) then
  some false
 else
  (ZO (Z31.s0 a x' b y) 0).bind fun (y1 : Jx (Unit) (Bool)) =>
  y1.elim (fun r' =>
    some r') fun a2 =>
  some true)

noncomputable def Z3Y.s0 (f : Form) (d : Int) (s1 : Int) : Option ((Int) ⊕ (Jx (Unit) (Bool))) :=
 (bif (decide (s1 < f.Count)) then
  (Z4J f s1).bind fun x1 =>
  (Z4J f (w64 (s1 + d))).bind fun x2 =>
  (nz? f.Count).bind fun u3 =>
  (Z31 x1.1 (w64 (x1.2 + (w64 ((w64 (f.Period * d)).tdiv f.Count)))) x2.1 x2.2).bind fun x3 =>
  (bif (!x3) then
   some (.inr (.ret false))
  else
   some (.inl (w64 (s1 + 1))))
 else
  some (.inr (.go ())))

noncomputable def Z3Y (f : Form) (d : Int) : Option (Bool) :=
 (nz? d).bind fun u1 =>
 (
  (bif ((f.Count.tmod d) != 0) then
   some true
  else
   (nz? f.Count).bind fun u2 =>
   some (((w64 (f.Period * d)).tmod f.Count) != 0))).bind fun (y1 : Bool) =>
 (bif y1 then
  some false
 else
  (ZO (Z3Y.s0 f d) 0).bind fun (y2 : Jx (Unit) (Bool)) =>
  y2.elim (fun r' =>
    some r') fun a2 =>
  some true)

noncomputable def Z1E.s0 (f : Form) (s1 : Int) : Option ((Int) ⊕ (Int)) :=
 (Z3Y f s1).bind fun x2 =>
 (bif (!x2) then
  some (.inl (w64 (s1 + 1)))
 else
  some (.inr s1))

noncomputable def Z1E.s1 (f : Form) (y2 : Int) (s2 : Int × (List (List Span))) : Option ((Int × (List (List Span))) ⊕ ((List (List Span)) × Int)) :=
 (bif (decide (s2.1 < y2)) then
  (at? f.Core s2.1).bind fun x3 =>
  (app? 16 [] x3).bind fun x4 =>
  (app? 24 s2.2 [x4]).bind fun x5 =>
  some (.inl ((w64 (s2.1 + 1)), x5))
 else
  some (.inr (s2.2, (w64 ((w64 (f.Period * y2)).tdiv f.Count)))))

noncomputable def Z1E.s2 (f : Form) (y1 : (List (List Span)) × Int × Int) (s3 : Int × (List Granule)) : Option ((Int × (List Granule)) ⊕ ((List Granule))) :=
 (bif (decide (s3.1 < (f.Odd.length : Int))) then
  (
   (
    (
     (bif (decide (y1.2.2 > 0)) then
      (at? f.Odd s3.1).bind fun x6 =>
      (Z4J (Form.mk y1.2.1 y1.2.2 y1.1 []) x6.Index).bind fun x7 =>
      some (x7.1, x7.2)
     else
      some ([], 0))).bind fun (y7 : (List Span) × Int) =>
    (at? f.Odd s3.1).bind fun x8 =>
    (Z31 y7.1 y7.2 x8.Ticks 0).bind fun x9 =>
    (bif (!x9) then
     (at? f.Odd s3.1).bind fun x10 =>
     (at? f.Odd s3.1).bind fun x11 =>
     (app? 16 [] x11.Ticks).bind fun x12 =>
     (app? 32 s3.2 [(Granule.mk x10.Index x12)]).bind fun x13 =>
     some x13
    else
     some s3.2)).bind fun (y6 : (List Granule)) =>
   some y6).bind fun (y5 : (List Granule)) =>
  some (.inl ((w64 (s3.1 + 1)), y5))
 else
  some (.inr s3.2))

noncomputable def Z1E (f : Form) : Option (Form) :=
 (
  (Z3v f).bind fun x1 =>
  (bif (!x1) then
   (ZO (Z1E.s0 f) 1).bind fun (y2 : Int) =>
   (nz? f.Count).bind fun u1 =>
   (ZO (Z1E.s1 f y2) (0, [])).bind fun (y3 : (List (List Span)) × Int) =>
   some (y3.1, y3.2, y2)
  else
   some ([], 0, 0))).bind fun (y1 : (List (List Span)) × Int × Int) =>
 (ZO (Z1E.s2 f y1) (0, [])).bind fun (y4 : (List Granule)) =>
 some (Form.mk y1.2.1 y1.2.2 y1.1 y4)

noncomputable def epactlaw06_CanonTells (f : Form) : Option (Bool) :=
 (Z2j f).bind fun x1 =>
 (bif (!x1) then
  some Z12
 else
  (Z1a f).bind fun x2 =>
  (Zq x2).bind fun x3 =>
  (Z1E f).bind fun x4 =>
  (Z0B x3 x4).bind fun x5 =>
  (
   (bif x5 then
    (canon_Is x2).bind fun x6 =>
    (Z0B f x4).bind fun x7 =>
    some (x6 == x7)
   else
    some false)).bind fun (y1 : Bool) =>
  (
   (bif y1 then
    (Z0B x2 f).bind fun x8 =>
    some x8
   else
    some false)).bind fun (y2 : Bool) =>
  some (y2 && Z12))

noncomputable def Z14 (f : Form) : Option (Bool) :=
 (Z0z f).bind fun x1 =>
 (
  (bif x1 then
   (Z0a f).bind fun x2 =>
   some (x2 == 0)
  else
   some false)).bind fun (y1 : Bool) =>
 some y1

def ZY : Bool := true

noncomputable def ZH (a : Bound) : Bool :=
 ((a.Inf == 0) || (((a.Inf == 1) || (a.Inf == (-1))) && (a.N == 0)))

noncomputable def Z1I (k : Int) : Bool :=
 ((decide (k ≥ (-1099511627776))) && (decide (k ≤ 1099511627776)))

noncomputable def Z10 (l : (List Span)) : Option (Span × Bool) :=
 (bif ((l.length : Int) == 0) then
  some ((Span.mk 0 0), false)
 else
  (at? l 0).bind fun x1 =>
  (at? l (w64 ((l.length : Int) - 1))).bind fun x2 =>
  some ((Span.mk x1.From x2.To), true))

noncomputable def Z1N.s0 (x1 : Form) (s2 : Int × (List size_spot)) : Option ((Int × (List size_spot)) ⊕ ((List size_spot))) :=
 (bif (decide (s2.1 < (x1.Core.length : Int))) then
  (
   (
    (at? x1.Core s2.1).bind fun x2 =>
    (Z10 x2).bind fun x3 =>
    (bif x3.2 then
     (app? 24 s2.2 [(size_spot.mk s2.1 (size_place.mk x3.1.From x3.1.To))]).bind fun x4 =>
     some x4
    else
     some s2.2)).bind fun (y3 : (List size_spot)) =>
   some y3).bind fun (y2 : (List size_spot)) =>
  some (.inl ((w64 (s2.1 + 1)), y2))
 else
  some (.inr s2.2))

noncomputable def Z1N (f : Form) : Option (size_form) :=
 (Zq f).bind fun x1 =>
 (ZO (Z1N.s0 x1) (0, [])).bind fun (y1 : (List size_spot)) =>
 some (size_form.mk x1 y1)

noncomputable def Z0N.s0 (f : Int → Option Bool) (s1 : Int × Int) : Option ((Int × Int) ⊕ (Int)) :=
 (bif (decide (s1.1 < s1.2)) then
  (
   (f (w64 ((IntKind.u64.wrap (w64 (s1.1 + s1.2))).fdiv (2 ^ 1)))).bind fun x1 =>
   (bif (!x1) then
    some ((w64 ((w64 ((IntKind.u64.wrap (w64 (s1.1 + s1.2))).fdiv (2 ^ 1))) + 1)), s1.2)
   else
    some (s1.1, (w64 ((IntKind.u64.wrap (w64 (s1.1 + s1.2))).fdiv (2 ^ 1)))))).bind fun (y2 : Int × Int) =>
  some (.inl (y2.1, y2.2))
 else
  some (.inr s1.1))

noncomputable def Z0N (n : Int) (f : Int → Option Bool) : Option (Int) :=
 (ZO (Z0N.s0 f) (0, n)).bind fun (y1 : Int) =>
 some y1

noncomputable def Z1O (n : Int) (p1' : size_form) (p2' : Int) (p3' : Int) : Option (Bool) :=
 (at? p1'.spots n).bind fun x1 =>
 some (decide ((w64 (x1.place.last - (w64 (p2' * p1'.Form.Period)))) ≥ p3'))

noncomputable def Z1P (n : Int) (p1' : size_form) (p2' : Int) (p3' : Int) : Option (Bool) :=
 (at? p1'.spots n).bind fun x1 =>
 some (decide ((w64 (x1.place.first + (w64 (p2' * p1'.Form.Period)))) > p3'))

noncomputable def Z0C (f : size_form) (t : Int) (up : Bool) : Option (Int) :=
 (bif up then
  (at? f.spots (w64 ((f.spots.length : Int) - 1))).bind fun x1 =>
  (Z0k (w64 (x1.place.last - t)) f.Form.Period).bind fun x2 =>
  (Z0N (f.spots.length : Int) (fun z0 => Z1O z0 f x2.1 t)).bind fun x3 =>
  (at? f.spots x3).bind fun x4 =>
  some (w64 (x4.index - (w64 (x2.1 * f.Form.Count))))
 else
  (at? f.spots 0).bind fun x5 =>
  (Z0k (w64 (t - x5.place.first)) f.Form.Period).bind fun x6 =>
  (Z0N (f.spots.length : Int) (fun z0 => Z1P z0 f x6.1 t)).bind fun x7 =>
  (at? f.spots (w64 (x7 - 1))).bind fun x8 =>
  some (w64 (x8.index + (w64 (x6.1 * f.Form.Count)))))

noncomputable def Z2C (g : Granule) (i : Int) : Int :=
 (Zx g.Index i)

noncomputable def Z1n (f : size_form) (i : Int) : Option (Int) :=
 (Z6 f.Form.Odd i (fun z0 z1 => some (Z2C z0 z1))).bind fun x1 =>
 (bif (!x1.2) then
  some (-1)
 else
  some x1.1)

noncomputable def Z2E (f : size_form) (i : Int) : Option (Bool) :=
 (Z0k i f.Form.Count).bind fun x1 =>
 (at? f.Form.Core x1.2.1).bind fun x2 =>
 some (decide ((x2.length : Int) > 0))

noncomputable def Z9.s0 (f : size_form) (y1 : Int) (s1 : Int) : Option ((Int) ⊕ (Int)) :=
 (Z1n f s1).bind fun x2 =>
 (
  (bif (decide (x2 ≥ 0)) then
   some true
  else
   (Z2E f s1).bind fun x3 =>
   some (!x3))).bind fun (y4 : Bool) =>
 (bif y4 then
  some (.inl (w64 (s1 + y1)))
 else
  some (.inr s1))

noncomputable def Z9.s1 (s2 : Int × Int × (List Int) × Int × Bool) : Option ((Int × Int × (List Int) × Int × Bool) ⊕ ((List Int) × Int × Bool)) :=
 (bif (decide (s2.2.1 < s2.1)) then
  (
   (
    (at? s2.2.2.1 s2.2.1).bind fun x4 =>
    (bif ((!s2.2.2.2.2) || (decide (x4 > s2.2.2.2.1))) then
     some (x4, true)
    else
     some (s2.2.2.2.1, s2.2.2.2.2))).bind fun (y8 : Int × Bool) =>
   some (y8.1, y8.2)).bind fun (y7 : Int × Bool) =>
  some (.inl (s2.1, (w64 (s2.2.1 + 1)), s2.2.2.1, y7.1, y7.2))
 else
  some (.inr (s2.2.2.1, s2.2.2.2.1, s2.2.2.2.2)))

noncomputable def Z9.s3 (s4 : Int × Int × (List Int) × Int × Bool) : Option ((Int × Int × (List Int) × Int × Bool) ⊕ ((List Int) × Int × Bool)) :=
 (bif (decide (s4.2.1 < s4.1)) then
  (
   (
    (at? s4.2.2.1 s4.2.1).bind fun x7 =>
    (bif ((!s4.2.2.2.2) || (decide (x7 > s4.2.2.2.1))) then
     some (x7, true)
    else
     some (s4.2.2.2.1, s4.2.2.2.2))).bind fun (y15 : Int × Bool) =>
   some (y15.1, y15.2)).bind fun (y14 : Int × Bool) =>
  some (.inl (s4.1, (w64 (s4.2.1 + 1)), s4.2.2.1, y14.1, y14.2))
 else
  some (.inr (s4.2.2.1, s4.2.2.2.1, s4.2.2.2.2)))

noncomputable def Z9.s2 (f : size_form) (t : Int) (up : Bool) (y1 : Int) (s3 : Int × Int × Bool) : Option ((Int × Int × Bool) ⊕ (Int × Bool)) :=
 (bif (decide (s3.1 < (f.Form.Odd.length : Int))) then
  (
   (
    (at? f.Form.Odd s3.1).bind fun x5 =>
    (Z10 x5.Ticks).bind fun x6 =>
    (bif (x6.2 && ((up && (decide (x6.1.To ≥ t))) || ((!up) && (decide (x6.1.From ≤ t))))) then
     (
      (ZO (Z9.s3) (([(w64 ((w64 (0 - y1)) * x5.Index))].length : Int), 0, [(w64 ((w64 (0 - y1)) * x5.Index))], s3.2.1, s3.2.2)).bind fun (y13 : (List Int) × Int × Bool) =>
      some (y13.1, y13.2.1, y13.2.2)).bind fun (y12 : (List Int) × Int × Bool) =>
     some (y12.2.1, y12.2.2)
    else
     some (s3.2.1, s3.2.2))).bind fun (y11 : Int × Bool) =>
   some (y11.1, y11.2)).bind fun (y10 : Int × Bool) =>
  some (.inl ((w64 (s3.1 + 1)), y10.1, y10.2))
 else
  some (.inr (s3.2.1, s3.2.2)))

noncomputable def Z9 (f : size_form) (t : Int) (up : Bool) : Option (Int × Bool) :=
 (
  (bif up then
   some 1
  else
   some (-1))).bind fun (y1 : Int) =>
 (
  (bif (decide (f.Form.Count > 0)) then
   (Z0C f t up).bind fun x1 =>
   (ZO (Z9.s0 f y1) x1).bind fun (y3 : Int) =>
   (
    (ZO (Z9.s1) (([(w64 ((w64 (0 - y1)) * y3))].length : Int), 0, [(w64 ((w64 (0 - y1)) * y3))], 0, false)).bind fun (y6 : (List Int) × Int × Bool) =>
    some (y6.1, y6.2.1, y6.2.2)).bind fun (y5 : (List Int) × Int × Bool) =>
   some (y5.2.1, y5.2.2)
  else
   some (0, false))).bind fun (y2 : Int × Bool) =>
 (ZO (Z9.s2 f t up y1) (0, y2.1, y2.2)).bind fun (y9 : Int × Bool) =>
 some ((w64 ((w64 (0 - y1)) * y9.1)), y9.2)

noncomputable def ZZ.s1 (s2 : Int × Int × (List Int) × Int × Bool) : Option ((Int × Int × (List Int) × Int × Bool) ⊕ ((List Int) × Int × Bool)) :=
 (bif (decide (s2.2.1 < s2.1)) then
  (
   (
    (at? s2.2.2.1 s2.2.1).bind fun x4 =>
    (bif ((!s2.2.2.2.2) || (decide (x4 > s2.2.2.2.1))) then
     some (x4, true)
    else
     some (s2.2.2.2.1, s2.2.2.2.2))).bind fun (y9 : Int × Bool) =>
   some (y9.1, y9.2)).bind fun (y8 : Int × Bool) =>
  some (.inl (s2.1, (w64 (s2.2.1 + 1)), s2.2.2.1, y8.1, y8.2))
 else
  some (.inr (s2.2.2.1, s2.2.2.2.1, s2.2.2.2.2)))

noncomputable def ZZ.s0 (d : Int) (up : Bool) (x1 : size_form) (y1 : Int) (s1 : Int × Int × Bool) : Option ((Int × Int × Bool) ⊕ (Int × Bool)) :=
 (bif (decide (s1.1 < (x1.spots.length : Int))) then
  (
   (
    (at? x1.spots s1.1).bind fun x2 =>
    (
     (bif up then
      some x2.place.first
     else
      some x2.place.last)).bind fun (y5 : Int) =>
    (Z0C x1 (w64 (y5 + d)) up).bind fun x3 =>
    (
     (ZO (ZZ.s1) (([(w64 (y1 * (w64 (x3 - x2.index))))].length : Int), 0, [(w64 (y1 * (w64 (x3 - x2.index))))], s1.2.1, s1.2.2)).bind fun (y7 : (List Int) × Int × Bool) =>
     some (y7.1, y7.2.1, y7.2.2)).bind fun (y6 : (List Int) × Int × Bool) =>
    some (y6.2.1, y6.2.2)).bind fun (y4 : Int × Bool) =>
   some (y4.1, y4.2)).bind fun (y3 : Int × Bool) =>
  some (.inl ((w64 (s1.1 + 1)), y3.1, y3.2))
 else
  some (.inr (s1.2.1, s1.2.2)))

noncomputable def ZZ.s3 (s4 : Int × Int × (List Int) × Int × Bool) : Option ((Int × Int × (List Int) × Int × Bool) ⊕ ((List Int) × Int × Bool)) :=
 (bif (decide (s4.2.1 < s4.1)) then
  (
   (
    (at? s4.2.2.1 s4.2.1).bind fun x8 =>
    (bif ((!s4.2.2.2.2) || (decide (x8 > s4.2.2.2.1))) then
     some (x8, true)
    else
     some (s4.2.2.2.1, s4.2.2.2.2))).bind fun (y18 : Int × Bool) =>
   some (y18.1, y18.2)).bind fun (y17 : Int × Bool) =>
  some (.inl (s4.1, (w64 (s4.2.1 + 1)), s4.2.2.1, y17.1, y17.2))
 else
  some (.inr (s4.2.2.1, s4.2.2.2.1, s4.2.2.2.2)))

noncomputable def ZZ.s4 (s5 : Int × Int × (List Int) × Int × Bool) : Option ((Int × Int × (List Int) × Int × Bool) ⊕ ((List Int) × Int × Bool)) :=
 (bif (decide (s5.2.1 < s5.1)) then
  (
   (
    (at? s5.2.2.1 s5.2.1).bind fun x10 =>
    (bif ((!s5.2.2.2.2) || (decide (x10 > s5.2.2.2.1))) then
     some (x10, true)
    else
     some (s5.2.2.2.1, s5.2.2.2.2))).bind fun (y22 : Int × Bool) =>
   some (y22.1, y22.2)).bind fun (y21 : Int × Bool) =>
  some (.inl (s5.1, (w64 (s5.2.1 + 1)), s5.2.2.1, y21.1, y21.2))
 else
  some (.inr (s5.2.2.1, s5.2.2.2.1, s5.2.2.2.2)))

noncomputable def ZZ.s2 (d : Int) (up : Bool) (x1 : size_form) (y1 : Int) (s3 : Int × Int × Bool) : Option ((Int × Int × Bool) ⊕ (Int × Bool)) :=
 (bif (decide (s3.1 < (x1.Form.Odd.length : Int))) then
  (
   (
    (at? x1.Form.Odd s3.1).bind fun x5 =>
    (Z10 x5.Ticks).bind fun x6 =>
    (bif (!x6.2) then
     some (.ret ())
    else
     (
      (bif up then
       some (x6.1.To, x6.1.From)
      else
       some (x6.1.From, x6.1.To))).bind fun (y13 : Int × Int) =>
     (
      (Z9 x1 (w64 (y13.2 + d)) up).bind fun x7 =>
      (bif x7.2 then
       (
        (ZO (ZZ.s3) (([(w64 (y1 * (w64 (x7.1 - x5.Index))))].length : Int), 0, [(w64 (y1 * (w64 (x7.1 - x5.Index))))], s3.2.1, s3.2.2)).bind fun (y16 : (List Int) × Int × Bool) =>
        some (y16.1, y16.2.1, y16.2.2)).bind fun (y15 : (List Int) × Int × Bool) =>
       some (y15.2.1, y15.2.2)
      else
       some (s3.2.1, s3.2.2))).bind fun (y14 : Int × Bool) =>
     (Z9 x1 (w64 (y13.1 - d)) (!up)).bind fun x9 =>
     (bif x9.2 then
      (
       (ZO (ZZ.s4) (([(w64 (y1 * (w64 (x5.Index - x9.1))))].length : Int), 0, [(w64 (y1 * (w64 (x5.Index - x9.1))))], y14.1, y14.2)).bind fun (y20 : (List Int) × Int × Bool) =>
       some (y20.1, y20.2.1, y20.2.2)).bind fun (y19 : (List Int) × Int × Bool) =>
      some (.go (y19.2.1, y19.2.2))
     else
      some (.go (y14.1, y14.2))))).bind fun (y12 : Jx (Int × Bool) (Unit)) =>
   y12.elim (fun a4 =>
     some (s3.2.1, s3.2.2)) fun a3 =>
   some (a3.1, a3.2)).bind fun (y11 : Int × Bool) =>
  some (.inl ((w64 (s3.1 + 1)), y11.1, y11.2))
 else
  some (.inr (s3.2.1, s3.2.2)))

noncomputable def ZZ (g : Form) (d : Int) (up : Bool) : Option (Int × Bool × Int) :=
 (bif (!(Z1I d)) then
  some (0, false, 2)
 else
  (Z1N g).bind fun x1 =>
  (
   (bif up then
    some (-1)
   else
    some 1)).bind fun (y1 : Int) =>
  (ZO (ZZ.s0 d up x1 y1) (0, 0, false)).bind fun (y2 : Int × Bool) =>
  (ZO (ZZ.s2 d up x1 y1) (0, y2.1, y2.2)).bind fun (y10 : Int × Bool) =>
  some ((w64 (y1 * y10.1)), y10.2, 0))

noncomputable def Z3C (f : Form) (d : Int) : Option (Int × Bool × Int) :=
 (ZZ f d false).bind fun x1 =>
 some (x1.1, x1.2.1, x1.2.2)

noncomputable def Z5Z (f : Form) (d : Int) : Option (Int × Bool × Int) :=
 (ZZ f d true).bind fun x1 =>
 some (x1.1, x1.2.1, x1.2.2)

noncomputable def Z0f (f : Form) (low : Bound) (high : Bound) : Option (Range × Bool × Int) :=
 (bif ((((!(ZH low)) || (!(ZH high))) || (low.Inf == 1)) || (high.Inf == (-1))) then
  some ((Range.mk 0 0 false false), false, 2)
 else
  (
   (bif ((high.Inf == 0) && (decide (high.N ≤ 1099511627776))) then
    (Z3C f (iMax high.N (-1099511627776))).bind fun x1 =>
    (bif (!x1.2.1) then
     some (.ret ((Range.mk 0 0 false false), false, 0))
    else
     some (.go (x1.1, true)))
   else
    some (.go (0, false)))).bind fun (y1 : Jx (Int × Bool) (Range × Bool × Int)) =>
  y1.elim (fun r' =>
    some r') fun a2 =>
  (
   (bif ((low.Inf == 0) && (decide (low.N ≥ (-1099511627776)))) then
    (Z5Z f (iMin low.N 1099511627776)).bind fun x2 =>
    (bif (!x2.2.1) then
     some (.ret ((Range.mk 0 0 false false), false, 0))
    else
     some (.go (x2.1, true)))
   else
    some (.go (0, false)))).bind fun (y2 : Jx (Int × Bool) (Range × Bool × Int)) =>
  y2.elim (fun r' =>
    some r') fun a4 =>
  some ((Range.mk a4.1 a2.1 a4.2 a2.2), true, 0))

noncomputable def epactlaw25_CarryArgs (f : Form) (low : Bound) (high : Bound) : Option (Bool) :=
 (Z14 f).bind fun x1 =>
 (bif (!x1) then
  some ZY
 else
  (Z0f f low high).bind fun x2 =>
  (bif ((((!(ZH low)) || (!(ZH high))) || (low.Inf == 1)) || (high.Inf == (-1))) then
   some ((((x2.2.2 == 2) && (!x2.2.1)) && ((x2.1.Low == 0) && ((x2.1.High == 0) && ((x2.1.HasLow == false) && ((x2.1.HasHigh == false) && true))))) && ZY)
  else
   (bif (((x2.2.2 != 0) || ((low.Inf == (-1)) && x2.1.HasLow)) || ((high.Inf == 1) && x2.1.HasHigh)) then
    some false
   else
    (Z0f f (Bound.mk (-1) 0) (Bound.mk 1 0)).bind fun x3 =>
    some ((((x3.2.2 == 0) && x3.2.1) && ((x3.1.Low == 0) && ((x3.1.High == 0) && ((x3.1.HasLow == false) && ((x3.1.HasHigh == false) && true))))) && ZY))))

noncomputable def Z0c (a : carry_asked) (gap : Int) : Option (Bool) :=
 (Z3C a.f (w64 (gap - 1099511627776))).bind fun x1 =>
 some ((x1.2.1 && (x1.2.2 == 0)) && (decide (x1.1 ≥ a.m)))

noncomputable def Z1B (f : Form) (m : Int) : Option (Bound) :=
 (Z0N 2199023255553 (fun z0 => Z0c (carry_asked.mk f (iMin (iMax m (-4611686018427387904)) 4611686018427387904)) z0)).bind fun x1 =>
 (bif ((w64 ((iMin x1 2199023255552) - 1099511627776)) == (-1099511627776)) then
  some (Bound.mk (-1) 0)
 else
  some (Bound.mk 0 (w64 ((iMin x1 2199023255552) - 1099511627776))))

noncomputable def Z0A (a : Int) (b : Int) : Int × Int :=
 (bif (((decide ((w64 (a - b)) < a)) != (decide (b > 0))) && (b != 0)) then
  (0, 10)
 else
  ((w64 (a - b)), 0))

noncomputable def Zp (a : Bound) : Bound × Int :=
 (bif (!(ZH a)) then
  ((Bound.mk 0 0), 2)
 else
  (bif (((Z0A 0 a.N).2) != 0) then
   ((Bound.mk 0 0), (Z0A 0 a.N).2)
  else
   ((Bound.mk (IntKind.i8.wrap (0 - a.Inf)) ((Z0A 0 a.N).1)), 0)))

noncomputable def Z1C (f : Form) (n : Int) : Option (Bound) :=
 (Z1B f (w64 (0 - (iMax n (-4611686018427387904))))).bind fun x1 =>
 some ((Zp x1).1)

noncomputable def Z03 (a : Bound) (b : Bound) : Bool :=
 (bif ((!(ZH a)) || (!(ZH b))) then
  false
 else
  (bif (a.Inf != b.Inf) then
   (decide (a.Inf < b.Inf))
  else
   (decide (a.N < b.N))))

noncomputable def Z3R.s0 (x2 : Bound) (x3 : Bound) (x4 : Bound) (x5 : Bound) (s1 : Int) : Option ((Int) ⊕ (Jx (Unit) (Bool))) :=
 (bif (decide (s1 < ([x2, x3, x4, x5].length : Int))) then
  (at? [x2, x3, x4, x5] s1).bind fun x6 =>
  (bif (((!(ZH x6)) || (decide (x6.N > 1099511627776))) || (decide (x6.N < (-1099511627776)))) then
   some (.inr (.ret false))
  else
   some (.inl (w64 (s1 + 1))))
 else
  some (.inr (.go ())))

noncomputable def Z3R (f : Form) (m : Int) (n : Int) (low : Int) (high : Int) (wide : Int) : Option (Bool) :=
 (Z14 f).bind fun x1 =>
 (bif (!x1) then
  some ZY
 else
  (Z1B f (iMin m n)).bind fun x2 =>
  (Z1B f (iMax m n)).bind fun x3 =>
  (Z1C f (iMin m n)).bind fun x4 =>
  (Z1C f (iMax m n)).bind fun x5 =>
  (ZO (Z3R.s0 x2 x3 x4 x5) 0).bind fun (y1 : Jx (Unit) (Bool)) =>
  y1.elim (fun r' =>
    some r') fun a2 =>
  (bif ((((Z03 x3 x2) || (Z03 x5 x4)) || (x2.Inf == 1)) || (x4.Inf == (-1))) then
   some false
  else
   (Z0f f (Bound.mk 0 (low.tmod 4398046511104)) (Bound.mk 0 (high.tmod 4398046511104))).bind fun x7 =>
   (Z0f f (Bound.mk 0 (w64 ((low.tmod 4398046511104) - (iAnd .i64 wide 65535)))) (Bound.mk 0 (w64 ((high.tmod 4398046511104) + (iAnd .i64 wide 65535))))).bind fun x8 =>
   (bif (((((x7.2.2 != 0) || (x8.2.2 != 0)) || ((!x7.1.HasLow) && (x7.1.Low != 0))) || ((!x7.1.HasHigh) && (x7.1.High != 0))) || ((!x7.2.1) && (!((x7.1.Low == 0) && ((x7.1.High == 0) && ((x7.1.HasLow == false) && ((x7.1.HasHigh == false) && true))))))) then
    some false
   else
    (bif (((x7.2.1 && (!x8.2.1)) && (decide ((high.tmod 4398046511104) ≥ (-1099511627776)))) && (decide ((low.tmod 4398046511104) ≤ 1099511627776))) then
     some false
    else
     (bif ((x7.2.1 && x8.2.1) && ((x8.1.HasLow && ((!x7.1.HasLow) || (decide (x8.1.Low > x7.1.Low)))) || (x8.1.HasHigh && ((!x7.1.HasHigh) || (decide (x8.1.High < x7.1.High)))))) then
      some false
     else
      some ZY)))))

noncomputable def Z1J (f : Form) (r' : Range) : Option (Bound × Bound) :=
 (
  (bif r'.HasLow then
   (Z1B f r'.Low).bind fun x1 =>
   some (x1.Inf, x1.N)
  else
   some ((-1), 0))).bind fun (y1 : Int × Int) =>
 (
  (bif r'.HasHigh then
   (Z1C f r'.High).bind fun x2 =>
   some (x2.Inf, x2.N)
  else
   some (1, 0))).bind fun (y2 : Int × Int) =>
 some ((Bound.mk y1.1 y1.2), (Bound.mk y2.1 y2.2))

noncomputable def ZU : Form :=
 (Form.mk 7 1 [[(Span.mk 0 4)]] [])

noncomputable def Z1 (n : Int) : Bound :=
 (Bound.mk 0 n)

noncomputable def Z5 (low : Int) (high : Int) : Range :=
 (Range.mk low high true true)

noncomputable def Z0g (f : Form) (low : Int) (high : Int) (want : Range) : Option (Bool) :=
 (Z0f f (Z1 low) (Z1 high)).bind fun x1 =>
 some (((x1.2.2 == 0) && x1.2.1) && ((x1.1.Low == want.Low) && ((x1.1.High == want.High) && ((x1.1.HasLow == want.HasLow) && ((x1.1.HasHigh == want.HasHigh) && true)))))

noncomputable def Z1Z : Option (Bool) :=
 (Z1J (Form.mk 7 1 [[(Span.mk 0 6)]] []) (Range.mk 1 0 true false)).bind fun x1 =>
 (Z1B (Form.mk 7 1 [[(Span.mk 0 6)]] []) 1).bind fun x2 =>
 (
  (bif (!((x2.Inf == ((Z1 1).Inf)) && ((x2.N == ((Z1 1).N)) && true))) then
   some true
  else
   (Z1B (Form.mk 7 1 [[(Span.mk 0 6)]] []) 0).bind fun x3 =>
   some (!((x3.Inf == ((Z1 (-6)).Inf)) && ((x3.N == ((Z1 (-6)).N)) && true))))).bind fun (y1 : Bool) =>
 (
  (bif y1 then
   some true
  else
   (Z1C (Form.mk 7 1 [[(Span.mk 0 6)]] []) 1).bind fun x4 =>
   some (!((x4.Inf == ((Z1 13).Inf)) && ((x4.N == ((Z1 13).N)) && true))))).bind fun (y2 : Bool) =>
 (
  (bif y2 then
   some true
  else
   (Z1C (Form.mk 7 1 [[(Span.mk 0 6)]] []) 0).bind fun x5 =>
   some (!((x5.Inf == ((Z1 6).Inf)) && ((x5.N == ((Z1 6).N)) && true))))).bind fun (y3 : Bool) =>
 (bif ((y3 || (!((x1.1.Inf == ((Z1 1).Inf)) && ((x1.1.N == ((Z1 1).N)) && true)))) || (!((x1.2.Inf == 1) && ((x1.2.N == 0) && true)))) then
  some false
 else
  (Z0g (Form.mk 7 1 [[(Span.mk 0 6)]] []) 1 6 (Z5 0 1)).bind fun x6 =>
  (
   (bif x6 then
    (Z0g (Form.mk 7 1 [[(Span.mk 0 6)]] []) 7 13 (Z5 1 2)).bind fun x7 =>
    some x7
   else
    some false)).bind fun (y4 : Bool) =>
  (
   (bif y4 then
    (Z0g (Form.mk 7 1 [[(Span.mk 0 6)]] []) (-6) 6 (Z5 (-1) 1)).bind fun x8 =>
    some x8
   else
    some false)).bind fun (y5 : Bool) =>
  (
   (bif y5 then
    (Z1B ZU 1).bind fun x9 =>
    some ((x9.Inf == ((Z1 3).Inf)) && ((x9.N == ((Z1 3).N)) && true))
   else
    some false)).bind fun (y6 : Bool) =>
  (
   (bif y6 then
    (Z1C ZU 1).bind fun x10 =>
    some ((x10.Inf == ((Z1 11).Inf)) && ((x10.N == ((Z1 11).N)) && true))
   else
    some false)).bind fun (y7 : Bool) =>
  (
   (bif y7 then
    (Z0g ZU 1 2 (Z5 0 0)).bind fun x11 =>
    some x11
   else
    some false)).bind fun (y8 : Bool) =>
  (
   (bif y8 then
    (Z1B (Form.mk 0 0 [] [(Granule.mk 3 [(Span.mk 5 6)])]) 1).bind fun x12 =>
    some ((x12.Inf == ((Z1 1099511627776).Inf)) && ((x12.N == ((Z1 1099511627776).N)) && true))
   else
    some false)).bind fun (y9 : Bool) =>
  some y9)

noncomputable def find_up : Unit :=
 ()

noncomputable def Z6T (h' : Span) (t : Int) (period : Int) : Option (Int) :=
 (Z0k (w64 (h'.To - t)) period).bind fun x1 =>
 some (w64 (0 - x1.1))

noncomputable def ZT.s0 (f : Form) (t : Int) (s1 : Int × Bool × Int) : Option ((Int × Bool × Int) ⊕ (Int × Bool)) :=
 (bif (decide (s1.2.2 < (f.Core.length : Int))) then
  (
   (
    (at? f.Core s1.2.2).bind fun x1 =>
    (Z10 x1).bind fun x2 =>
    (bif (!x2.2) then
     some (.ret ())
    else
     (Z6T x2.1 t f.Period).bind fun x3 =>
     (bif ((!s1.2.1) || (decide ((w64 ((w64 ((w64 ((w64 (x3 * f.Count)) + s1.2.2)) - s1.1)) * 1)) < 0))) then
      some (.go ((w64 ((w64 (x3 * f.Count)) + s1.2.2)), true))
     else
      some (.go (s1.1, s1.2.1))))).bind fun (y3 : Jx (Int × Bool) (Unit)) =>
   y3.elim (fun a4 =>
     some (s1.1, s1.2.1)) fun a3 =>
   some (a3.1, a3.2)).bind fun (y2 : Int × Bool) =>
  some (.inl (y2.1, y2.2, (w64 (s1.2.2 + 1))))
 else
  some (.inr (s1.1, s1.2.1)))

noncomputable def ZT (f : Form) (t : Int) : Option (Int × Bool) :=
 (ZO (ZT.s0 f t) (0, false, 0)).bind fun (y1 : Int × Bool) =>
 some (y1.1, y1.2)

noncomputable def ZB.s0 (f : Form) (s1 : Int × (List (Int × Int))) : Option ((Int × (List (Int × Int))) ⊕ ((List (Int × Int)))) :=
 (bif (decide (s1.1 < (f.Odd.length : Int))) then
  (at? f.Odd s1.1).bind fun x2 =>
  some (.inl ((w64 (s1.1 + 1)), (mput s1.2 x2.Index (w64 ((mget s1.2 x2.Index) + 1)))))
 else
  some (.inr s1.2))

noncomputable def ZB.s1 (f : Form) (y1 : (List (Int × Int))) (s2 : Int × Bool × Int) : Option ((Int × Bool × Int) ⊕ (Jx (Unit) (Int × Bool))) :=
 (bif (s2.2.1 && (decide (s2.2.2 < 2))) then
  (
   (
    (Z0L (Form.mk f.Period f.Count f.Core []) s2.1).bind fun x4 =>
    (bif (x4.2 != 0) then
     some (.go (w64 (s2.2.2 + 1)))
    else
     (bif ((mget y1 s2.1) == 0) then
      some (.ret (s2.1, true))
     else
      some (.go s2.2.2)))).bind fun (y4 : Jx (Int) (Int × Bool)) =>
   y4.elim (fun r' =>
     some (.ret r')) fun a4 =>
   some (.go a4)).bind fun (y3 : Jx (Int) (Int × Bool)) =>
  y3.elim (fun r' =>
    some (.inr (.ret r'))) fun a5 =>
  (Z1d (Form.mk f.Period f.Count f.Core []) s2.1).bind fun x5 =>
  some (.inl (x5.1, x5.2, a5))
 else
  some (.inr (.go ())))

noncomputable def ZB (f : Form) (t : Int) : Option (Int × Bool) :=
 (ZT f t).bind fun x1 =>
 (bif (!x1.2) then
  some (0, false)
 else
  (ZO (ZB.s0 f) (0, [])).bind fun (y1 : (List (Int × Int))) =>
  (Z1d (Form.mk f.Period f.Count f.Core []) (w64 (x1.1 - 1))).bind fun x3 =>
  (ZO (ZB.s1 f y1) (x3.1, x3.2, 0)).bind fun (y2 : Jx (Unit) (Int × Bool)) =>
  y2.elim (fun r' =>
    some r') fun a6 =>
  some (0, false))

noncomputable def Z2H (h' : Span) (t : Int) : Bool :=
 (decide (h'.To ≥ t))

noncomputable def ZQ.s0 (f : Form) (t : Int) (s1 : Int × Bool × Int) : Option ((Int × Bool × Int) ⊕ (Int × Bool)) :=
 (bif (decide (s1.2.2 < (f.Odd.length : Int))) then
  (
   (
    (at? f.Odd s1.2.2).bind fun x2 =>
    (Z10 x2.Ticks).bind fun x3 =>
    (bif ((x3.2 && (Z2H x3.1 (iMax (iMin t 1099511627777) (-1099511627777)))) && ((!s1.2.1) || (decide ((w64 ((w64 (x2.Index - s1.1)) * 1)) < 0)))) then
     some (x2.Index, true)
    else
     some (s1.1, s1.2.1))).bind fun (y3 : Int × Bool) =>
   some (y3.1, y3.2)).bind fun (y2 : Int × Bool) =>
  some (.inl (y2.1, y2.2, (w64 (s1.2.2 + 1))))
 else
  some (.inr (s1.1, s1.2.1)))

noncomputable def ZQ (f : Form) (t : Int) : Option (Int × Bool) :=
 (ZB f (iMax (iMin t 1099511627777) (-1099511627777))).bind fun x1 =>
 (ZO (ZQ.s0 f t) (x1.1, x1.2, 0)).bind fun (y1 : Int × Bool) =>
 some (y1.1, y1.2)

noncomputable def Z6b (f : Form) (t : Int) : Option (Int × Bool) :=
 (ZQ f t).bind fun x1 =>
 some (x1.1, x1.2)

noncomputable def ZW.s0 (x' : (List Span)) (target : Int) (cmp : Span → Int → Option Int) (s1 : Int × Int) : Option ((Int × Int) ⊕ (Int)) :=
 (bif (decide (s1.1 < s1.2)) then
  (
   (at? x' (w64 ((IntKind.u64.wrap (w64 (s1.1 + s1.2))).fdiv (2 ^ 1)))).bind fun x1 =>
   (cmp x1 target).bind fun x2 =>
   (bif (decide (x2 < 0)) then
    some ((w64 ((w64 ((IntKind.u64.wrap (w64 (s1.1 + s1.2))).fdiv (2 ^ 1))) + 1)), s1.2)
   else
    some (s1.1, (w64 ((IntKind.u64.wrap (w64 (s1.1 + s1.2))).fdiv (2 ^ 1)))))).bind fun (y2 : Int × Int) =>
  some (.inl (y2.1, y2.2))
 else
  some (.inr s1.1))

noncomputable def ZW (x' : (List Span)) (target : Int) (cmp : Span → Int → Option Int) : Option (Int × Bool) :=
 (ZO (ZW.s0 x' target cmp) (0, (x'.length : Int))).bind fun (y1 : Int) =>
 (
  (bif (decide (y1 < (x'.length : Int))) then
   (at? x' y1).bind fun x3 =>
   (cmp x3 target).bind fun x4 =>
   some (x4 == 0)
  else
   some false)).bind fun (y3 : Bool) =>
 some (y1, y3)

noncomputable def Z38 (s : Span) (t : Int) : Int :=
 (bif (decide (s.To < t)) then
  (-1)
 else
  (bif (decide (s.From > t)) then
   1
  else
   0))

noncomputable def Z5A (l : (List Span)) (t : Int) : Option (Bool) :=
 (ZW l t (fun z0 z1 => some (Z38 z0 z1))).bind fun x1 =>
 some (x1.2 && (decide (x1.1 < (l.length : Int))))

noncomputable def Z4i (f : Form) (t : Int) : Option (Int × Bool) :=
 (Z6b f t).bind fun x1 =>
 (bif (!x1.2) then
  some (0, false)
 else
  (Z0L f x1.1).bind fun x2 =>
  (Z5A x2.1 t).bind fun x3 =>
  (bif (!x3) then
   some (0, false)
  else
   some (x1.1, true)))

noncomputable def Z3J (f : Form) (a : Int) (b : Int) : Option (Int × Bool) :=
 (Z4i f a).bind fun x1 =>
 (bif (!x1.2) then
  some (0, false)
 else
  (Z4i f b).bind fun x2 =>
  (bif (!x2.2) then
   some (0, false)
  else
   some ((w64 (x2.1 - x1.1)), true)))

noncomputable def ZA (r' : Range) (n : Int) : Bool :=
 (((!r'.HasLow) || (decide (n ≥ r'.Low))) && ((!r'.HasHigh) || (decide (n ≤ r'.High))))

noncomputable def ZD (low : Bound) (n : Int) (high : Bound) : Bool :=
 ((!(Z03 (Bound.mk 0 n) low)) && (!(Z03 high (Bound.mk 0 n))))

noncomputable def Z1V (f : Form) (a : Int) (b : Int) (r' : Range) (low : Int) (high : Int) : Option (Bool) :=
 (Z14 f).bind fun x1 =>
 (bif (!x1) then
  some ZY
 else
  (Z3J f (a.tmod 1099511627776) (b.tmod 1099511627776)).bind fun x2 =>
  (bif (!x2.2) then
   some ZY
  else
   (Z1J f r').bind fun x3 =>
   (bif ((ZA r' x2.1) && (!(ZD x3.1 (w64 ((b.tmod 1099511627776) - (a.tmod 1099511627776))) x3.2))) then
    some false
   else
    (
     (bif (!r'.HasLow) then
      some ((-1), 0)
     else
      some (0, low))).bind fun (y1 : Int × Int) =>
    (
     (bif (!r'.HasHigh) then
      some (1, 0)
     else
      some (0, high))).bind fun (y2 : Int × Int) =>
    (Z0f f (Bound.mk y1.1 y1.2) (Bound.mk y2.1 y2.2)).bind fun x4 =>
    (bif (x4.2.2 != 0) then
     some false
    else
     (bif ((ZD (Bound.mk y1.1 y1.2) (w64 ((b.tmod 1099511627776) - (a.tmod 1099511627776))) (Bound.mk y2.1 y2.2)) && ((!x4.2.1) || (!(ZA x4.1 x2.1)))) then
      some false
     else
      (Z0f f (Bound.mk 0 (w64 ((b.tmod 1099511627776) - (a.tmod 1099511627776)))) (Bound.mk 0 (w64 ((b.tmod 1099511627776) - (a.tmod 1099511627776))))).bind fun x5 =>
      (Z1J f (Z5 x2.1 x2.1)).bind fun x6 =>
      some (((((x5.2.2 == 0) && x5.2.1) && (ZA x5.1 x2.1)) && (ZD x6.1 (w64 ((b.tmod 1099511627776) - (a.tmod 1099511627776))) x6.2)) && ZY))))))

end Go.Dn

namespace Go.Dn
open Go

def Le {α : Type} (a b : Option α) : Prop := ∀ r, a = some r → b = some r
theorem Le.refl {α : Type} (a : Option α) : Le a a := fun _ h => h
theorem Le.bind {α β : Type} {a b : Option α} {f g : α → Option β} (h : Le a b) (hf : ∀ x, Le (f x) (g x)) : Le (a.bind f) (b.bind g) := fun r hr => by
 cases ha : a with
 | none => rw [ha] at hr; cases hr
 | some x => rw [ha] at hr; rw [h x ha]; exact hf x r hr
theorem Le.cond {α : Type} {c : Bool} {a b a' b' : Option α} (h : Le a a') (h' : Le b b') : Le (bif c then a else b) (bif c then a' else b') := by
 cases c
 ·exact h'
 ·exact h
theorem Le.elim {A B C : Type} {y : Jx A B} {f f' : B → Option C} {g g' : A → Option C} (h : ∀ r, Le (f r) (f' r)) (h' : ∀ a, Le (g a) (g' a)) : Le (y.elim f g) (y.elim f' g') := by
 cases y
 ·exact h' _
 ·exact h _
theorem Le.Zo {S T : Type} {f g : S → T → Option (S × Nat)} (h : ∀ s t, Le (f s t) (g s t)) (s : S × Nat) (t : T) : Le (Zo f s t) (Zo g s t) := fun r hr => by
 unfold Go.Dn.Zo at hr ⊢
 split at hr
 ·rename_i h0
  rw [if_pos h0]
  cases ha : f s.1 t with
  | none => rw [ha] at hr; cases hr
  | some x => rw [ha] at hr; rw [h _ _ x ha]; exact hr
 ·cases hr
def Z2v {S R : Type} (step : S → Option (S ⊕ R)) (s : S) : Option R := Z3Q step 1000000 s
theorem iterO_le {S R : Type} {step step' : S → Option (S ⊕ R)} (h : ∀ s, Le (step s) (step' s)) : ∀ (n : Nat) (s : S), Le (Z3Q step n s) (Z3Q step' n s)
 | 0, s => fun r hr => by cases hr
 | n + 1, s => fun r hr => by
  simp only [Z3Q] at hr ⊢
  cases hs : step s with
  | none => rw [hs] at hr; cases hr
  | some x =>
   rw [hs] at hr
   rw [h s x hs]
   cases x with
   | inl s' => exact iterO_le h n s' r hr
   | inr r' => exact hr
theorem Le.loop {S R : Type} {step step' : S → Option (S ⊕ R)} {s : S} (h : ∀ s, Le (step s) (step' s)) : Le (Z2v step s) (ZO step' s) := fun r hr => Zb.2 ⟨1000000, iterO_le h _ s r hr⟩

noncomputable def ZN.s0 (x' : (List Granule)) (target : Int) (cmp : Granule → Int → Option Int) (s1 : Int × Int) : Option ((Int × Int) ⊕ (Int)) :=
 (bif (decide (s1.1 < s1.2)) then
  (
   (at? x' (w64 ((IntKind.u64.wrap (w64 (s1.1 + s1.2))).fdiv (2 ^ 1)))).bind fun x1 =>
   (cmp x1 target).bind fun x2 =>
   (bif (decide (x2 < 0)) then
    some ((w64 ((w64 ((IntKind.u64.wrap (w64 (s1.1 + s1.2))).fdiv (2 ^ 1))) + 1)), s1.2)
   else
    some (s1.1, (w64 ((IntKind.u64.wrap (w64 (s1.1 + s1.2))).fdiv (2 ^ 1)))))).bind fun (y2 : Int × Int) =>
  some (.inl (y2.1, y2.2))
 else
  some (.inr s1.1))

theorem Z1H {x' : (List Granule)} {target : Int} {cmp cmp_ : Granule → Int → Option Int} {s1 : Int × Int} (h_cmp : ∀ z0 z1, Le (cmp z0 z1) (cmp_ z0 z1)) : Le (ZN.s0 x' target cmp s1) (Z6.s0 x' target cmp_ s1) := by
 unfold ZN.s0 Z6.s0
 repeat' (with_reducible (first | exact Le.refl _ | exact h_cmp _ _ | exact h_cmp | refine Le.bind ?_ ?_ | refine Le.cond ?_ ?_ | refine Le.elim ?_ ?_ | refine Le.loop ?_ | refine Le.Zo ?_ _ _ | intro _))

noncomputable def ZN (x' : (List Granule)) (target : Int) (cmp : Granule → Int → Option Int) : Option (Int × Bool) :=
 (Z2v (ZN.s0 x' target cmp) (0, (x'.length : Int))).bind fun (y1 : Int) =>
 (
  (bif (decide (y1 < (x'.length : Int))) then
   (at? x' y1).bind fun x3 =>
   (cmp x3 target).bind fun x4 =>
   some (x4 == 0)
  else
   some false)).bind fun (y3 : Bool) =>
 some (y1, y3)

theorem Z0W {x' : (List Granule)} {target : Int} {cmp cmp_ : Granule → Int → Option Int} (h_cmp : ∀ z0 z1, Le (cmp z0 z1) (cmp_ z0 z1)) : Le (ZN x' target cmp) (Z6 x' target cmp_) := by
 unfold ZN Z6
 repeat' (with_reducible (first | exact Le.refl _ | exact h_cmp _ _ | exact h_cmp | refine Le.bind ?_ ?_ | refine Le.cond ?_ ?_ | refine Le.elim ?_ ?_ | refine Le.loop ?_ | refine Le.Zo ?_ _ _ | refine Z1H ?_ | intro _))

noncomputable def Z64 (f : Form) (i : Int) : Option (Int × Bool) :=
 (ZN f.Odd i (fun z0 z1 => some (Z37 z0 z1))).bind fun x1 =>
 some (x1.1, x1.2)

theorem evle_gran_odd {f : Form} {i : Int} : Le (Z64 f i) (Z3u f i) := by
 unfold Z64 Z3u
 repeat' (with_reducible (first | exact Le.refl _ | refine Le.bind ?_ ?_ | refine Le.cond ?_ ?_ | refine Le.elim ?_ ?_ | refine Le.loop ?_ | refine Le.Zo ?_ _ _ | refine Z0W ?_ | intro _))

noncomputable def Z5n (f : Form) (i : Int) : Option ((List Span) × Int × Int) :=
 (Z64 f i).bind fun x1 =>
 (bif x1.2 then
  (at? f.Odd x1.1).bind fun x2 =>
  some (x2.Ticks, 0, 0)
 else
  (bif (f.Count == 0) then
   some ([], 0, 0)
  else
   (Z0k i f.Count).bind fun x3 =>
   (at? f.Core x3.2.1).bind fun x4 =>
   some (x4, (Z0P x3.1 f.Period).1, (Z0P x3.1 f.Period).2)))

theorem Z9l {f : Form} {i : Int} : Le (Z5n f i) (Z2G f i) := by
 unfold Z5n Z2G
 repeat' (with_reducible (first | exact Le.refl _ | refine Le.bind ?_ ?_ | refine Le.cond ?_ ?_ | refine Le.elim ?_ ?_ | refine Le.loop ?_ | refine Le.Zo ?_ _ _ | refine evle_gran_odd | intro _))

noncomputable def Z50 (l : (List Span)) (by' : Int) : Option ((List Span) × Int) :=
 (Z2v (Z0J.s0 l by') (0, [])).bind fun (y1 : Jx ((List Span)) ((List Span) × Int)) =>
 y1.elim (fun r' =>
   some r') fun a2 =>
 some (a2, 0)

theorem Z9I {l : (List Span)} {by' : Int} : Le (Z50 l by') (Z0J l by') := by
 unfold Z50 Z0J
 repeat' (with_reducible (first | exact Le.refl _ | refine Le.bind ?_ ?_ | refine Le.cond ?_ ?_ | refine Le.elim ?_ ?_ | refine Le.loop ?_ | refine Le.Zo ?_ _ _ | intro _))

noncomputable def Z6N (f : Form) (i : Int) : Option ((List Span) × Int) :=
 (bif (!(Z02 i)) then
  some ([], 20)
 else
  (Z5n f i).bind fun x1 =>
  (bif ((x1.1.length : Int) == 0) then
   some ([], 0)
  else
   (bif (x1.2.2 != 0) then
    some ([], 20)
   else
    (Z50 x1.1 x1.2.1).bind fun x2 =>
    some (x2.1, x2.2))))

theorem evle_gran_Get {f : Form} {i : Int} : Le (Z6N f i) (Z0L f i) := by
 unfold Z6N Z0L
 repeat' (with_reducible (first | exact Le.refl _ | refine Le.bind ?_ ?_ | refine Le.cond ?_ ?_ | refine Le.elim ?_ ?_ | refine Le.loop ?_ | refine Le.Zo ?_ _ _ | refine Z9l | refine Z9I | intro _))

noncomputable def Zl.s0 (s : (List (List Span))) (f : (List Span) → Option Bool) (s1 : Int) : Option ((Int) ⊕ (Jx (Unit) (Int))) :=
 (bif (decide (s1 < (s.length : Int))) then
  (at? s s1).bind fun x1 =>
  (f x1).bind fun x2 =>
  (bif x2 then
   some (.inr (.ret s1))
  else
   some (.inl (w64 (s1 + 1))))
 else
  some (.inr (.go ())))

theorem Z2i {s : (List (List Span))} {f f_ : (List Span) → Option Bool} {s1 : Int} (h_f : ∀ z0, Le (f z0) (f_ z0)) : Le (Zl.s0 s f s1) (ZK.s0 s f_ s1) := by
 unfold Zl.s0 ZK.s0
 repeat' (with_reducible (first | exact Le.refl _ | exact h_f _ | exact h_f | refine Le.bind ?_ ?_ | refine Le.cond ?_ ?_ | refine Le.elim ?_ ?_ | refine Le.loop ?_ | refine Le.Zo ?_ _ _ | intro _))

noncomputable def Zl (s : (List (List Span))) (f : (List Span) → Option Bool) : Option (Int) :=
 (Z2v (Zl.s0 s f) 0).bind fun (y1 : Jx (Unit) (Int)) =>
 y1.elim (fun r' =>
   some r') fun a2 =>
 some (-1)

theorem Z36 {s : (List (List Span))} {f f_ : (List Span) → Option Bool} (h_f : ∀ z0, Le (f z0) (f_ z0)) : Le (Zl s f) (ZK s f_) := by
 unfold Zl ZK
 repeat' (with_reducible (first | exact Le.refl _ | exact h_f _ | exact h_f | refine Le.bind ?_ ?_ | refine Le.cond ?_ ?_ | refine Le.elim ?_ ?_ | refine Le.loop ?_ | refine Le.Zo ?_ _ _ | refine Z2i ?_ | intro _))

noncomputable def Z0i (s : (List (List Span))) (f : (List Span) → Option Bool) : Option (Bool) :=
 (Zl s f).bind fun x1 =>
 some (decide (x1 ≥ 0))

theorem Z2m {s : (List (List Span))} {f f_ : (List Span) → Option Bool} (h_f : ∀ z0, Le (f z0) (f_ z0)) : Le (Z0i s f) (Zi s f_) := by
 unfold Z0i Zi
 repeat' (with_reducible (first | exact Le.refl _ | exact h_f _ | exact h_f | refine Le.bind ?_ ?_ | refine Le.cond ?_ ?_ | refine Le.elim ?_ ?_ | refine Le.loop ?_ | refine Le.Zo ?_ _ _ | refine Z36 ?_ | intro _))

noncomputable def Z1R (s1' : (List Span)) (s2' : (List Span)) : Option (Bool) :=
 (bif ((s1'.length : Int) != (s2'.length : Int)) then
  some false
 else
  (Z2v (Zd.s0 s1' s2') 0).bind fun (y1 : Jx (Unit) (Bool)) =>
  y1.elim (fun r' =>
    some r') fun a2 =>
  some true)

theorem Z3y {s1' : (List Span)} {s2' : (List Span)} : Le (Z1R s1' s2') (Zd s1' s2') := by
 unfold Z1R Zd
 repeat' (with_reducible (first | exact Le.refl _ | refine Le.bind ?_ ?_ | refine Le.cond ?_ ?_ | refine Le.elim ?_ ?_ | refine Le.loop ?_ | refine Le.Zo ?_ _ _ | intro _))

noncomputable def Z51 (a : (List Span)) (b : (List Span)) : Option (Bool) :=
 (Z1R a b).bind fun x1 =>
 some x1

theorem Z9D {a : (List Span)} {b : (List Span)} : Le (Z51 a b) (Z11 a b) := by
 unfold Z51 Z11
 repeat' (with_reducible (first | exact Le.refl _ | refine Le.bind ?_ ?_ | refine Le.cond ?_ ?_ | refine Le.elim ?_ ?_ | refine Le.loop ?_ | refine Le.Zo ?_ _ _ | refine Z3y | intro _))

noncomputable def Za.s0 (s1' : (List Span)) (s2' : (List Span)) (eq : Span → Span → Option Bool) (s1 : Int) : Option ((Int) ⊕ (Jx (Unit) (Bool))) :=
 (bif (decide (s1 < (s1'.length : Int))) then
  (at? s1' s1).bind fun x1 =>
  (at? s2' s1).bind fun x2 =>
  (eq x1 x2).bind fun x3 =>
  (bif (!x3) then
   some (.inr (.ret false))
  else
   some (.inl (w64 (s1 + 1))))
 else
  some (.inr (.go ())))

theorem Z1i {s1' : (List Span)} {s2' : (List Span)} {eq eq_ : Span → Span → Option Bool} {s1 : Int} (h_eq : ∀ z0 z1, Le (eq z0 z1) (eq_ z0 z1)) : Le (Za.s0 s1' s2' eq s1) (ZE.s0 s1' s2' eq_ s1) := by
 unfold Za.s0 ZE.s0
 repeat' (with_reducible (first | exact Le.refl _ | exact h_eq _ _ | exact h_eq | refine Le.bind ?_ ?_ | refine Le.cond ?_ ?_ | refine Le.elim ?_ ?_ | refine Le.loop ?_ | refine Le.Zo ?_ _ _ | intro _))

noncomputable def Za (s1' : (List Span)) (s2' : (List Span)) (eq : Span → Span → Option Bool) : Option (Bool) :=
 (bif ((s1'.length : Int) != (s2'.length : Int)) then
  some false
 else
  (Z2v (Za.s0 s1' s2' eq) 0).bind fun (y1 : Jx (Unit) (Bool)) =>
  y1.elim (fun r' =>
    some r') fun a2 =>
  some true)

theorem Z1v {s1' : (List Span)} {s2' : (List Span)} {eq eq_ : Span → Span → Option Bool} (h_eq : ∀ z0 z1, Le (eq z0 z1) (eq_ z0 z1)) : Le (Za s1' s2' eq) (ZE s1' s2' eq_) := by
 unfold Za ZE
 repeat' (with_reducible (first | exact Le.refl _ | exact h_eq _ _ | exact h_eq | refine Le.bind ?_ ?_ | refine Le.cond ?_ ?_ | refine Le.elim ?_ ?_ | refine Le.loop ?_ | refine Le.Zo ?_ _ _ | refine Z1i ?_ | intro _))

noncomputable def Z4v (f : Form) : Option (Bool) :=
 (Z0i f.Core (fun z0 => some (Z45 z0))).bind fun x1 =>
 some (!x1)

theorem Z99 {f : Form} : Le (Z4v f) (Z34 f) := by
 unfold Z4v Z34
 repeat' (with_reducible (first | exact Le.refl _ | refine Le.bind ?_ ?_ | refine Le.cond ?_ ?_ | refine Le.elim ?_ ?_ | refine Le.loop ?_ | refine Le.Zo ?_ _ _ | refine Z2m ?_ | intro _))

noncomputable def Z0b.s0 (p1' : Int) {S : Type} (yield : S → Int → Option (S × Bool)) (s1 : Int × S) : Option ((Int × S) ⊕ (Jx (S) (S))) :=
 (bif (decide (s1.1 ≤ p1')) then
  (nz? s1.1).bind fun u1 =>
  (
   (bif ((p1'.tmod s1.1) == 0) then
    (yield s1.2 s1.1).bind fun x1 =>
    some ((!x1.2), x1.1)
   else
    some (false, s1.2))).bind fun (y2 : Bool × S) =>
  (bif y2.1 then
   some (.inr (.ret y2.2))
  else
   some (.inl ((w64 (s1.1 + 1)), y2.2)))
 else
  some (.inr (.go s1.2)))

theorem Z4x {p1' : Int} {S : Type} {yield yield_ : S → Int → Option (S × Bool)} {s1 : Int × S} (h_yield : ∀ z0 z1, Le (yield z0 z1) (yield_ z0 z1)) : Le (Z0b.s0 p1' yield s1) (Zw.s0 p1' yield_ s1) := by
 unfold Z0b.s0 Zw.s0
 repeat' (with_reducible (first | exact Le.refl _ | exact h_yield _ _ | exact h_yield | refine Le.bind ?_ ?_ | refine Le.cond ?_ ?_ | refine Le.elim ?_ ?_ | refine Le.loop ?_ | refine Le.Zo ?_ _ _ | intro _))

noncomputable def Z0b {S : Type} (p1' : Int) (yield : S → Int → Option (S × Bool)) (st' : S) : Option (S) :=
 (Z2v (Z0b.s0 p1' yield) (1, st')).bind fun (y1 : Jx (S) (S)) =>
 y1.elim (fun r' =>
   some r') fun a2 =>
 some a2

theorem Z5x {S : Type} {p1' : Int} {yield yield_ : S → Int → Option (S × Bool)} {st' : S} (h_yield : ∀ z0 z1, Le (yield z0 z1) (yield_ z0 z1)) : Le (Z0b p1' yield st') (Zw p1' yield_ st') := by
 unfold Z0b Zw
 repeat' (with_reducible (first | exact Le.refl _ | exact h_yield _ _ | exact h_yield | refine Le.bind ?_ ?_ | refine Le.cond ?_ ?_ | refine Le.elim ?_ ?_ | refine Le.loop ?_ | refine Le.Zo ?_ _ _ | refine Z4x ?_ | intro _))

noncomputable def Z3V (a : (List Span)) (b : (List Span)) (by' : Int) : Option (Bool) :=
 (Za a b (fun z0 z1 => some (Z1D z0 z1 by'))).bind fun x1 =>
 some x1

theorem Z79 {a : (List Span)} {b : (List Span)} {by' : Int} : Le (Z3V a b by') (Z1l a b by') := by
 unfold Z3V Z1l
 repeat' (with_reducible (first | exact Le.refl _ | refine Le.bind ?_ ?_ | refine Le.cond ?_ ?_ | refine Le.elim ?_ ?_ | refine Le.loop ?_ | refine Le.Zo ?_ _ _ | refine Z1v ?_ | intro _))

noncomputable def Z1j.s0 (f : Form) (d : Int) (by' : Int) (s1 : Int) : Option ((Int) ⊕ (Jx (Unit) (Bool))) :=
 (bif (decide (s1 < (f.Core.length : Int))) then
  (
   (
    (at? f.Core s1).bind fun x1 =>
    (
     (bif (decide ((w64 (s1 + d)) ≥ f.Count)) then
      some ((w64 ((w64 (s1 + d)) - f.Count)), f.Period)
     else
      some ((w64 (s1 + d)), 0))).bind fun (y4 : Int × Int) =>
    (at? f.Core y4.1).bind fun x2 =>
    (Z3V x1 x2 (w64 (by' - y4.2))).bind fun x3 =>
    (bif (!x3) then
     some (.ret false)
    else
     some (.go ()))).bind fun (y3 : Jx (Unit) (Bool)) =>
   y3.elim (fun r' =>
     some (.ret r')) fun a4 =>
   some (.go ())).bind fun (y2 : Jx (Unit) (Bool)) =>
  y2.elim (fun r' =>
    some (.inr (.ret r'))) fun a5 =>
  some (.inl (w64 (s1 + 1)))
 else
  some (.inr (.go ())))

theorem Z7Q {f : Form} {d : Int} {by' : Int} {s1 : Int} : Le (Z1j.s0 f d by' s1) (Z0l.s0 f d by' s1) := by
 unfold Z1j.s0 Z0l.s0
 repeat' (with_reducible (first | exact Le.refl _ | refine Le.bind ?_ ?_ | refine Le.cond ?_ ?_ | refine Le.elim ?_ ?_ | refine Le.loop ?_ | refine Le.Zo ?_ _ _ | refine Z79 | intro _))

noncomputable def Z1j (f : Form) (d : Int) (by' : Int) : Option (Bool) :=
 (Z2v (Z1j.s0 f d by') 0).bind fun (y1 : Jx (Unit) (Bool)) =>
 y1.elim (fun r' =>
   some r') fun a6 =>
 some true

theorem Z9L {f : Form} {d : Int} {by' : Int} : Le (Z1j f d by') (Z0l f d by') := by
 unfold Z1j Z0l
 repeat' (with_reducible (first | exact Le.refl _ | refine Le.bind ?_ ?_ | refine Le.cond ?_ ?_ | refine Le.elim ?_ ?_ | refine Le.loop ?_ | refine Le.Zo ?_ _ _ | refine Z7Q | intro _))

noncomputable def Z1m.b0 (f : Form) (s2 : (List (List Span)) × Int × Int) (z2 : Int) : Option (((List (List Span)) × Int × Int) × Nat) :=
 (nz? z2).bind fun u1 =>
 (Z0k f.Period (w64 (f.Count.tdiv z2))).bind fun x2 =>
 (
  (bif (x2.2.1 != 0) then
   some true
  else
   (Z1j f z2 x2.1).bind fun x3 =>
   some (!x3))).bind fun (y3 : Bool) =>
 (bif y3 then
  some ((s2.1, s2.2.1, s2.2.2), 0)
 else
  (cut? f.Core 0 z2).bind fun x4 =>
  (Z2v (Zs.s1 x4) (0, s2.1)).bind fun (y4 : (List (List Span))) =>
  some ((y4, x2.1, z2), 1))

theorem Z78 {f : Form} {s2 : (List (List Span)) × Int × Int} {z2 : Int} : Le (Z1m.b0 f s2 z2) (Zs.b0 f s2 z2) := by
 unfold Z1m.b0 Zs.b0
 repeat' (with_reducible (first | exact Le.refl _ | refine Le.bind ?_ ?_ | refine Le.cond ?_ ?_ | refine Le.elim ?_ ?_ | refine Le.loop ?_ | refine Le.Zo ?_ _ _ | refine Z9L | intro _))

noncomputable def Z1m (f : Form) : Option (Form) :=
 (Z4v f).bind fun x1 =>
 (bif x1 then
  some (Form.mk 0 0 [] [])
 else
  (
   (Z0b f.Count (Zo (Z1m.b0 f)) (([], 0, 0), 0)).bind fun (y2 : ((List (List Span)) × Int × Int) × Nat) =>
   (bif (y2.2 == 0) then
    some (y2.1.1, y2.1.2.1, y2.1.2.2)
   else
    some (y2.1.1, y2.1.2.1, y2.1.2.2))).bind fun (y1 : (List (List Span)) × Int × Int) =>
  some (Form.mk y1.2.1 y1.2.2 y1.1 []))

theorem Z9M {f : Form} : Le (Z1m f) (Zs f) := by
 unfold Z1m Zs
 repeat' (with_reducible (first | exact Le.refl _ | refine Le.bind ?_ ?_ | refine Le.cond ?_ ?_ | refine Le.elim ?_ ?_ | refine Le.loop ?_ | refine Le.Zo ?_ _ _ | refine Z99 | refine Z5x ?_ | refine Z78 | intro _))

noncomputable def Z4I (f : Form) (g : Granule) : Option (Bool) :=
 (Z6N f g.Index).bind fun x1 =>
 (
  (bif (x1.2 == 0) then
   (Z51 x1.1 g.Ticks).bind fun x2 =>
   some x2
  else
   some false)).bind fun (y1 : Bool) =>
 some y1

theorem Z8e {f : Form} {g : Granule} : Le (Z4I f g) (Z2Z f g) := by
 unfold Z4I Z2Z
 repeat' (with_reducible (first | exact Le.refl _ | refine Le.bind ?_ ?_ | refine Le.cond ?_ ?_ | refine Le.elim ?_ ?_ | refine Le.loop ?_ | refine Le.Zo ?_ _ _ | refine evle_gran_Get | refine Z9D | intro _))

noncomputable def Z1k.s0 (f : Form) (x1 : Form) (s2 : Int × (List Granule)) : Option ((Int × (List Granule)) ⊕ ((List Granule))) :=
 (bif (decide (s2.1 < (f.Odd.length : Int))) then
  (
   (
    (at? f.Odd s2.1).bind fun x2 =>
    (Z4I x1 x2).bind fun x3 =>
    (bif (!x3) then
     (clone? 16 x2.Ticks).bind fun x4 =>
     (app? 32 s2.2 [(Granule.mk x2.Index x4)]).bind fun x5 =>
     some x5
    else
     some s2.2)).bind fun (y3 : (List Granule)) =>
   some y3).bind fun (y2 : (List Granule)) =>
  some (.inl ((w64 (s2.1 + 1)), y2))
 else
  some (.inr s2.2))

theorem Z72 {f : Form} {x1 : Form} {s2 : Int × (List Granule)} : Le (Z1k.s0 f x1 s2) (Zq.s0 f x1 s2) := by
 unfold Z1k.s0 Zq.s0
 repeat' (with_reducible (first | exact Le.refl _ | refine Le.bind ?_ ?_ | refine Le.cond ?_ ?_ | refine Le.elim ?_ ?_ | refine Le.loop ?_ | refine Le.Zo ?_ _ _ | refine Z8e | intro _))

noncomputable def Z1k (f : Form) : Option (Form) :=
 (Z1m f).bind fun x1 =>
 (Z2v (Z1k.s0 f x1) (0, [])).bind fun (y1 : (List Granule)) =>
 some (Form.mk x1.Period x1.Count x1.Core y1)

theorem Z9N {f : Form} : Le (Z1k f) (Zq f) := by
 unfold Z1k Zq
 repeat' (with_reducible (first | exact Le.refl _ | refine Le.bind ?_ ?_ | refine Le.cond ?_ ?_ | refine Le.elim ?_ ?_ | refine Le.loop ?_ | refine Le.Zo ?_ _ _ | refine Z9M | refine Z72 | intro _))

noncomputable def Z5p (f : Form) : Option (size_form) :=
 (Z1k f).bind fun x1 =>
 (Z2v (Z1N.s0 x1) (0, [])).bind fun (y1 : (List size_spot)) =>
 some (size_form.mk x1 y1)

theorem ZA6 {f : Form} : Le (Z5p f) (Z1N f) := by
 unfold Z5p Z1N
 repeat' (with_reducible (first | exact Le.refl _ | refine Le.bind ?_ ?_ | refine Le.cond ?_ ?_ | refine Le.elim ?_ ?_ | refine Le.loop ?_ | refine Le.Zo ?_ _ _ | refine Z9N | intro _))

noncomputable def Z0u.s0 (f : Int → Option Bool) (s1 : Int × Int) : Option ((Int × Int) ⊕ (Int)) :=
 (bif (decide (s1.1 < s1.2)) then
  (
   (f (w64 ((IntKind.u64.wrap (w64 (s1.1 + s1.2))).fdiv (2 ^ 1)))).bind fun x1 =>
   (bif (!x1) then
    some ((w64 ((w64 ((IntKind.u64.wrap (w64 (s1.1 + s1.2))).fdiv (2 ^ 1))) + 1)), s1.2)
   else
    some (s1.1, (w64 ((IntKind.u64.wrap (w64 (s1.1 + s1.2))).fdiv (2 ^ 1)))))).bind fun (y2 : Int × Int) =>
  some (.inl (y2.1, y2.2))
 else
  some (.inr s1.1))

theorem Z6g {f f_ : Int → Option Bool} {s1 : Int × Int} (h_f : ∀ z0, Le (f z0) (f_ z0)) : Le (Z0u.s0 f s1) (Z0N.s0 f_ s1) := by
 unfold Z0u.s0 Z0N.s0
 repeat' (with_reducible (first | exact Le.refl _ | exact h_f _ | exact h_f | refine Le.bind ?_ ?_ | refine Le.cond ?_ ?_ | refine Le.elim ?_ ?_ | refine Le.loop ?_ | refine Le.Zo ?_ _ _ | intro _))

noncomputable def Z0u (n : Int) (f : Int → Option Bool) : Option (Int) :=
 (Z2v (Z0u.s0 f) (0, n)).bind fun (y1 : Int) =>
 some y1

theorem Z5J {n : Int} {f f_ : Int → Option Bool} (h_f : ∀ z0, Le (f z0) (f_ z0)) : Le (Z0u n f) (Z0N n f_) := by
 unfold Z0u Z0N
 repeat' (with_reducible (first | exact Le.refl _ | exact h_f _ | exact h_f | refine Le.bind ?_ ?_ | refine Le.cond ?_ ?_ | refine Le.elim ?_ ?_ | refine Le.loop ?_ | refine Le.Zo ?_ _ _ | refine Z6g ?_ | intro _))

noncomputable def Z2M (f : size_form) (t : Int) (up : Bool) : Option (Int) :=
 (bif up then
  (at? f.spots (w64 ((f.spots.length : Int) - 1))).bind fun x1 =>
  (Z0k (w64 (x1.place.last - t)) f.Form.Period).bind fun x2 =>
  (Z0u (f.spots.length : Int) (fun z0 => Z1O z0 f x2.1 t)).bind fun x3 =>
  (at? f.spots x3).bind fun x4 =>
  some (w64 (x4.index - (w64 (x2.1 * f.Form.Count))))
 else
  (at? f.spots 0).bind fun x5 =>
  (Z0k (w64 (t - x5.place.first)) f.Form.Period).bind fun x6 =>
  (Z0u (f.spots.length : Int) (fun z0 => Z1P z0 f x6.1 t)).bind fun x7 =>
  (at? f.spots (w64 (x7 - 1))).bind fun x8 =>
  some (w64 (x8.index + (w64 (x6.1 * f.Form.Count)))))

theorem Z3z {f : size_form} {t : Int} {up : Bool} : Le (Z2M f t up) (Z0C f t up) := by
 unfold Z2M Z0C
 repeat' (with_reducible (first | exact Le.refl _ | refine Le.bind ?_ ?_ | refine Le.cond ?_ ?_ | refine Le.elim ?_ ?_ | refine Le.loop ?_ | refine Le.Zo ?_ _ _ | refine Z5J ?_ | intro _))

noncomputable def Z3e (f : size_form) (i : Int) : Option (Int) :=
 (ZN f.Form.Odd i (fun z0 z1 => some (Z2C z0 z1))).bind fun x1 =>
 (bif (!x1.2) then
  some (-1)
 else
  some x1.1)

theorem Z7C {f : size_form} {i : Int} : Le (Z3e f i) (Z1n f i) := by
 unfold Z3e Z1n
 repeat' (with_reducible (first | exact Le.refl _ | refine Le.bind ?_ ?_ | refine Le.cond ?_ ?_ | refine Le.elim ?_ ?_ | refine Le.loop ?_ | refine Le.Zo ?_ _ _ | refine Z0W ?_ | intro _))

noncomputable def Zr.s0 (f : size_form) (y1 : Int) (s1 : Int) : Option ((Int) ⊕ (Int)) :=
 (Z3e f s1).bind fun x2 =>
 (
  (bif (decide (x2 ≥ 0)) then
   some true
  else
   (Z2E f s1).bind fun x3 =>
   some (!x3))).bind fun (y4 : Bool) =>
 (bif y4 then
  some (.inl (w64 (s1 + y1)))
 else
  some (.inr s1))

theorem Z5H {f : size_form} {y1 : Int} {s1 : Int} : Le (Zr.s0 f y1 s1) (Z9.s0 f y1 s1) := by
 unfold Zr.s0 Z9.s0
 repeat' (with_reducible (first | exact Le.refl _ | refine Le.bind ?_ ?_ | refine Le.cond ?_ ?_ | refine Le.elim ?_ ?_ | refine Le.loop ?_ | refine Le.Zo ?_ _ _ | refine Z7C | intro _))

noncomputable def Zr.s2 (f : size_form) (t : Int) (up : Bool) (y1 : Int) (s3 : Int × Int × Bool) : Option ((Int × Int × Bool) ⊕ (Int × Bool)) :=
 (bif (decide (s3.1 < (f.Form.Odd.length : Int))) then
  (
   (
    (at? f.Form.Odd s3.1).bind fun x5 =>
    (Z10 x5.Ticks).bind fun x6 =>
    (bif (x6.2 && ((up && (decide (x6.1.To ≥ t))) || ((!up) && (decide (x6.1.From ≤ t))))) then
     (
      (Z2v (Z9.s3) (([(w64 ((w64 (0 - y1)) * x5.Index))].length : Int), 0, [(w64 ((w64 (0 - y1)) * x5.Index))], s3.2.1, s3.2.2)).bind fun (y13 : (List Int) × Int × Bool) =>
      some (y13.1, y13.2.1, y13.2.2)).bind fun (y12 : (List Int) × Int × Bool) =>
     some (y12.2.1, y12.2.2)
    else
     some (s3.2.1, s3.2.2))).bind fun (y11 : Int × Bool) =>
   some (y11.1, y11.2)).bind fun (y10 : Int × Bool) =>
  some (.inl ((w64 (s3.1 + 1)), y10.1, y10.2))
 else
  some (.inr (s3.2.1, s3.2.2)))

theorem Z57 {f : size_form} {t : Int} {up : Bool} {y1 : Int} {s3 : Int × Int × Bool} : Le (Zr.s2 f t up y1 s3) (Z9.s2 f t up y1 s3) := by
 unfold Zr.s2 Z9.s2
 repeat' (with_reducible (first | exact Le.refl _ | refine Le.bind ?_ ?_ | refine Le.cond ?_ ?_ | refine Le.elim ?_ ?_ | refine Le.loop ?_ | refine Le.Zo ?_ _ _ | intro _))

noncomputable def Zr (f : size_form) (t : Int) (up : Bool) : Option (Int × Bool) :=
 (
  (bif up then
   some 1
  else
   some (-1))).bind fun (y1 : Int) =>
 (
  (bif (decide (f.Form.Count > 0)) then
   (Z2M f t up).bind fun x1 =>
   (Z2v (Zr.s0 f y1) x1).bind fun (y3 : Int) =>
   (
    (Z2v (Z9.s1) (([(w64 ((w64 (0 - y1)) * y3))].length : Int), 0, [(w64 ((w64 (0 - y1)) * y3))], 0, false)).bind fun (y6 : (List Int) × Int × Bool) =>
    some (y6.1, y6.2.1, y6.2.2)).bind fun (y5 : (List Int) × Int × Bool) =>
   some (y5.2.1, y5.2.2)
  else
   some (0, false))).bind fun (y2 : Int × Bool) =>
 (Z2v (Zr.s2 f t up y1) (0, y2.1, y2.2)).bind fun (y9 : Int × Bool) =>
 some ((w64 ((w64 (0 - y1)) * y9.1)), y9.2)

theorem Z6M {f : size_form} {t : Int} {up : Bool} : Le (Zr f t up) (Z9 f t up) := by
 unfold Zr Z9
 repeat' (with_reducible (first | exact Le.refl _ | refine Le.bind ?_ ?_ | refine Le.cond ?_ ?_ | refine Le.elim ?_ ?_ | refine Le.loop ?_ | refine Le.Zo ?_ _ _ | refine Z3z | refine Z5H | refine Z57 | intro _))

noncomputable def Z0v.s0 (d : Int) (up : Bool) (x1 : size_form) (y1 : Int) (s1 : Int × Int × Bool) : Option ((Int × Int × Bool) ⊕ (Int × Bool)) :=
 (bif (decide (s1.1 < (x1.spots.length : Int))) then
  (
   (
    (at? x1.spots s1.1).bind fun x2 =>
    (
     (bif up then
      some x2.place.first
     else
      some x2.place.last)).bind fun (y5 : Int) =>
    (Z2M x1 (w64 (y5 + d)) up).bind fun x3 =>
    (
     (Z2v (ZZ.s1) (([(w64 (y1 * (w64 (x3 - x2.index))))].length : Int), 0, [(w64 (y1 * (w64 (x3 - x2.index))))], s1.2.1, s1.2.2)).bind fun (y7 : (List Int) × Int × Bool) =>
     some (y7.1, y7.2.1, y7.2.2)).bind fun (y6 : (List Int) × Int × Bool) =>
    some (y6.2.1, y6.2.2)).bind fun (y4 : Int × Bool) =>
   some (y4.1, y4.2)).bind fun (y3 : Int × Bool) =>
  some (.inl ((w64 (s1.1 + 1)), y3.1, y3.2))
 else
  some (.inr (s1.2.1, s1.2.2)))

theorem Z8X {d : Int} {up : Bool} {x1 : size_form} {y1 : Int} {s1 : Int × Int × Bool} : Le (Z0v.s0 d up x1 y1 s1) (ZZ.s0 d up x1 y1 s1) := by
 unfold Z0v.s0 ZZ.s0
 repeat' (with_reducible (first | exact Le.refl _ | refine Le.bind ?_ ?_ | refine Le.cond ?_ ?_ | refine Le.elim ?_ ?_ | refine Le.loop ?_ | refine Le.Zo ?_ _ _ | refine Z3z | intro _))

noncomputable def Z0v.s2 (d : Int) (up : Bool) (x1 : size_form) (y1 : Int) (s3 : Int × Int × Bool) : Option ((Int × Int × Bool) ⊕ (Int × Bool)) :=
 (bif (decide (s3.1 < (x1.Form.Odd.length : Int))) then
  (
   (
    (at? x1.Form.Odd s3.1).bind fun x5 =>
    (Z10 x5.Ticks).bind fun x6 =>
    (bif (!x6.2) then
     some (.ret ())
    else
     (
      (bif up then
       some (x6.1.To, x6.1.From)
      else
       some (x6.1.From, x6.1.To))).bind fun (y13 : Int × Int) =>
     (
      (Zr x1 (w64 (y13.2 + d)) up).bind fun x7 =>
      (bif x7.2 then
       (
        (Z2v (ZZ.s3) (([(w64 (y1 * (w64 (x7.1 - x5.Index))))].length : Int), 0, [(w64 (y1 * (w64 (x7.1 - x5.Index))))], s3.2.1, s3.2.2)).bind fun (y16 : (List Int) × Int × Bool) =>
        some (y16.1, y16.2.1, y16.2.2)).bind fun (y15 : (List Int) × Int × Bool) =>
       some (y15.2.1, y15.2.2)
      else
       some (s3.2.1, s3.2.2))).bind fun (y14 : Int × Bool) =>
     (Zr x1 (w64 (y13.1 - d)) (!up)).bind fun x9 =>
     (bif x9.2 then
      (
       (Z2v (ZZ.s4) (([(w64 (y1 * (w64 (x5.Index - x9.1))))].length : Int), 0, [(w64 (y1 * (w64 (x5.Index - x9.1))))], y14.1, y14.2)).bind fun (y20 : (List Int) × Int × Bool) =>
       some (y20.1, y20.2.1, y20.2.2)).bind fun (y19 : (List Int) × Int × Bool) =>
      some (.go (y19.2.1, y19.2.2))
     else
      some (.go (y14.1, y14.2))))).bind fun (y12 : Jx (Int × Bool) (Unit)) =>
   y12.elim (fun a4 =>
     some (s3.2.1, s3.2.2)) fun a3 =>
   some (a3.1, a3.2)).bind fun (y11 : Int × Bool) =>
  some (.inl ((w64 (s3.1 + 1)), y11.1, y11.2))
 else
  some (.inr (s3.2.1, s3.2.2)))

theorem Z8H {d : Int} {up : Bool} {x1 : size_form} {y1 : Int} {s3 : Int × Int × Bool} : Le (Z0v.s2 d up x1 y1 s3) (ZZ.s2 d up x1 y1 s3) := by
 unfold Z0v.s2 ZZ.s2
 repeat' (with_reducible (first | exact Le.refl _ | refine Le.bind ?_ ?_ | refine Le.cond ?_ ?_ | refine Le.elim ?_ ?_ | refine Le.loop ?_ | refine Le.Zo ?_ _ _ | refine Z6M | intro _))

noncomputable def Z0v (g : Form) (d : Int) (up : Bool) : Option (Int × Bool × Int) :=
 (bif (!(Z1I d)) then
  some (0, false, 2)
 else
  (Z5p g).bind fun x1 =>
  (
   (bif up then
    some (-1)
   else
    some 1)).bind fun (y1 : Int) =>
  (Z2v (Z0v.s0 d up x1 y1) (0, 0, false)).bind fun (y2 : Int × Bool) =>
  (Z2v (Z0v.s2 d up x1 y1) (0, y2.1, y2.2)).bind fun (y10 : Int × Bool) =>
  some ((w64 (y1 * y10.1)), y10.2, 0))

theorem Z6w {g : Form} {d : Int} {up : Bool} : Le (Z0v g d up) (ZZ g d up) := by
 unfold Z0v ZZ
 repeat' (with_reducible (first | exact Le.refl _ | refine Le.bind ?_ ?_ | refine Le.cond ?_ ?_ | refine Le.elim ?_ ?_ | refine Le.loop ?_ | refine Le.Zo ?_ _ _ | refine ZA6 | refine Z8X | refine Z8H | intro _))

noncomputable def Z47 (f : Form) (d : Int) : Option (Int × Bool × Int) :=
 (Z0v f d false).bind fun x1 =>
 some (x1.1, x1.2.1, x1.2.2)

theorem Z68 {f : Form} {d : Int} : Le (Z47 f d) (Z3C f d) := by
 unfold Z47 Z3C
 repeat' (with_reducible (first | exact Le.refl _ | refine Le.bind ?_ ?_ | refine Le.cond ?_ ?_ | refine Le.elim ?_ ?_ | refine Le.loop ?_ | refine Le.Zo ?_ _ _ | refine Z6w | intro _))

noncomputable def Z70 (f : Form) (d : Int) : Option (Int × Bool × Int) :=
 (Z0v f d true).bind fun x1 =>
 some (x1.1, x1.2.1, x1.2.2)

theorem evle_size_Up {f : Form} {d : Int} : Le (Z70 f d) (Z5Z f d) := by
 unfold Z70 Z5Z
 repeat' (with_reducible (first | exact Le.refl _ | refine Le.bind ?_ ?_ | refine Le.cond ?_ ?_ | refine Le.elim ?_ ?_ | refine Le.loop ?_ | refine Le.Zo ?_ _ _ | refine Z6w | intro _))

noncomputable def Z4S (f : Form) (low : Bound) (high : Bound) : Option (Range × Bool × Int) :=
 (bif ((((!(ZH low)) || (!(ZH high))) || (low.Inf == 1)) || (high.Inf == (-1))) then
  some ((Range.mk 0 0 false false), false, 2)
 else
  (
   (bif ((high.Inf == 0) && (decide (high.N ≤ 1099511627776))) then
    (Z47 f (iMax high.N (-1099511627776))).bind fun x1 =>
    (bif (!x1.2.1) then
     some (.ret ((Range.mk 0 0 false false), false, 0))
    else
     some (.go (x1.1, true)))
   else
    some (.go (0, false)))).bind fun (y1 : Jx (Int × Bool) (Range × Bool × Int)) =>
  y1.elim (fun r' =>
    some r') fun a2 =>
  (
   (bif ((low.Inf == 0) && (decide (low.N ≥ (-1099511627776)))) then
    (Z70 f (iMin low.N 1099511627776)).bind fun x2 =>
    (bif (!x2.2.1) then
     some (.ret ((Range.mk 0 0 false false), false, 0))
    else
     some (.go (x2.1, true)))
   else
    some (.go (0, false)))).bind fun (y2 : Jx (Int × Bool) (Range × Bool × Int)) =>
  y2.elim (fun r' =>
    some r') fun a4 =>
  some ((Range.mk a4.1 a2.1 a4.2 a2.2), true, 0))

theorem Z8a {f : Form} {low : Bound} {high : Bound} : Le (Z4S f low high) (Z0f f low high) := by
 unfold Z4S Z0f
 repeat' (with_reducible (first | exact Le.refl _ | refine Le.bind ?_ ?_ | refine Le.cond ?_ ?_ | refine Le.elim ?_ ?_ | refine Le.loop ?_ | refine Le.Zo ?_ _ _ | refine Z68 | refine evle_size_Up | intro _))

noncomputable def Z25 (a : carry_asked) (gap : Int) : Option (Bool) :=
 (Z47 a.f (w64 (gap - 1099511627776))).bind fun x1 =>
 some ((x1.2.1 && (x1.2.2 == 0)) && (decide (x1.1 ≥ a.m)))

theorem Z4z {a : carry_asked} {gap : Int} : Le (Z25 a gap) (Z0c a gap) := by
 unfold Z25 Z0c
 repeat' (with_reducible (first | exact Le.refl _ | refine Le.bind ?_ ?_ | refine Le.cond ?_ ?_ | refine Le.elim ?_ ?_ | refine Le.loop ?_ | refine Le.Zo ?_ _ _ | refine Z68 | intro _))

noncomputable def Z1c (f : Form) (m : Int) : Option (Bound) :=
 (Z0u 2199023255553 (fun z0 => Z25 (carry_asked.mk f (iMin (iMax m (-4611686018427387904)) 4611686018427387904)) z0)).bind fun x1 =>
 (bif ((w64 ((iMin x1 2199023255552) - 1099511627776)) == (-1099511627776)) then
  some (Bound.mk (-1) 0)
 else
  some (Bound.mk 0 (w64 ((iMin x1 2199023255552) - 1099511627776))))

theorem Z4U {f : Form} {m : Int} : Le (Z1c f m) (Z1B f m) := by
 unfold Z1c Z1B
 repeat' (with_reducible (first | exact Le.refl _ | refine Le.bind ?_ ?_ | refine Le.cond ?_ ?_ | refine Le.elim ?_ ?_ | refine Le.loop ?_ | refine Le.Zo ?_ _ _ | refine Z5J ?_ | refine Z4z | intro _))

noncomputable def Z2J (f : Form) (n : Int) : Option (Bound) :=
 (Z1c f (w64 (0 - (iMax n (-4611686018427387904))))).bind fun x1 =>
 some ((Zp x1).1)

theorem Z5t {f : Form} {n : Int} : Le (Z2J f n) (Z1C f n) := by
 unfold Z2J Z1C
 repeat' (with_reducible (first | exact Le.refl _ | refine Le.bind ?_ ?_ | refine Le.cond ?_ ?_ | refine Le.elim ?_ ?_ | refine Le.loop ?_ | refine Le.Zo ?_ _ _ | refine Z4U | intro _))

noncomputable def Z4N (f : Form) (r' : Range) : Option (Bound × Bound) :=
 (
  (bif r'.HasLow then
   (Z1c f r'.Low).bind fun x1 =>
   some (x1.Inf, x1.N)
  else
   some ((-1), 0))).bind fun (y1 : Int × Int) =>
 (
  (bif r'.HasHigh then
   (Z2J f r'.High).bind fun x2 =>
   some (x2.Inf, x2.N)
  else
   some (1, 0))).bind fun (y2 : Int × Int) =>
 some ((Bound.mk y1.1 y1.2), (Bound.mk y2.1 y2.2))

theorem Z8U {f : Form} {r' : Range} : Le (Z4N f r') (Z1J f r') := by
 unfold Z4N Z1J
 repeat' (with_reducible (first | exact Le.refl _ | refine Le.bind ?_ ?_ | refine Le.cond ?_ ?_ | refine Le.elim ?_ ?_ | refine Le.loop ?_ | refine Le.Zo ?_ _ _ | refine Z4U | refine Z5t | intro _))

noncomputable def Z0m (f : Form) (low : Int) (high : Int) (want : Range) : Option (Bool) :=
 (Z4S f (Z1 low) (Z1 high)).bind fun x1 =>
 some (((x1.2.2 == 0) && x1.2.1) && ((x1.1.Low == want.Low) && ((x1.1.High == want.High) && ((x1.1.HasLow == want.HasLow) && ((x1.1.HasHigh == want.HasHigh) && true)))))

theorem Z5r {f : Form} {low : Int} {high : Int} {want : Range} : Le (Z0m f low high want) (Z0g f low high want) := by
 unfold Z0m Z0g
 repeat' (with_reducible (first | exact Le.refl _ | refine Le.bind ?_ ?_ | refine Le.cond ?_ ?_ | refine Le.elim ?_ ?_ | refine Le.loop ?_ | refine Le.Zo ?_ _ _ | refine Z8a | intro _))

noncomputable def Z2T : Option (Bool) :=
 (Z4N (Form.mk 7 1 [[(Span.mk 0 6)]] []) (Range.mk 1 0 true false)).bind fun x1 =>
 (Z1c (Form.mk 7 1 [[(Span.mk 0 6)]] []) 1).bind fun x2 =>
 (
  (bif (!((x2.Inf == ((Z1 1).Inf)) && ((x2.N == ((Z1 1).N)) && true))) then
   some true
  else
   (Z1c (Form.mk 7 1 [[(Span.mk 0 6)]] []) 0).bind fun x3 =>
   some (!((x3.Inf == ((Z1 (-6)).Inf)) && ((x3.N == ((Z1 (-6)).N)) && true))))).bind fun (y1 : Bool) =>
 (
  (bif y1 then
   some true
  else
   (Z2J (Form.mk 7 1 [[(Span.mk 0 6)]] []) 1).bind fun x4 =>
   some (!((x4.Inf == ((Z1 13).Inf)) && ((x4.N == ((Z1 13).N)) && true))))).bind fun (y2 : Bool) =>
 (
  (bif y2 then
   some true
  else
   (Z2J (Form.mk 7 1 [[(Span.mk 0 6)]] []) 0).bind fun x5 =>
   some (!((x5.Inf == ((Z1 6).Inf)) && ((x5.N == ((Z1 6).N)) && true))))).bind fun (y3 : Bool) =>
 (bif ((y3 || (!((x1.1.Inf == ((Z1 1).Inf)) && ((x1.1.N == ((Z1 1).N)) && true)))) || (!((x1.2.Inf == 1) && ((x1.2.N == 0) && true)))) then
  some false
 else
  (Z0m (Form.mk 7 1 [[(Span.mk 0 6)]] []) 1 6 (Z5 0 1)).bind fun x6 =>
  (
   (bif x6 then
    (Z0m (Form.mk 7 1 [[(Span.mk 0 6)]] []) 7 13 (Z5 1 2)).bind fun x7 =>
    some x7
   else
    some false)).bind fun (y4 : Bool) =>
  (
   (bif y4 then
    (Z0m (Form.mk 7 1 [[(Span.mk 0 6)]] []) (-6) 6 (Z5 (-1) 1)).bind fun x8 =>
    some x8
   else
    some false)).bind fun (y5 : Bool) =>
  (
   (bif y5 then
    (Z1c ZU 1).bind fun x9 =>
    some ((x9.Inf == ((Z1 3).Inf)) && ((x9.N == ((Z1 3).N)) && true))
   else
    some false)).bind fun (y6 : Bool) =>
  (
   (bif y6 then
    (Z2J ZU 1).bind fun x10 =>
    some ((x10.Inf == ((Z1 11).Inf)) && ((x10.N == ((Z1 11).N)) && true))
   else
    some false)).bind fun (y7 : Bool) =>
  (
   (bif y7 then
    (Z0m ZU 1 2 (Z5 0 0)).bind fun x11 =>
    some x11
   else
    some false)).bind fun (y8 : Bool) =>
  (
   (bif y8 then
    (Z1c (Form.mk 0 0 [] [(Granule.mk 3 [(Span.mk 5 6)])]) 1).bind fun x12 =>
    some ((x12.Inf == ((Z1 1099511627776).Inf)) && ((x12.N == ((Z1 1099511627776).N)) && true))
   else
    some false)).bind fun (y9 : Bool) =>
  some y9)

theorem Z5W : Le (Z2T) (Z1Z) := by
 unfold Z2T Z1Z
 repeat' (with_reducible (first | exact Le.refl _ | refine Le.bind ?_ ?_ | refine Le.cond ?_ ?_ | refine Le.elim ?_ ?_ | refine Le.loop ?_ | refine Le.Zo ?_ _ _ | refine Z8U | refine Z4U | refine Z5t | refine Z5r | intro _))

theorem Z5a : Z2T = some true := by kernel_rfl
theorem Z5d : Z1Z = some true := Z5W _ Z5a

end Go.Dn

namespace Go.Dn
open Go Go.Proofs
set_option maxRecDepth 100000
set_option maxHeartbeats 4000000
abbrev vl {α : Type} (c : α → List FV) (x : List α) : PV := .v (.sl (x.map c))
abbrev vi (x : Int) : PV := .v (.int .i64 x)
abbrev vu (x : Int) : PV := .v (.int .u64 x)
abbrev vb (x : Bool) : PV := .v (.bool x)
theorem sj {α : Type} {a b : α} (h : some a = some b) : a = b := Option.some.inj h
abbrev vF (f : Form) : List PV := [vi f.Period, vi f.Count, vl (cL Span.cs) f.Core, vl Granule.cs f.Odd]
abbrev vG (f : size_form) : List PV := [vi f.Form.Period, vi f.Form.Count, vl (cL Span.cs) f.Form.Core, vl Granule.cs f.Form.Odd, vl size_spot.cs f.spots]

theorem Z7j {f : Form} {r : Int} (h : Z0S f = some r) : Fn CX 48 [(.agg (vs (Form.cs f)))] (vi r) := by
 refine Fn.ends Try.func48 rfl rfl rfl rfl rfl rfl ?_
 have H : Hs (⟨0, fun _ => .none⟩ : Heap) [] := Has.nil (Nat.le_refl _)
 generalize (⟨0, fun _ => .none⟩ : Heap) = σ at H ⊢
 unfold Z0S at h
 refine .then (.Z0 2 rfl H fun b1 σ H => (.boxH (cs := (vF f)) H (by omega) (by omega) rfl rfl rfl fun σ H => (.assign (v := (vi 0)) rfl rfl (.nila H fun H => (.then ?_)))))
 refine .Z0 1 rfl H fun b2 σ H => (.assign (v := (vi 0)) rfl rfl (.nila H fun H => (.then (.then (.Z0 4 rfl H fun b3 σ H => ?_)))))
 refine .Z2 (off := 0) (fo := 2) H 0 rfl rfl rfl rfl rfl nofun rfl (.ZC (off := 2) (v := (vl (cL Span.cs) f.Core)) H 0 rfl rfl rfl rfl rfl nofun rfl (.Z0K (c := (cL Span.cs)) (xs := f.Core) rfl rfl rfl (.move (v := (vi 0)) rfl rfl (.nila H fun H => (.inBlock ?_)))))
 obtain ⟨y1, hj1, h⟩ := bind_some h
 obtain ⟨n1, hj1⟩ := Zb.1 hj1
 refine .mono (Runs.ZO hj1 (fun s1 e σ => Z4 e [(1, (.ptr (b1 + 0) 4 0)), (3, (vi s1.1)), (9, (vl (cL Span.cs) f.Core)), (10, (vi (f.Core.length : Int))), (11, (vi s1.2))] ∧ Hs σ [.blk (b1 + 0) 25 (vF f)]) (fun y1 x e σ => x = .exit 0 ∧ Z4 e [(1, (.ptr (b1 + 0) 4 0)), (3, (vi y1))] ∧ Hs σ [.blk (b1 + 0) 25 (vF f)]) ⟨⟨rfl, rfl, rfl, rfl, rfl, trivial⟩, H⟩ ?_) ?_
 ·intro s1 e σ hI z h
  obtain ⟨he, H⟩ := hI
  obtain ⟨e, rfl⟩ := he.ex
  unfold Z0S.s0 at h
  refine .then (.Z0 1 rfl H fun b4 σ H => (.int (m := s1.2) (m' := (f.Core.length : Int)) (r := .bool (decide (s1.2 < (f.Core.length : Int)))) rfl rfl rfl rfl rfl (.nila H fun H => (.then ?_))))
  refine .whether (v := (decide (s1.2 < (f.Core.length : Int)))) rfl ?_ ?_ <;> intro hc1
  ·replace h := Z7 hc1 h
   refine .skip (.then (.inBlock (.then (.Z0 3 rfl H fun b5 σ H => ?_))))
   obtain ⟨x1, q1, h⟩ := bind_some h
   refine .Zy (c := (cL Span.cs)) (u := x1) rfl rfl q1 rfl rfl rfl rfl (.Z1p (u := (.sl (x1.map Span.cs))) rfl rfl rfl rfl (.assign (v := (vl Span.cs x1)) rfl rfl (.nila H fun H => (.Z0 5 rfl H fun b6 σ H => (.move (v := (vi s1.1)) rfl rfl ?_)))))
   refine .move (v := (vl Span.cs x1)) rfl rfl (.Z0K (c := Span.cs) (xs := x1) rfl rfl rfl (.int (m := s1.1) (m' := (x1.length : Int)) (r := .int .i64 (w64 (s1.1 + (x1.length : Int)))) rfl rfl rfl rfl rfl (.assign (v := (vi (w64 (s1.1 + (x1.length : Int))))) rfl rfl (.nila H fun H => (.Z0 2 rfl H fun b7 σ H => ?_)))))
   refine .int (m := s1.2) (m' := 1) (r := .int .i64 (w64 (s1.2 + 1))) rfl rfl rfl rfl rfl (.move (v := (vi (w64 (s1.2 + 1)))) rfl rfl (.nila H fun H => ?_))
   replace h := sj h; subst h
   exact ⟨rfl, ⟨rfl, rfl, rfl, rfl, rfl, trivial⟩, H⟩
  ·replace h := Z8 hc1 h
   refine .exit ?_
   replace h := sj h; subst h
   exact ⟨nofun, ⟨rfl, ⟨rfl, rfl, trivial⟩, H⟩⟩
 ·rintro x e σ ⟨rfl, he, H⟩
  obtain ⟨e, rfl⟩ := he.ex
  refine .then (.then (.Z0 4 rfl H fun b8 σ H => (.Z2 (off := 0) (fo := 3) H 0 rfl rfl rfl rfl rfl nofun rfl (.ZC (off := 3) (v := (vl Granule.cs f.Odd)) H 0 rfl rfl rfl rfl rfl nofun rfl (.Z0K (c := Granule.cs) (xs := f.Odd) rfl rfl rfl ?_)))))
  refine .move (v := (vi 0)) rfl rfl (.nila H fun H => (.inBlock ?_))
  obtain ⟨y2, hj2, h⟩ := bind_some h
  obtain ⟨n2, hj2⟩ := Zb.1 hj2
  refine .mono (Runs.ZO hj2 (fun s2 e σ => Z4 e [(3, (vi s2.1)), (21, (vl Granule.cs f.Odd)), (22, (vi (f.Odd.length : Int))), (23, (vi s2.2))] ∧ Hs σ []) (fun y2 x e σ => x = .exit 2 ∧ Z4 e [(3, (vi y2))] ∧ Hs σ []) ⟨⟨rfl, rfl, rfl, rfl, trivial⟩, (H.erase 0)⟩ ?_) ?_
  ·intro s2 e σ hI z h
   obtain ⟨he, H⟩ := hI
   obtain ⟨e, rfl⟩ := he.ex
   unfold Z0S.s1 at h
   refine .then (.Z0 1 rfl H fun b9 σ H => (.int (m := s2.2) (m' := (f.Odd.length : Int)) (r := .bool (decide (s2.2 < (f.Odd.length : Int)))) rfl rfl rfl rfl rfl (.nila H fun H => (.then ?_))))
   refine .whether (v := (decide (s2.2 < (f.Odd.length : Int)))) rfl ?_ ?_ <;> intro hc2
   ·replace h := Z7 hc2 h
    refine .skip (.then (.inBlock (.then (.Z0 4 rfl H fun b10 σ H => ?_))))
    obtain ⟨x2, q2, h⟩ := bind_some h
    refine .Zy (c := Granule.cs) (u := x2) rfl rfl q2 rfl rfl rfl rfl (.Z26 (cs := [(.int .i64 x2.Index), (.sl (x2.Ticks.map Span.cs))]) rfl rfl rfl rfl rfl rfl (.Zk (cs := [(vi 0), .nils]) H (by omega) (by omega) rfl rfl fun σ H => (.ZV (off := 0) (cells' := [(vi x2.Index), (vl Span.cs x2.Ticks)]) H 0 rfl rfl rfl rfl rfl rfl rfl rfl rfl nofun fun σ H => (.nila H fun H => (.Z0 6 rfl H fun b11 σ H => ?_)))))
    refine .move (v := (vi s2.1)) rfl rfl (.Z2 (off := 0) (fo := 1) H 0 rfl rfl rfl rfl rfl nofun rfl (.ZC (off := 1) (v := (vl Span.cs x2.Ticks)) H 0 rfl rfl rfl rfl rfl nofun rfl (.Z0K (c := Span.cs) (xs := x2.Ticks) rfl rfl rfl (.int (m := s2.1) (m' := (x2.Ticks.length : Int)) (r := .int .i64 (w64 (s2.1 + (x2.Ticks.length : Int)))) rfl rfl rfl rfl rfl (.assign (v := (vi (w64 (s2.1 + (x2.Ticks.length : Int))))) rfl rfl ?_)))))
    refine .nila H fun H => (.Z0 2 rfl H fun b12 σ H => (.int (m := s2.2) (m' := 1) (r := .int .i64 (w64 (s2.2 + 1))) rfl rfl rfl rfl rfl (.move (v := (vi (w64 (s2.2 + 1)))) rfl rfl (.nila H fun H => ?_))))
    replace h := sj h; subst h
    exact ⟨rfl, ⟨rfl, rfl, rfl, rfl, trivial⟩, (H.erase 0)⟩
   ·replace h := Z8 hc2 h
    refine .exit ?_
    replace h := sj h; subst h
    exact ⟨nofun, ⟨rfl, ⟨rfl, trivial⟩, H⟩⟩
  ·rintro x e σ ⟨rfl, he, H⟩
   obtain ⟨e, rfl⟩ := he.ex
   refine .then (.Z0 2 rfl H fun b13 σ H => (.move (v := (vi y2)) rfl rfl (.assign (v := (vi y2)) rfl rfl (.nila H fun H => (.ret ?_)))))
   replace h := sj h; subst h
   exact (Ends.H (xs := [(vi y2)]) (.inr rfl) H (.tmp (v := (vi y2)) rfl .nil) (.one (.c (.v _))))

theorem Z6f {f : Form} {r : Bool} (h : Z0z f = some r) : Fn CX 39 [(.agg (vs (Form.cs f)))] (vb r) := by
 refine Fn.ends Try.func39 rfl rfl rfl rfl rfl rfl ?_
 have H : Hs (⟨0, fun _ => .none⟩ : Heap) [] := Has.nil (Nat.le_refl _)
 generalize (⟨0, fun _ => .none⟩ : Heap) = σ at H ⊢
 unfold Z0z at h
 refine .then (.Z0 2 rfl H fun b1 σ H => (.boxH (cs := (vF f)) H (by omega) (by omega) rfl rfl rfl fun σ H => (.assign (v := (vb false)) rfl rfl (.nila H fun H => (.then ?_)))))
 refine .Z0 16 rfl H fun b2 σ H => (.Z2 (off := 0) (fo := 2) H 0 rfl rfl rfl rfl rfl nofun rfl (.ZC (off := 2) (v := (vl (cL Span.cs) f.Core)) H 0 rfl rfl rfl rfl rfl nofun rfl (.Z0K (c := (cL Span.cs)) (xs := f.Core) rfl rfl rfl (.int (m := (f.Core.length : Int)) (m' := 12) (r := .bool (decide ((f.Core.length : Int) ≤ 12))) rfl rfl rfl rfl rfl (.move (v := (vb (decide ((f.Core.length : Int) ≤ 12)))) rfl rfl ?_)))))
 refine .mid 5 (K1 := fun e σ => Z4 e [(12, (vb ((decide ((f.Core.length : Int) ≤ 12)) && (decide ((f.Odd.length : Int) ≤ 8))))), (1, (.ptr (b1 + 0) 4 0))] ∧ Has σ (b2 + 10) (b2 + 16) [.blk (b1 + 0) 25 (vF f)]) rfl ?_ ?_
 ·refine .split rfl rfl ?_ ?_ <;> intro hc1
  ·skip
   refine .wanted rfl rfl (.Z2 (off := 0) (fo := 3) H 0 rfl rfl rfl rfl rfl nofun rfl (.wanted rfl rfl (.ZC (off := 3) (v := (vl Granule.cs f.Odd)) H 0 rfl rfl rfl rfl rfl nofun rfl (.wanted rfl rfl (.Z0K (c := Granule.cs) (xs := f.Odd) rfl rfl rfl ?_)))))
   refine .wanted rfl rfl (.int (m := (f.Odd.length : Int)) (m' := 8) (r := .bool (decide ((f.Odd.length : Int) ≤ 8))) rfl rfl rfl rfl rfl (.Zf (v := (vb (decide ((f.Odd.length : Int) ≤ 8)))) rfl rfl rfl (.nil ?_)))
   exact ⟨⟨Z15 hc1, rfl, trivial⟩, H.weak (by omega) (Nat.le_refl _)⟩
  ·skip
   refine .pass rfl rfl rfl (.pass rfl rfl rfl (.pass rfl rfl rfl (.pass rfl rfl rfl (.Zh (v := (vb false)) rfl rfl rfl (.nil ?_)))))
   exact ⟨⟨Z19 hc1, rfl, trivial⟩, H.weak (by omega) (Nat.le_refl _)⟩
 ·rintro e σ ⟨he, H⟩
  obtain ⟨e, rfl⟩ := he.ex
  refine .move (v := (vb ((decide ((f.Core.length : Int) ≤ 12)) && (decide ((f.Odd.length : Int) ≤ 8))))) rfl rfl ?_
  obtain ⟨y1, hj1, h⟩ := bind_some h
  refine .mid 4 (K1 := fun e σ => Z4 e [(17, (vb y1))] ∧ Has σ (b2 + 15) (b2 + 16) []) rfl ?_ ?_
  ·refine .split rfl rfl ?_ ?_ <;> intro hc2
   ·replace h := Z7 hc2 hj1
    refine .wanted rfl rfl (.ZI (off := 0) (cs := (vF f)) H 0 rfl rfl rfl rfl rfl rfl rfl nofun rfl (.wanted rfl rfl ?_))
    obtain ⟨x1, q1, h⟩ := bind_some h
    refine .call (ys := [(.agg (vF f))]) (r := (vi x1)) rfl (Z7j q1) rfl (.wanted rfl rfl (.int (m := x1) (m' := 60) (r := .bool (decide (x1 ≤ 60))) rfl rfl rfl rfl rfl (.Zf (v := (vb (decide (x1 ≤ 60)))) rfl rfl rfl (.nil ?_))))
    replace h := sj h; subst h
    exact ⟨⟨rfl, trivial⟩, (H.erase 0).weak (by omega) (Nat.le_refl _)⟩
   ·replace h := Z8 hc2 hj1
    refine .pass rfl rfl rfl (.pass rfl rfl rfl (.pass rfl rfl rfl (.Zh (v := (vb false)) rfl rfl rfl (.nil ?_))))
    replace h := sj h; subst h
    exact ⟨⟨rfl, trivial⟩, (H.erase 0).weak (by omega) (Nat.le_refl _)⟩
  ·rintro e σ ⟨he, H⟩
   obtain ⟨e, rfl⟩ := he.ex
   refine .assign (v := (vb y1)) rfl rfl (.nila H fun H => (.ret ?_))
   replace h := sj h; subst h
   exact (Ends.H (xs := [(vb y1)]) (.inr rfl) H (.tmp (v := (vb y1)) rfl .nil) (.one (.c (.v _))))

theorem Z3j {t : Int} {r : Bool} (h : Zg t = r) : Fn CX 84 [(vi t)] (vb r) := by
 refine Fn.ends Try.func84 rfl rfl rfl rfl rfl rfl ?_
 have H : Hs (⟨0, fun _ => .none⟩ : Heap) [] := Has.nil (Nat.le_refl _)
 generalize (⟨0, fun _ => .none⟩ : Heap) = σ at H ⊢
 unfold Zg at h
 refine .then (.Z0 1 rfl H fun b1 σ H => (.assign (v := (vb false)) rfl rfl (.nila H fun H => (.then (.Z0 7 rfl H fun b2 σ H => ?_)))))
 refine .move (v := (vi t)) rfl rfl (.int (m := t) (m' := (-1099511627776)) (r := .bool (decide (t ≥ (-1099511627776)))) rfl rfl rfl rfl rfl (.move (v := (vb (decide (t ≥ (-1099511627776))))) rfl rfl ?_))
 refine .mid 3 (K1 := fun e σ => Z4 e [(8, (vb ((decide (t ≥ (-1099511627776))) && (decide (t ≤ 1099511627776)))))] ∧ Has σ (b2 + 6) (b2 + 7) []) rfl ?_ ?_
 ·refine .split rfl rfl ?_ ?_ <;> intro hc1
  ·skip
   refine .wanted rfl rfl (.move (v := (vi t)) rfl rfl (.wanted rfl rfl (.int (m := t) (m' := 1099511627776) (r := .bool (decide (t ≤ 1099511627776))) rfl rfl rfl rfl rfl (.Zf (v := (vb (decide (t ≤ 1099511627776)))) rfl rfl rfl (.nil ?_)))))
   exact ⟨⟨Z15 hc1, trivial⟩, H.weak (by omega) (Nat.le_refl _)⟩
  ·skip
   refine .pass rfl rfl rfl (.pass rfl rfl rfl (.Zh (v := (vb false)) rfl rfl rfl (.nil ?_)))
   exact ⟨⟨Z19 hc1, trivial⟩, H.weak (by omega) (Nat.le_refl _)⟩
 ·rintro e σ ⟨he, H⟩
  obtain ⟨e, rfl⟩ := he.ex
  refine .assign (v := (vb ((decide (t ≥ (-1099511627776))) && (decide (t ≤ 1099511627776))))) rfl rfl (.nila H fun H => (.ret ?_))
  subst h
  exact (Ends.H (xs := [(vb ((decide (t ≥ (-1099511627776))) && (decide (t ≤ 1099511627776))))]) (.inr rfl) H (.tmp (v := (vb ((decide (t ≥ (-1099511627776))) && (decide (t ≤ 1099511627776))))) rfl .nil) (.one (.c (.v _))))

theorem Z6I {l : (List Span)} {r : Bool} (h : Z0U l = some r) : Fn CX 70 [(vl Span.cs l)] (vb r) := by
 refine Fn.ends Try.func70 rfl rfl rfl rfl rfl rfl ?_
 have H : Hs (⟨0, fun _ => .none⟩ : Heap) [] := Has.nil (Nat.le_refl _)
 generalize (⟨0, fun _ => .none⟩ : Heap) = σ at H ⊢
 unfold Z0U at h
 refine .then (.Z0 1 rfl H fun b1 σ H => (.assign (v := (vb false)) rfl rfl (.nila H fun H => (.then (.then ?_)))))
 refine .Z0 3 rfl H fun b2 σ H => (.move (v := (vl Span.cs l)) rfl rfl (.Z0K (c := Span.cs) (xs := l) rfl rfl rfl (.move (v := (vi 0)) rfl rfl (.nila H fun H => (.inBlock ?_)))))
 obtain ⟨y1, hj1, h⟩ := bind_some h
 obtain ⟨n1, hj1⟩ := Zb.1 hj1
 refine .mono (Runs.ZO hj1 (fun s1 e σ => Z4 e [(0, (vl Span.cs l)), (5, (vl Span.cs l)), (6, (vi (l.length : Int))), (7, (vi s1))] ∧ Hs σ []) (fun y1 x e σ => (∃ a1, y1 = (.go a1) ∧ x = .exit 0 ∧ Z4 e [] ∧ Hs σ []) ∨ (∃ r', y1 = (.ret r') ∧ x = .ret ∧ Ends CX Try.f70.results.toList (vb r') x e σ)) ⟨⟨rfl, rfl, rfl, rfl, trivial⟩, H⟩ ?_) ?_
 ·intro s1 e σ hI z h
  obtain ⟨he, H⟩ := hI
  obtain ⟨e, rfl⟩ := he.ex
  unfold Z0U.s0 at h
  refine .then (.Z0 1 rfl H fun b3 σ H => (.int (m := s1) (m' := (l.length : Int)) (r := .bool (decide (s1 < (l.length : Int)))) rfl rfl rfl rfl rfl (.nila H fun H => (.then ?_))))
  refine .whether (v := (decide (s1 < (l.length : Int)))) rfl ?_ ?_ <;> intro hc1
  ·replace h := Z7 hc1 h
   refine .skip (.then (.inBlock (.then (.Z0 6 rfl H fun b4 σ H => (.move (v := (vi s1)) rfl rfl ?_)))))
   obtain ⟨x1, q1, h⟩ := bind_some h
   refine .Zy (c := Span.cs) (u := x1) rfl rfl q1 rfl rfl rfl rfl (.Z26 (cs := [(.int .i64 x1.From), (.int .i64 x1.To)]) rfl rfl rfl rfl rfl rfl (.Zk (cs := [(vi 0), (vi 0)]) H (by omega) (by omega) rfl rfl fun σ H => (.assign (v := (vi s1)) rfl rfl (.ZV (off := 0) (cells' := [(vi x1.From), (vi x1.To)]) H 0 rfl rfl rfl rfl rfl rfl rfl rfl rfl nofun fun σ H => (.nila H fun H => ?_)))))
   refine .then (.Z0w 33 rfl (by kernel_rfl) H fun b5 σ H B5 => (.Z2 (off := 0) (fo := 0) H 0 rfl rfl rfl rfl rfl (fun _ => .inl ⟨B5 0 _ rfl _ rfl, nofun, (fun _ => by kernel_rfl)⟩) rfl (.ZC (off := 0) (v := (vi x1.From)) H 0 rfl rfl rfl rfl rfl (fun _ => .inl ⟨B5 0 _ rfl _ rfl, nofun, (fun _ => by kernel_rfl)⟩) rfl (.call (ys := [(vi x1.From)]) (r := (vb (Zg x1.From))) rfl (Z3j rfl) rfl (.not (b := (Zg x1.From)) rfl rfl ?_)))))
   refine .move (v := (vb (!(Zg x1.From)))) rfl rfl ?_
   refine .mid 5 (K1 := fun e σ => Z4 e [(21, (vb ((!(Zg x1.From)) || (!(Zg x1.To))))), (0, (vl Span.cs l)), (3, (vi s1)), (4, (.ptr (b4 + 3) 2 0)), (5, (vl Span.cs l)), (6, (vi (l.length : Int))), (7, (vi s1))] ∧ Has σ (b5 + 10) (b5 + 33) [.blk (b4 + 3) 43 [(vi x1.From), (vi x1.To)]]) rfl ?_ ?_
   ·refine .split rfl rfl ?_ ?_ <;> intro hc2
    ·skip
     refine .pass rfl rfl rfl (.pass rfl rfl rfl (.pass rfl rfl rfl (.pass rfl rfl rfl (.Zf (v := (vb true)) rfl rfl rfl (.nil ?_)))))
     exact ⟨⟨or_T hc2, rfl, rfl, rfl, rfl, rfl, rfl, trivial⟩, H.weak (by omega) (Nat.le_refl _)⟩
    ·skip
     refine .wanted rfl rfl (.Z2 (off := 0) (fo := 1) H 0 rfl rfl rfl rfl rfl (fun _ => .inl ⟨B5 0 _ rfl _ rfl, nofun, (fun _ => by kernel_rfl)⟩) rfl (.wanted rfl rfl (.ZC (off := 1) (v := (vi x1.To)) H 0 rfl rfl rfl rfl rfl (fun _ => .inl ⟨B5 0 _ rfl _ rfl, nofun, (fun _ => by kernel_rfl)⟩) rfl (.wanted rfl rfl (.call (ys := [(vi x1.To)]) (r := (vb (Zg x1.To))) rfl (Z3j rfl) rfl ?_)))))
     refine .wanted rfl rfl (.not (b := (Zg x1.To)) rfl rfl (.Zh (v := (vb (!(Zg x1.To)))) rfl rfl rfl (.nil ?_)))
     exact ⟨⟨or_F hc2, rfl, rfl, rfl, rfl, rfl, rfl, trivial⟩, H.weak (by omega) (Nat.le_refl _)⟩
   ·rintro e σ ⟨he, H⟩
    obtain ⟨e, rfl⟩ := he.ex
    refine .move (v := (vb ((!(Zg x1.From)) || (!(Zg x1.To))))) rfl rfl ?_
    refine .mid 6 (K1 := fun e σ => Z4 e [(28, (vb (((!(Zg x1.From)) || (!(Zg x1.To))) || (decide (x1.From > x1.To))))), (0, (vl Span.cs l)), (3, (vi s1)), (4, (.ptr (b4 + 3) 2 0)), (5, (vl Span.cs l)), (6, (vi (l.length : Int))), (7, (vi s1))] ∧ Has σ (b5 + 17) (b5 + 33) [.blk (b4 + 3) 43 [(vi x1.From), (vi x1.To)]]) rfl ?_ ?_
    ·refine .split rfl rfl ?_ ?_ <;> intro hc3
     ·skip
      refine .pass rfl rfl rfl (.pass rfl rfl rfl (.pass rfl rfl rfl (.pass rfl rfl rfl (.pass rfl rfl rfl (.Zf (v := (vb true)) rfl rfl rfl ?_)))))
      refine .nil ?_
      exact ⟨⟨or_T hc3, rfl, rfl, rfl, rfl, rfl, rfl, trivial⟩, H.weak (by omega) (Nat.le_refl _)⟩
     ·skip
      refine .wanted rfl rfl (.Z2 (off := 0) (fo := 0) H 0 rfl rfl rfl rfl rfl (fun _ => .inl ⟨B5 0 _ rfl _ rfl, nofun, (fun _ => by kernel_rfl)⟩) rfl (.wanted rfl rfl (.ZC (off := 0) (v := (vi x1.From)) H 0 rfl rfl rfl rfl rfl (fun _ => .inl ⟨B5 0 _ rfl _ rfl, nofun, (fun _ => by kernel_rfl)⟩) rfl (.wanted rfl rfl (.Z2 (off := 0) (fo := 1) H 0 rfl rfl rfl rfl rfl (fun _ => .inl ⟨B5 0 _ rfl _ rfl, nofun, (fun _ => by kernel_rfl)⟩) rfl ?_)))))
      refine .wanted rfl rfl (.ZC (off := 1) (v := (vi x1.To)) H 0 rfl rfl rfl rfl rfl (fun _ => .inl ⟨B5 0 _ rfl _ rfl, nofun, (fun _ => by kernel_rfl)⟩) rfl (.wanted rfl rfl (.int (m := x1.From) (m' := x1.To) (r := .bool (decide (x1.From > x1.To))) rfl rfl rfl rfl rfl (.Zh (v := (vb (decide (x1.From > x1.To)))) rfl rfl rfl (.nil ?_)))))
      exact ⟨⟨or_F hc3, rfl, rfl, rfl, rfl, rfl, rfl, trivial⟩, H.weak (by omega) (Nat.le_refl _)⟩
    ·rintro e σ ⟨he, H⟩
     obtain ⟨e, rfl⟩ := he.ex
     refine .move (v := (vb (((!(Zg x1.From)) || (!(Zg x1.To))) || (decide (x1.From > x1.To))))) rfl rfl ?_
     obtain ⟨y2, hj2, h⟩ := bind_some h
     refine .mid 15 (K1 := fun e σ => Z4 e [(44, (vb y2)), (0, (vl Span.cs l)), (5, (vl Span.cs l)), (6, (vi (l.length : Int))), (7, (vi s1))] ∧ Has σ (b5 + 33) (b5 + 33) []) rfl ?_ ?_
     ·refine .split rfl rfl ?_ ?_ <;> intro hc4
      ·replace h := Z7 hc4 hj2
       refine .pass rfl rfl rfl (.pass rfl rfl rfl (.pass rfl rfl rfl (.Z00 rfl rfl rfl (.Z00 rfl rfl rfl (.Z00 rfl rfl rfl ?_)))))
       refine .Z00 rfl rfl rfl (.Z00 rfl rfl rfl (.Z00 rfl rfl rfl (.Z00 rfl rfl rfl (.Z00 rfl rfl rfl (.Z00 rfl rfl rfl ?_)))))
       refine .Z00 rfl rfl rfl (.pass rfl rfl rfl (.Zf (v := (vb true)) rfl rfl rfl (.nil ?_)))
       replace h := sj h; subst h
       exact ⟨⟨rfl, rfl, rfl, rfl, rfl, trivial⟩, (H.erase 0).weak (by omega) (Nat.le_refl _)⟩
      ·replace h := Z8 hc4 hj2
       refine .wanted rfl rfl (.move (v := (vi s1)) rfl rfl (.wanted rfl rfl (.int (m := s1) (m' := 0) (r := .bool (decide (s1 > 0))) rfl rfl rfl rfl rfl (.wanted rfl rfl (.move (v := (vb (decide (s1 > 0)))) rfl rfl ?_)))))
       obtain ⟨y3, hj3, h⟩ := bind_some h
       refine .mid 11 (K1 := fun e σ => Z4 e [(43, (vb y3)), (0, (vl Span.cs l)), (5, (vl Span.cs l)), (6, (vi (l.length : Int))), (7, (vi s1)), (29, (vb false))] ∧ Has σ (b5 + 32) (b5 + 33) []) rfl ?_ ?_
       ·refine .split rfl rfl ?_ ?_ <;> intro hc5
        ·replace h := Z7 hc5 hj3
         refine .wanted rfl rfl (.Z2 (off := 0) (fo := 0) H 0 rfl rfl rfl rfl rfl (fun _ => .inl ⟨B5 0 _ rfl _ rfl, nofun, (fun _ => by kernel_rfl)⟩) rfl (.wanted rfl rfl (.ZC (off := 0) (v := (vi x1.From)) H 0 rfl rfl rfl rfl rfl (fun _ => .inl ⟨B5 0 _ rfl _ rfl, nofun, (fun _ => by kernel_rfl)⟩) rfl (.wanted rfl rfl (.move (v := (vl Span.cs l)) rfl rfl ?_)))))
         refine .wanted rfl rfl (.move (v := (vi s1)) rfl rfl (.wanted rfl rfl (.int (m := s1) (m' := 1) (r := .int .i64 (w64 (s1 - 1))) rfl rfl rfl rfl rfl (.wanted rfl rfl ?_))))
         obtain ⟨x2, q2, h⟩ := bind_some h
         refine .Zy (c := Span.cs) (u := x2) rfl rfl q2 rfl rfl rfl rfl (.wanted rfl rfl (.Z08 rfl rfl rfl rfl (.wanted rfl rfl (.Z1p (u := (.int .i64 x2.To)) rfl rfl rfl rfl (.wanted rfl rfl ?_)))))
         refine .int (m := x2.To) (m' := 2) (r := .int .i64 (w64 (x2.To + 2))) rfl rfl rfl rfl rfl (.wanted rfl rfl (.int (m := x1.From) (m' := (w64 (x2.To + 2))) (r := .bool (decide (x1.From < (w64 (x2.To + 2))))) rfl rfl rfl rfl rfl (.wanted rfl rfl (.Zf (v := (vb (decide (x1.From < (w64 (x2.To + 2)))))) rfl rfl rfl (.nil ?_)))))
         replace h := sj h; subst h
         exact ⟨⟨rfl, rfl, rfl, rfl, rfl, rfl, trivial⟩, (H.erase 0).weak (by omega) (Nat.le_refl _)⟩
        ·replace h := Z8 hc5 hj3
         refine .pass rfl rfl rfl (.pass rfl rfl rfl (.pass rfl rfl rfl (.pass rfl rfl rfl (.pass rfl rfl rfl (.pass rfl rfl rfl ?_)))))
         refine .pass rfl rfl rfl (.pass rfl rfl rfl (.pass rfl rfl rfl (.pass rfl rfl rfl (.wanted rfl rfl (.Zh (v := (vb false)) rfl rfl rfl ?_)))))
         refine .nil ?_
         replace h := sj h; subst h
         exact ⟨⟨rfl, rfl, rfl, rfl, rfl, rfl, trivial⟩, (H.erase 0).weak (by omega) (Nat.le_refl _)⟩
       ·rintro e σ ⟨he, H⟩
        obtain ⟨e, rfl⟩ := he.ex
        refine .Zh (v := (vb y3)) rfl rfl rfl (.nil ?_)
        replace h := sj h; subst h
        exact ⟨⟨rfl, rfl, rfl, rfl, rfl, trivial⟩, H.weak (by omega) (Nat.le_refl _)⟩
     ·rintro e σ ⟨he, H⟩
      obtain ⟨e, rfl⟩ := he.ex
      refine .nila H fun H => ?_
      refine .whether (v := y2) rfl ?_ ?_ <;> intro hc6
      ·replace h := Z7 hc6 h
       refine .then (.Z0 1 rfl H fun b6 σ H => (.assign (v := (vb false)) rfl rfl (.nila H fun H => (.ret ?_))))
       replace h := sj h; subst h
       exact ⟨nofun, (.inr ⟨_, rfl, rfl, (Ends.H (xs := [(vb false)]) (.inr rfl) H (.tmp (v := (vb false)) rfl .nil) (.one (.c (.v _))))⟩)⟩
      ·replace h := Z8 hc6 h
       refine .skip (.Z0 2 rfl H fun b7 σ H => (.int (m := s1) (m' := 1) (r := .int .i64 (w64 (s1 + 1))) rfl rfl rfl rfl rfl (.move (v := (vi (w64 (s1 + 1)))) rfl rfl (.nila H fun H => ?_))))
       replace h := sj h; subst h
       exact ⟨rfl, ⟨rfl, rfl, rfl, rfl, trivial⟩, H⟩
  ·replace h := Z8 hc1 h
   refine .exit ?_
   replace h := sj h; subst h
   exact ⟨nofun, (.inl ⟨_, rfl, rfl, trivial, H⟩)⟩
 ·rintro x e σ (⟨a2, rfl, rfl, he, H⟩ | ⟨r', rfl, rfl, hE⟩)
  ·skip
   replace h := jgo h
   obtain ⟨e, rfl⟩ := he.ex
   refine .then (.Z0 1 rfl H fun b8 σ H => (.assign (v := (vb true)) rfl rfl (.nila H fun H => (.ret ?_))))
   replace h := sj h; subst h
   exact (Ends.H (xs := [(vb true)]) (.inr rfl) H (.tmp (v := (vb true)) rfl .nil) (.one (.c (.v _))))
  ·skip
   replace h := jret h
   replace h := sj h; subst h
   exact hE

theorem Z3x {i : Int} {r : Bool} (h : Z02 i = r) : Fn CX 55 [(vi i)] (vb r) := by
 refine Fn.ends Try.func55 rfl rfl rfl rfl rfl rfl ?_
 have H : Hs (⟨0, fun _ => .none⟩ : Heap) [] := Has.nil (Nat.le_refl _)
 generalize (⟨0, fun _ => .none⟩ : Heap) = σ at H ⊢
 unfold Z02 at h
 refine .then (.Z0 1 rfl H fun b1 σ H => (.assign (v := (vb false)) rfl rfl (.nila H fun H => (.then (.Z0 7 rfl H fun b2 σ H => ?_)))))
 refine .move (v := (vi i)) rfl rfl (.int (m := i) (m' := (-1099511627776)) (r := .bool (decide (i ≥ (-1099511627776)))) rfl rfl rfl rfl rfl (.move (v := (vb (decide (i ≥ (-1099511627776))))) rfl rfl ?_))
 refine .mid 3 (K1 := fun e σ => Z4 e [(8, (vb ((decide (i ≥ (-1099511627776))) && (decide (i ≤ 1099511627776)))))] ∧ Has σ (b2 + 6) (b2 + 7) []) rfl ?_ ?_
 ·refine .split rfl rfl ?_ ?_ <;> intro hc1
  ·skip
   refine .wanted rfl rfl (.move (v := (vi i)) rfl rfl (.wanted rfl rfl (.int (m := i) (m' := 1099511627776) (r := .bool (decide (i ≤ 1099511627776))) rfl rfl rfl rfl rfl (.Zf (v := (vb (decide (i ≤ 1099511627776)))) rfl rfl rfl (.nil ?_)))))
   exact ⟨⟨Z15 hc1, trivial⟩, H.weak (by omega) (Nat.le_refl _)⟩
  ·skip
   refine .pass rfl rfl rfl (.pass rfl rfl rfl (.Zh (v := (vb false)) rfl rfl rfl (.nil ?_)))
   exact ⟨⟨Z19 hc1, trivial⟩, H.weak (by omega) (Nat.le_refl _)⟩
 ·rintro e σ ⟨he, H⟩
  obtain ⟨e, rfl⟩ := he.ex
  refine .assign (v := (vb ((decide (i ≥ (-1099511627776))) && (decide (i ≤ 1099511627776))))) rfl rfl (.nila H fun H => (.ret ?_))
  subst h
  exact (Ends.H (xs := [(vb ((decide (i ≥ (-1099511627776))) && (decide (i ≤ 1099511627776))))]) (.inr rfl) H (.tmp (v := (vb ((decide (i ≥ (-1099511627776))) && (decide (i ≤ 1099511627776))))) rfl .nil) (.one (.c (.v _))))

theorem gran_shape_fn {f : Form} {r : Bool} (h : Z07 f = some r) : Fn CX 49 [(.agg (vs (Form.cs f)))] (vb r) := by
 refine Fn.ends Try.func49 rfl rfl rfl rfl rfl rfl ?_
 have H : Hs (⟨0, fun _ => .none⟩ : Heap) [] := Has.nil (Nat.le_refl _)
 generalize (⟨0, fun _ => .none⟩ : Heap) = σ at H ⊢
 unfold Z07 at h
 refine .then (.Z0 2 rfl H fun b1 σ H => (.boxH (cs := (vF f)) H (by omega) (by omega) rfl rfl rfl fun σ H => (.assign (v := (vb false)) rfl rfl (.nila H fun H => (.then ?_)))))
 refine .then (.Z0 25 rfl H fun b2 σ H => (.Z2 (off := 0) (fo := 1) H 0 rfl rfl rfl rfl rfl nofun rfl (.ZC (off := 1) (v := (vi f.Count)) H 0 rfl rfl rfl rfl rfl nofun rfl (.Z2 (off := 0) (fo := 2) H 0 rfl rfl rfl rfl rfl nofun rfl (.ZC (off := 2) (v := (vl (cL Span.cs) f.Core)) H 0 rfl rfl rfl rfl rfl nofun rfl ?_)))))
 refine .Z0K (c := (cL Span.cs)) (xs := f.Core) rfl rfl rfl (.int (m := f.Count) (m' := (f.Core.length : Int)) (r := .bool (f.Count != (f.Core.length : Int))) rfl rfl rfl rfl rfl (.move (v := (vb (f.Count != (f.Core.length : Int)))) rfl rfl ?_))
 refine .mid 8 (K1 := fun e σ => Z4 e [(21, (vb ((f.Count != (f.Core.length : Int)) || ((f.Count == 0) != (f.Period == 0))))), (1, (.ptr (b1 + 0) 4 0))] ∧ Has σ (b2 + 15) (b2 + 25) [.blk (b1 + 0) 25 (vF f)]) rfl ?_ ?_
 ·refine .split rfl rfl ?_ ?_ <;> intro hc1
  ·skip
   refine .pass rfl rfl rfl (.pass rfl rfl rfl (.pass rfl rfl rfl (.pass rfl rfl rfl (.pass rfl rfl rfl (.pass rfl rfl rfl ?_)))))
   refine .pass rfl rfl rfl (.Zf (v := (vb true)) rfl rfl rfl (.nil ?_))
   exact ⟨⟨or_T hc1, rfl, trivial⟩, H.weak (by omega) (Nat.le_refl _)⟩
  ·skip
   refine .wanted rfl rfl (.Z2 (off := 0) (fo := 1) H 0 rfl rfl rfl rfl rfl nofun rfl (.wanted rfl rfl (.ZC (off := 1) (v := (vi f.Count)) H 0 rfl rfl rfl rfl rfl nofun rfl (.wanted rfl rfl (.int (m := f.Count) (m' := 0) (r := .bool (f.Count == 0)) rfl rfl rfl rfl rfl ?_)))))
   refine .wanted rfl rfl (.Z2 (off := 0) (fo := 0) H 0 rfl rfl rfl rfl rfl nofun rfl (.wanted rfl rfl (.ZC (off := 0) (v := (vi f.Period)) H 0 rfl rfl rfl rfl rfl nofun rfl (.wanted rfl rfl (.int (m := f.Period) (m' := 0) (r := .bool (f.Period == 0)) rfl rfl rfl rfl rfl ?_)))))
   refine .wanted rfl rfl (.neB (b := (f.Count == 0)) (b' := (f.Period == 0)) rfl rfl rfl rfl (.Zh (v := (vb ((f.Count == 0) != (f.Period == 0)))) rfl rfl rfl (.nil ?_)))
   exact ⟨⟨or_F hc1, rfl, trivial⟩, H.weak (by omega) (Nat.le_refl _)⟩
 ·rintro e σ ⟨he, H⟩
  obtain ⟨e, rfl⟩ := he.ex
  refine .move (v := (vb ((f.Count != (f.Core.length : Int)) || ((f.Count == 0) != (f.Period == 0))))) rfl rfl ?_
  refine .mid 4 (K1 := fun e σ => Z4 e [(26, (vb (((f.Count != (f.Core.length : Int)) || ((f.Count == 0) != (f.Period == 0))) || (decide (f.Period < 0))))), (1, (.ptr (b1 + 0) 4 0))] ∧ Has σ (b2 + 20) (b2 + 25) [.blk (b1 + 0) 25 (vF f)]) rfl ?_ ?_
  ·refine .split rfl rfl ?_ ?_ <;> intro hc2
   ·skip
    refine .pass rfl rfl rfl (.pass rfl rfl rfl (.pass rfl rfl rfl (.Zf (v := (vb true)) rfl rfl rfl (.nil ?_))))
    exact ⟨⟨or_T hc2, rfl, trivial⟩, H.weak (by omega) (Nat.le_refl _)⟩
   ·skip
    refine .wanted rfl rfl (.Z2 (off := 0) (fo := 0) H 0 rfl rfl rfl rfl rfl nofun rfl (.wanted rfl rfl (.ZC (off := 0) (v := (vi f.Period)) H 0 rfl rfl rfl rfl rfl nofun rfl (.wanted rfl rfl (.int (m := f.Period) (m' := 0) (r := .bool (decide (f.Period < 0))) rfl rfl rfl rfl rfl ?_)))))
    refine .Zh (v := (vb (decide (f.Period < 0)))) rfl rfl rfl (.nil ?_)
    exact ⟨⟨or_F hc2, rfl, trivial⟩, H.weak (by omega) (Nat.le_refl _)⟩
  ·rintro e σ ⟨he, H⟩
   obtain ⟨e, rfl⟩ := he.ex
   refine .move (v := (vb (((f.Count != (f.Core.length : Int)) || ((f.Count == 0) != (f.Period == 0))) || (decide (f.Period < 0))))) rfl rfl ?_
   refine .mid 4 (K1 := fun e σ => Z4 e [(31, (vb ((((f.Count != (f.Core.length : Int)) || ((f.Count == 0) != (f.Period == 0))) || (decide (f.Period < 0))) || (decide (f.Period > 1099511627776))))), (1, (.ptr (b1 + 0) 4 0))] ∧ Has σ (b2 + 25) (b2 + 25) [.blk (b1 + 0) 25 (vF f)]) rfl ?_ ?_
   ·refine .split rfl rfl ?_ ?_ <;> intro hc3
    ·skip
     refine .pass rfl rfl rfl (.pass rfl rfl rfl (.pass rfl rfl rfl (.Zf (v := (vb true)) rfl rfl rfl (.nil ?_))))
     exact ⟨⟨or_T hc3, rfl, trivial⟩, H.weak (by omega) (Nat.le_refl _)⟩
    ·skip
     refine .wanted rfl rfl (.Z2 (off := 0) (fo := 0) H 0 rfl rfl rfl rfl rfl nofun rfl (.wanted rfl rfl (.ZC (off := 0) (v := (vi f.Period)) H 0 rfl rfl rfl rfl rfl nofun rfl (.wanted rfl rfl (.int (m := f.Period) (m' := 1099511627776) (r := .bool (decide (f.Period > 1099511627776))) rfl rfl rfl rfl rfl ?_)))))
     refine .Zh (v := (vb (decide (f.Period > 1099511627776)))) rfl rfl rfl (.nil ?_)
     exact ⟨⟨or_F hc3, rfl, trivial⟩, H.weak (by omega) (Nat.le_refl _)⟩
   ·rintro e σ ⟨he, H⟩
    obtain ⟨e, rfl⟩ := he.ex
    refine .nila H fun H => ?_
    refine .whether (v := ((((f.Count != (f.Core.length : Int)) || ((f.Count == 0) != (f.Period == 0))) || (decide (f.Period < 0))) || (decide (f.Period > 1099511627776)))) rfl ?_ ?_ <;> intro hc4
    ·replace h := Z7 hc4 h
     refine .then (.Z0 1 rfl H fun b3 σ H => (.assign (v := (vb false)) rfl rfl (.nila H fun H => (.ret ?_))))
     replace h := sj h; subst h
     exact (Ends.H (xs := [(vb false)]) (.inr rfl) H (.tmp (v := (vb false)) rfl .nil) (.one (.c (.v _))))
    ·replace h := Z8 hc4 h
     refine .skip (.then (.then (.Z0 4 rfl H fun b4 σ H => (.Z2 (off := 0) (fo := 2) H 0 rfl rfl rfl rfl rfl nofun rfl (.ZC (off := 2) (v := (vl (cL Span.cs) f.Core)) H 0 rfl rfl rfl rfl rfl nofun rfl ?_)))))
     refine .Z0K (c := (cL Span.cs)) (xs := f.Core) rfl rfl rfl (.move (v := (vi 0)) rfl rfl (.nila H fun H => (.inBlock ?_)))
     obtain ⟨y1, hj1, h⟩ := bind_some h
     obtain ⟨n1, hj1⟩ := Zb.1 hj1
     refine .mono (Runs.ZO hj1 (fun s1 e σ => Z4 e [(1, (.ptr (b1 + 0) 4 0)), (33, (vl (cL Span.cs) f.Core)), (34, (vi (f.Core.length : Int))), (35, (vi s1))] ∧ Hs σ [.blk (b1 + 0) 25 (vF f)]) (fun y1 x e σ => (∃ a1, y1 = (.go a1) ∧ x = .exit 0 ∧ Z4 e [(1, (.ptr (b1 + 0) 4 0))] ∧ Hs σ [.blk (b1 + 0) 25 (vF f)]) ∨ (∃ r', y1 = (.ret r') ∧ x = .ret ∧ Ends CX Try.f49.results.toList (vb r') x e σ)) ⟨⟨rfl, rfl, rfl, rfl, trivial⟩, H⟩ ?_) ?_
     ·intro s1 e σ hI z h
      obtain ⟨he, H⟩ := hI
      obtain ⟨e, rfl⟩ := he.ex
      unfold Z07.s0 at h
      refine .then (.Z0 1 rfl H fun b5 σ H => (.int (m := s1) (m' := (f.Core.length : Int)) (r := .bool (decide (s1 < (f.Core.length : Int)))) rfl rfl rfl rfl rfl (.nila H fun H => (.then ?_))))
      refine .whether (v := (decide (s1 < (f.Core.length : Int)))) rfl ?_ ?_ <;> intro hc5
      ·replace h := Z7 hc5 h
       refine .skip (.then (.inBlock (.then (.Z0 3 rfl H fun b6 σ H => ?_))))
       obtain ⟨x1, q1, h⟩ := bind_some h
       refine .Zy (c := (cL Span.cs)) (u := x1) rfl rfl q1 rfl rfl rfl rfl (.Z1p (u := (.sl (x1.map Span.cs))) rfl rfl rfl rfl (.assign (v := (vl Span.cs x1)) rfl rfl (.nila H fun H => (.then (.Z0 3 rfl H fun b7 σ H => ?_)))))
       refine .move (v := (vl Span.cs x1)) rfl rfl ?_
       obtain ⟨x2, q2, h⟩ := bind_some h
       refine .call (ys := [(vl Span.cs x1)]) (r := (vb x2)) rfl (Z6I q2) rfl (.not (b := x2) rfl rfl (.nila H fun H => ?_))
       refine .whether (v := (!x2)) rfl ?_ ?_ <;> intro hc6
       ·replace h := Z7 hc6 h
        refine .then (.Z0 1 rfl H fun b8 σ H => (.assign (v := (vb false)) rfl rfl (.nila H fun H => (.ret ?_))))
        replace h := sj h; subst h
        exact ⟨nofun, (.inr ⟨_, rfl, rfl, (Ends.H (xs := [(vb false)]) (.inr rfl) H (.tmp (v := (vb false)) rfl .nil) (.one (.c (.v _))))⟩)⟩
       ·replace h := Z8 hc6 h
        refine .skip (.Z0 2 rfl H fun b9 σ H => (.int (m := s1) (m' := 1) (r := .int .i64 (w64 (s1 + 1))) rfl rfl rfl rfl rfl (.move (v := (vi (w64 (s1 + 1)))) rfl rfl (.nila H fun H => ?_))))
        replace h := sj h; subst h
        exact ⟨rfl, ⟨rfl, rfl, rfl, rfl, trivial⟩, H⟩
      ·replace h := Z8 hc5 h
       refine .exit ?_
       replace h := sj h; subst h
       exact ⟨nofun, (.inl ⟨_, rfl, rfl, ⟨rfl, trivial⟩, H⟩)⟩
     ·rintro x e σ (⟨a2, rfl, rfl, he, H⟩ | ⟨r', rfl, rfl, hE⟩)
      ·skip
       replace h := jgo h
       obtain ⟨e, rfl⟩ := he.ex
       refine .then (.then (.Z0 4 rfl H fun b10 σ H => (.Z2 (off := 0) (fo := 3) H 0 rfl rfl rfl rfl rfl nofun rfl (.ZC (off := 3) (v := (vl Granule.cs f.Odd)) H 0 rfl rfl rfl rfl rfl nofun rfl (.Z0K (c := Granule.cs) (xs := f.Odd) rfl rfl rfl ?_)))))
       refine .move (v := (vi 0)) rfl rfl (.nila H fun H => (.inBlock ?_))
       obtain ⟨y2, hj2, h⟩ := bind_some h
       obtain ⟨n2, hj2⟩ := Zb.1 hj2
       refine .mono (Runs.ZO hj2 (fun s2 e σ => Z4 e [(1, (.ptr (b1 + 0) 4 0)), (44, (vl Granule.cs f.Odd)), (45, (vi (f.Odd.length : Int))), (46, (vi s2))] ∧ Hs σ [.blk (b1 + 0) 25 (vF f)]) (fun y2 x e σ => (∃ a3, y2 = (.go a3) ∧ x = .exit 2 ∧ Z4 e [] ∧ Hs σ []) ∨ (∃ r', y2 = (.ret r') ∧ x = .ret ∧ Ends CX Try.f49.results.toList (vb r') x e σ)) ⟨⟨rfl, rfl, rfl, rfl, trivial⟩, H⟩ ?_) ?_
       ·intro s2 e σ hI z h
        obtain ⟨he, H⟩ := hI
        obtain ⟨e, rfl⟩ := he.ex
        unfold Z07.s1 at h
        refine .then (.Z0 1 rfl H fun b11 σ H => (.int (m := s2) (m' := (f.Odd.length : Int)) (r := .bool (decide (s2 < (f.Odd.length : Int)))) rfl rfl rfl rfl rfl (.nila H fun H => (.then ?_))))
        refine .whether (v := (decide (s2 < (f.Odd.length : Int)))) rfl ?_ ?_ <;> intro hc7
        ·replace h := Z7 hc7 h
         refine .skip (.then (.inBlock (.then (.Z0 6 rfl H fun b12 σ H => (.move (v := (vi s2)) rfl rfl ?_)))))
         obtain ⟨x3, q3, h⟩ := bind_some h
         refine .Zy (c := Granule.cs) (u := x3) rfl rfl q3 rfl rfl rfl rfl (.Z26 (cs := [(.int .i64 x3.Index), (.sl (x3.Ticks.map Span.cs))]) rfl rfl rfl rfl rfl rfl (.Zk (cs := [(vi 0), .nils]) H (by omega) (by omega) rfl rfl fun σ H => (.assign (v := (vi s2)) rfl rfl (.ZV (off := 0) (cells' := [(vi x3.Index), (vl Span.cs x3.Ticks)]) H 0 rfl rfl rfl rfl rfl rfl rfl rfl rfl nofun fun σ H => (.nila H fun H => ?_)))))
         refine .then (.Z0w 26 rfl (by kernel_rfl) H fun b13 σ H B13 => (.Z2 (off := 0) (fo := 1) H 0 rfl rfl rfl rfl rfl (fun _ => .inl ⟨B13 0 _ rfl _ rfl, nofun, (fun _ => by kernel_rfl)⟩) rfl (.ZC (off := 1) (v := (vl Span.cs x3.Ticks)) H 0 rfl rfl rfl rfl rfl (fun _ => .inl ⟨B13 0 _ rfl _ rfl, nofun, (fun _ => by kernel_rfl)⟩) rfl ?_)))
         obtain ⟨x4, q4, h⟩ := bind_some h
         refine .call (ys := [(vl Span.cs x3.Ticks)]) (r := (vb x4)) rfl (Z6I q4) rfl (.not (b := x4) rfl rfl (.move (v := (vb (!x4))) rfl rfl ?_))
         refine .mid 5 (K1 := fun e σ => Z4 e [(60, (vb ((!x4) || (!(Z02 x3.Index))))), (1, (.ptr (b1 + 0) 4 0)), (5, (vi s2)), (6, (.ptr (b12 + 3) 2 0)), (44, (vl Granule.cs f.Odd)), (45, (vi (f.Odd.length : Int))), (46, (vi s2))] ∧ Has σ (b13 + 10) (b13 + 26) [.blk (b12 + 3) 76 [(vi x3.Index), (vl Span.cs x3.Ticks)], .blk (b1 + 0) 25 (vF f)]) rfl ?_ ?_
         ·refine .split rfl rfl ?_ ?_ <;> intro hc8
          ·skip
           refine .pass rfl rfl rfl (.pass rfl rfl rfl (.pass rfl rfl rfl (.pass rfl rfl rfl (.Zf (v := (vb true)) rfl rfl rfl (.nil ?_)))))
           exact ⟨⟨or_T hc8, rfl, rfl, rfl, rfl, rfl, rfl, trivial⟩, H.weak (by omega) (Nat.le_refl _)⟩
          ·skip
           refine .wanted rfl rfl (.Z2 (off := 0) (fo := 0) H 0 rfl rfl rfl rfl rfl (fun _ => .inl ⟨B13 0 _ rfl _ rfl, nofun, (fun _ => by kernel_rfl)⟩) rfl (.wanted rfl rfl (.ZC (off := 0) (v := (vi x3.Index)) H 0 rfl rfl rfl rfl rfl (fun _ => .inl ⟨B13 0 _ rfl _ rfl, nofun, (fun _ => by kernel_rfl)⟩) rfl (.wanted rfl rfl (.call (ys := [(vi x3.Index)]) (r := (vb (Z02 x3.Index))) rfl (Z3x rfl) rfl ?_)))))
           refine .wanted rfl rfl (.not (b := (Z02 x3.Index)) rfl rfl (.Zh (v := (vb (!(Z02 x3.Index)))) rfl rfl rfl (.nil ?_)))
           exact ⟨⟨or_F hc8, rfl, rfl, rfl, rfl, rfl, rfl, trivial⟩, H.weak (by omega) (Nat.le_refl _)⟩
         ·rintro e σ ⟨he, H⟩
          obtain ⟨e, rfl⟩ := he.ex
          refine .move (v := (vb ((!x4) || (!(Z02 x3.Index))))) rfl rfl ?_
          obtain ⟨y3, hj3, h⟩ := bind_some h
          refine .mid 15 (K1 := fun e σ => Z4 e [(76, (vb y3)), (1, (.ptr (b1 + 0) 4 0)), (44, (vl Granule.cs f.Odd)), (45, (vi (f.Odd.length : Int))), (46, (vi s2))] ∧ Has σ (b13 + 26) (b13 + 26) [.blk (b1 + 0) 25 (vF f)]) rfl ?_ ?_
          ·refine .split rfl rfl ?_ ?_ <;> intro hc9
           ·replace h := Z7 hc9 hj3
            refine .pass rfl rfl rfl (.pass rfl rfl rfl (.pass rfl rfl rfl (.Z00 rfl rfl rfl (.Z00 rfl rfl rfl (.Z00 rfl rfl rfl ?_)))))
            refine .Z00 rfl rfl rfl (.Z00 rfl rfl rfl (.Z00 rfl rfl rfl (.Z00 rfl rfl rfl (.Z00 rfl rfl rfl (.Z00 rfl rfl rfl ?_)))))
            refine .Z00 rfl rfl rfl (.pass rfl rfl rfl (.Zf (v := (vb true)) rfl rfl rfl (.nil ?_)))
            replace h := sj h; subst h
            exact ⟨⟨rfl, rfl, rfl, rfl, rfl, trivial⟩, (H.erase 0).weak (by omega) (Nat.le_refl _)⟩
           ·replace h := Z8 hc9 hj3
            refine .wanted rfl rfl (.move (v := (vi s2)) rfl rfl (.wanted rfl rfl (.int (m := s2) (m' := 0) (r := .bool (decide (s2 > 0))) rfl rfl rfl rfl rfl (.wanted rfl rfl (.move (v := (vb (decide (s2 > 0)))) rfl rfl ?_)))))
            obtain ⟨y4, hj4, h⟩ := bind_some h
            refine .mid 11 (K1 := fun e σ => Z4 e [(75, (vb y4)), (1, (.ptr (b1 + 0) 4 0)), (44, (vl Granule.cs f.Odd)), (45, (vi (f.Odd.length : Int))), (46, (vi s2)), (61, (vb false))] ∧ Has σ (b13 + 25) (b13 + 26) [.blk (b1 + 0) 25 (vF f)]) rfl ?_ ?_
            ·refine .split rfl rfl ?_ ?_ <;> intro hc10
             ·replace h := Z7 hc10 hj4
              refine .wanted rfl rfl (.Z2 (off := 0) (fo := 0) H 0 rfl rfl rfl rfl rfl (fun _ => .inl ⟨B13 0 _ rfl _ rfl, nofun, (fun _ => by kernel_rfl)⟩) rfl (.wanted rfl rfl (.ZC (off := 0) (v := (vi x3.Index)) H 0 rfl rfl rfl rfl rfl (fun _ => .inl ⟨B13 0 _ rfl _ rfl, nofun, (fun _ => by kernel_rfl)⟩) rfl (.wanted rfl rfl (.Z2 (off := 0) (fo := 3) H 1 rfl rfl rfl rfl rfl (fun _ => .inl ⟨B13 1 _ rfl _ rfl, nofun, (fun _ => by kernel_rfl)⟩) rfl ?_)))))
              refine .wanted rfl rfl (.ZC (off := 3) (v := (vl Granule.cs f.Odd)) H 1 rfl rfl rfl rfl rfl (fun _ => .inl ⟨B13 1 _ rfl _ rfl, nofun, (fun _ => by kernel_rfl)⟩) rfl (.wanted rfl rfl (.move (v := (vi s2)) rfl rfl (.wanted rfl rfl (.int (m := s2) (m' := 1) (r := .int .i64 (w64 (s2 - 1))) rfl rfl rfl rfl rfl ?_)))))
              refine .wanted rfl rfl ?_
              obtain ⟨x5, q5, h⟩ := bind_some h
              refine .Zy (c := Granule.cs) (u := x5) rfl rfl q5 rfl rfl rfl rfl (.wanted rfl rfl (.Z08 rfl rfl rfl rfl (.wanted rfl rfl (.Z1p (u := (.int .i64 x5.Index)) rfl rfl rfl rfl (.wanted rfl rfl ?_)))))
              refine .int (m := x3.Index) (m' := x5.Index) (r := .bool (decide (x3.Index ≤ x5.Index))) rfl rfl rfl rfl rfl (.wanted rfl rfl (.Zf (v := (vb (decide (x3.Index ≤ x5.Index)))) rfl rfl rfl (.nil ?_)))
              replace h := sj h; subst h
              exact ⟨⟨rfl, rfl, rfl, rfl, rfl, rfl, trivial⟩, (H.erase 0).weak (by omega) (Nat.le_refl _)⟩
             ·replace h := Z8 hc10 hj4
              refine .pass rfl rfl rfl (.pass rfl rfl rfl (.pass rfl rfl rfl (.pass rfl rfl rfl (.pass rfl rfl rfl (.pass rfl rfl rfl ?_)))))
              refine .pass rfl rfl rfl (.pass rfl rfl rfl (.pass rfl rfl rfl (.pass rfl rfl rfl (.wanted rfl rfl (.Zh (v := (vb false)) rfl rfl rfl ?_)))))
              refine .nil ?_
              replace h := sj h; subst h
              exact ⟨⟨rfl, rfl, rfl, rfl, rfl, rfl, trivial⟩, (H.erase 0).weak (by omega) (Nat.le_refl _)⟩
            ·rintro e σ ⟨he, H⟩
             obtain ⟨e, rfl⟩ := he.ex
             refine .Zh (v := (vb y4)) rfl rfl rfl (.nil ?_)
             replace h := sj h; subst h
             exact ⟨⟨rfl, rfl, rfl, rfl, rfl, trivial⟩, H.weak (by omega) (Nat.le_refl _)⟩
          ·rintro e σ ⟨he, H⟩
           obtain ⟨e, rfl⟩ := he.ex
           refine .nila H fun H => ?_
           refine .whether (v := y3) rfl ?_ ?_ <;> intro hc11
           ·replace h := Z7 hc11 h
            refine .then (.Z0 1 rfl H fun b14 σ H => (.assign (v := (vb false)) rfl rfl (.nila H fun H => (.ret ?_))))
            replace h := sj h; subst h
            exact ⟨nofun, (.inr ⟨_, rfl, rfl, (Ends.H (xs := [(vb false)]) (.inr rfl) H (.tmp (v := (vb false)) rfl .nil) (.one (.c (.v _))))⟩)⟩
           ·replace h := Z8 hc11 h
            refine .skip (.Z0 2 rfl H fun b15 σ H => (.int (m := s2) (m' := 1) (r := .int .i64 (w64 (s2 + 1))) rfl rfl rfl rfl rfl (.move (v := (vi (w64 (s2 + 1)))) rfl rfl (.nila H fun H => ?_))))
            replace h := sj h; subst h
            exact ⟨rfl, ⟨rfl, rfl, rfl, rfl, trivial⟩, H⟩
        ·replace h := Z8 hc7 h
         refine .exit ?_
         replace h := sj h; subst h
         exact ⟨nofun, (.inl ⟨_, rfl, rfl, trivial, (H.erase 0)⟩)⟩
       ·rintro x e σ (⟨a4, rfl, rfl, he, H⟩ | ⟨r', rfl, rfl, hE⟩)
        ·skip
         replace h := jgo h
         obtain ⟨e, rfl⟩ := he.ex
         refine .then (.Z0 1 rfl H fun b16 σ H => (.assign (v := (vb true)) rfl rfl (.nila H fun H => (.ret ?_))))
         replace h := sj h; subst h
         exact (Ends.H (xs := [(vb true)]) (.inr rfl) H (.tmp (v := (vb true)) rfl .nil) (.one (.c (.v _))))
        ·skip
         replace h := jret h
         replace h := sj h; subst h
         exact hE
      ·skip
       replace h := jret h
       replace h := sj h; subst h
       exact hE

theorem gran_turns_fn {f : Form} {r : Bool} (h : Z0d f = some r) : Fn CX 50 [(.agg (vs (Form.cs f)))] (vb r) := by
 refine Fn.ends Try.func50 rfl rfl rfl rfl rfl rfl ?_
 have H : Hs (⟨0, fun _ => .none⟩ : Heap) [] := Has.nil (Nat.le_refl _)
 generalize (⟨0, fun _ => .none⟩ : Heap) = σ at H ⊢
 unfold Z0d at h
 refine .then (.Z0 2 rfl H fun b1 σ H => (.boxH (cs := (vF f)) H (by omega) (by omega) rfl rfl rfl fun σ H => (.assign (v := (vb false)) rfl rfl (.nila H fun H => (.then ?_)))))
 refine .Z0 1 rfl H fun b2 σ H => (.assign (v := .nils) rfl rfl (.nila H fun H => (.then (.then (.Z0 4 rfl H fun b3 σ H => ?_)))))
 refine .Z2 (off := 0) (fo := 2) H 0 rfl rfl rfl rfl rfl nofun rfl (.ZC (off := 2) (v := (vl (cL Span.cs) f.Core)) H 0 rfl rfl rfl rfl rfl nofun rfl (.Z0K (c := (cL Span.cs)) (xs := f.Core) rfl rfl rfl (.move (v := (vi 0)) rfl rfl (.nila H fun H => (.inBlock ?_)))))
 replace H := H.pushNil 41 1 true
 obtain ⟨y1, hj1, h⟩ := bind_some h
 obtain ⟨n1, hj1⟩ := Zb.1 hj1
 refine .mono (Runs.ZO hj1 (fun s2 e σ => ∃ (w3 : PV), Z4 e [(1, (.ptr (b1 + 0) 4 0)), (3, w3), (11, (vl (cL Span.cs) f.Core)), (12, (vi (f.Core.length : Int))), (13, (vi s2.1))] ∧ Hs σ [.sl w3 41 1 (s2.2.map (cL Span.cs)) true, .blk (b1 + 0) 25 (vF f)]) (fun y1 x e σ => ∃ (w4 : PV), x = .exit 0 ∧ Z4 e [(1, (.ptr (b1 + 0) 4 0)), (3, w4)] ∧ Hs σ [.sl w4 41 1 (y1.map (cL Span.cs)) true, .blk (b1 + 0) 25 (vF f)]) ⟨.nils, ⟨rfl, rfl, rfl, rfl, rfl, trivial⟩, H⟩ ?_) ?_
 ·intro s2 e σ hI z h
  obtain ⟨w3, he, H⟩ := hI
  obtain ⟨e, rfl⟩ := he.ex
  unfold Z0d.s0 at h
  refine .then (.Z0 1 rfl H fun b4 σ H => (.int (m := s2.1) (m' := (f.Core.length : Int)) (r := .bool (decide (s2.1 < (f.Core.length : Int)))) rfl rfl rfl rfl rfl (.nila H fun H => (.then ?_))))
  refine .whether (v := (decide (s2.1 < (f.Core.length : Int)))) rfl ?_ ?_ <;> intro hc1
  ·replace h := Z7 hc1 h
   refine .skip (.then ?_)
   obtain ⟨y2, hj2, h⟩ := bind_some h
   refine .mono (Q := fun x e σ => ∃ (w5 : PV), x = .normal ∧ Z4 e [(1, (.ptr (b1 + 0) 4 0)), (3, w5), (11, (vl (cL Span.cs) f.Core)), (12, (vi (f.Core.length : Int))), (13, (vi s2.1))] ∧ Hs σ [.sl w5 41 1 (y2.map (cL Span.cs)) true, .blk (b1 + 0) 25 (vF f)]) ?_ ?_
   ·replace h := hj2
    refine .inBlock ?_
    obtain ⟨y3, hj3, h⟩ := bind_some h
    refine .mono (Q := fun x e σ => ∃ (w6 : PV), x = .normal ∧ Z4 e [(1, (.ptr (b1 + 0) 4 0)), (3, w6), (11, (vl (cL Span.cs) f.Core)), (12, (vi (f.Core.length : Int))), (13, (vi s2.1))] ∧ Hs σ [.sl w6 41 1 (y3.map (cL Span.cs)) true, .blk (b1 + 0) 25 (vF f)]) ?_ ?_
    ·replace h := hj3
     refine .then (.Z0 3 rfl H fun b5 σ H => ?_)
     obtain ⟨x1, q1, h⟩ := bind_some h
     refine .Zy (c := (cL Span.cs)) (u := x1) rfl rfl q1 rfl rfl rfl rfl (.Z1p (u := (.sl (x1.map Span.cs))) rfl rfl rfl rfl (.assign (v := (vl Span.cs x1)) rfl rfl (.nila H fun H => (.then (.Z0 3 rfl H fun b6 σ H => ?_)))))
     refine .move (v := (vl Span.cs x1)) rfl rfl (.Z0K (c := Span.cs) (xs := x1) rfl rfl rfl (.int (m := (x1.length : Int)) (m' := 0) (r := .bool (decide ((x1.length : Int) > 0))) rfl rfl rfl rfl rfl (.nila H fun H => ?_)))
     refine .whether (v := (decide ((x1.length : Int) > 0))) rfl ?_ ?_ <;> intro hc2
     ·replace h := Z7 hc2 h
      refine .Z0 5 rfl H fun b7 σ H => (.move (v := w3) rfl rfl (.move (v := (vl Span.cs x1)) rfl rfl (.Z3K (sz := 1) ([x1].map (cL Span.cs)) H (by omega) (by omega) rfl rfl rfl rfl rfl rfl rfl rfl rfl fun σ H => ?_)))
      obtain ⟨x2, q2, h⟩ := bind_some h
      refine .Z6G (c := (cL Span.cs)) (v := w3) (w := (.buf (b7 + 2) 1 1)) (xs := s2.2) (ys := [x1]) H (by omega) (by omega) 1 rfl rfl rfl (.s 0 rfl) q2 rfl rfl rfl rfl rfl nofun rfl fun w7 σ H => (.assign (v := w7) rfl rfl (.nila H fun H => ?_))
      replace h := sj h; subst h
      exact ⟨w7, rfl, ⟨rfl, rfl, rfl, rfl, rfl, trivial⟩, (H.erase 0)⟩
     ·replace h := Z8 hc2 h
      refine .skip ?_
      replace h := sj h; subst h
      exact ⟨w3, rfl, ⟨rfl, rfl, rfl, rfl, rfl, trivial⟩, H⟩
    ·rintro x e σ ⟨w8, rfl, he, H⟩
     obtain ⟨e, rfl⟩ := he.ex
     replace h := sj h; subst h
     exact ⟨w8, rfl, ⟨rfl, rfl, rfl, rfl, rfl, trivial⟩, H⟩
   ·rintro x e σ ⟨w9, rfl, he, H⟩
    obtain ⟨e, rfl⟩ := he.ex
    refine .Z0 2 rfl H fun b8 σ H => (.int (m := s2.1) (m' := 1) (r := .int .i64 (w64 (s2.1 + 1))) rfl rfl rfl rfl rfl (.move (v := (vi (w64 (s2.1 + 1)))) rfl rfl (.nila H fun H => ?_)))
    replace h := sj h; subst h
    exact ⟨rfl, w9, ⟨rfl, rfl, rfl, rfl, rfl, trivial⟩, H⟩
  ·replace h := Z8 hc1 h
   refine .exit ?_
   replace h := sj h; subst h
   exact ⟨nofun, ⟨w3, rfl, ⟨rfl, rfl, trivial⟩, H⟩⟩
 ·rintro x e σ ⟨w10, rfl, he, H⟩
  obtain ⟨e, rfl⟩ := he.ex
  refine .then (.then (.Z0 3 rfl H fun b9 σ H => (.move (v := w10) rfl rfl (.lenSt (c := (cL Span.cs)) (xs := y1) H 0 rfl rfl rfl nofun rfl (.move (v := (vi 0)) rfl rfl ?_)))))
  refine .nila H fun H => (.inBlock ?_)
  obtain ⟨y4, hj4, h⟩ := bind_some h
  obtain ⟨n2, hj4⟩ := Zb.1 hj4
  refine .mono (Runs.ZO hj4 (fun s3 e σ => Z4 e [(1, (.ptr (b1 + 0) 4 0)), (3, w10), (25, w10), (26, (vi (y1.length : Int))), (27, (vi s3))] ∧ Hs σ [.sl w10 41 1 (y1.map (cL Span.cs)) true, .blk (b1 + 0) 25 (vF f)]) (fun y4 x e σ => (∃ a1, y4 = (.go a1) ∧ x = .exit 2 ∧ Z4 e [] ∧ Hs σ []) ∨ (∃ r', y4 = (.ret r') ∧ x = .ret ∧ Ends CX Try.f50.results.toList (vb r') x e σ)) ⟨⟨rfl, rfl, rfl, rfl, rfl, trivial⟩, H⟩ ?_) ?_
  ·intro s3 e σ hI z h
   obtain ⟨he, H⟩ := hI
   obtain ⟨e, rfl⟩ := he.ex
   unfold Z0d.s1 at h
   refine .then (.Z0 1 rfl H fun b10 σ H => (.int (m := s3) (m' := (y1.length : Int)) (r := .bool (decide (s3 < (y1.length : Int)))) rfl rfl rfl rfl rfl (.nila H fun H => (.then ?_))))
   refine .whether (v := (decide (s3 < (y1.length : Int)))) rfl ?_ ?_ <;> intro hc3
   ·replace h := Z7 hc3 h
    refine .skip (.then ?_)
    obtain ⟨y5, hj5, h⟩ := bind_some h
    refine .mono (Q := fun x e σ => (∃ a2, y5 = (.go a2) ∧ x = .normal ∧ Z4 e [(1, (.ptr (b1 + 0) 4 0)), (3, w10), (25, w10), (26, (vi (y1.length : Int))), (27, (vi s3))] ∧ Hs σ [.sl w10 41 1 (y1.map (cL Span.cs)) true, .blk (b1 + 0) 25 (vF f)]) ∨ (∃ r', y5 = (.ret r') ∧ x = .ret ∧ Ends CX Try.f50.results.toList (vb r') x e σ)) ?_ ?_
    ·replace h := hj5
     refine .inBlock ?_
     obtain ⟨y6, hj6, h⟩ := bind_some h
     refine .mono (Q := fun x e σ => (∃ a3, y6 = (.go a3) ∧ x = .normal ∧ Z4 e [(1, (.ptr (b1 + 0) 4 0)), (3, w10), (25, w10), (26, (vi (y1.length : Int))), (27, (vi s3))] ∧ Hs σ [.sl w10 41 1 (y1.map (cL Span.cs)) true, .blk (b1 + 0) 25 (vF f)]) ∨ (∃ r', y6 = (.ret r') ∧ x = .ret ∧ Ends CX Try.f50.results.toList (vb r') x e σ)) ?_ ?_
     ·replace h := hj6
      refine .then (.Z0 5 rfl H fun b11 σ H => (.move (v := (vi s3)) rfl rfl ?_))
      obtain ⟨x3, q3, h⟩ := bind_some h
      refine .Z77 H 0 rfl rfl rfl (at?_map q3) rfl rfl nofun rfl ?_; intro id1 hv1
      refine .loadS (id := id1) (j := 0) (w := (.sl (x3.map Span.cs))) H 0 rfl hv1 (by simp) (at?_map q3) rfl (by simp) rfl rfl rfl nofun rfl ?_
      refine .assign (v := (vi s3)) rfl rfl (.assign (v := (vl Span.cs x3)) rfl rfl (.nila H fun H => (.then (.Z0 10 rfl H fun b12 σ H => (.move (v := w10) rfl rfl ?_)))))
      refine .move (v := (vi s3)) rfl rfl (.int (m := s3) (m' := 1) (r := .int .i64 (w64 (s3 + 1))) rfl rfl rfl rfl rfl (.move (v := w10) rfl rfl (.lenSt (c := (cL Span.cs)) (xs := y1) H 0 rfl rfl rfl nofun rfl ?_)))
      obtain ⟨u1, q4, h⟩ := bind_some h
      refine .rem (m := (w64 (s3 + 1))) (m' := (y1.length : Int)) rfl rfl (nz_ne q4) rfl ?_
      obtain ⟨x4, q5, h⟩ := bind_some h
      refine .Z77 H 0 rfl rfl rfl (at?_map q5) rfl rfl nofun rfl ?_; intro id2 hv2
      refine .loadS (id := id2) (j := 0) (w := (.sl (x4.map Span.cs))) H 0 rfl hv2 (by simp) (at?_map q5) rfl (by simp) rfl rfl rfl nofun rfl ?_
      refine .assign (v := (vl Span.cs x4)) rfl rfl (.assign (v := (vi 0)) rfl rfl (.nila H fun H => (.then ?_)))
      obtain ⟨y7, hj7, h⟩ := bind_some h
      refine .mono (Q := fun x e σ => x = .normal ∧ Z4 e [(1, (.ptr (b1 + 0) 4 0)), (3, w10), (7, (vl Span.cs x3)), (8, (vl Span.cs x4)), (9, (vi y7)), (25, w10), (26, (vi (y1.length : Int))), (27, (vi s3))] ∧ Hs σ [.sl w10 41 1 (y1.map (cL Span.cs)) true, .blk (b1 + 0) 25 (vF f)]) ?_ ?_
      ·replace h := hj7
       refine .then (.Z0 5 rfl H fun b13 σ H => (.move (v := (vi s3)) rfl rfl (.int (m := s3) (m' := 1) (r := .int .i64 (w64 (s3 + 1))) rfl rfl rfl rfl rfl (.move (v := w10) rfl rfl (.lenSt (c := (cL Span.cs)) (xs := y1) H 0 rfl rfl rfl nofun rfl ?_)))))
       refine .int (m := (w64 (s3 + 1))) (m' := (y1.length : Int)) (r := .bool ((w64 (s3 + 1)) == (y1.length : Int))) rfl rfl rfl rfl rfl (.nila H fun H => ?_)
       refine .whether (v := ((w64 (s3 + 1)) == (y1.length : Int))) rfl ?_ ?_ <;> intro hc4
       ·replace h := Z7 hc4 h
        refine .Z0 3 rfl H fun b14 σ H => (.Z2 (off := 0) (fo := 0) H 1 rfl rfl rfl rfl rfl nofun rfl (.ZC (off := 0) (v := (vi f.Period)) H 1 rfl rfl rfl rfl rfl nofun rfl (.assign (v := (vi f.Period)) rfl rfl (.nila H fun H => ?_))))
        replace h := sj h; subst h
        exact ⟨rfl, ⟨rfl, rfl, rfl, rfl, rfl, rfl, rfl, rfl, trivial⟩, H⟩
       ·replace h := Z8 hc4 h
        refine .skip ?_
        replace h := sj h; subst h
        exact ⟨rfl, ⟨rfl, rfl, rfl, rfl, rfl, rfl, rfl, rfl, trivial⟩, H⟩
      ·rintro x e σ ⟨rfl, he, H⟩
       obtain ⟨e, rfl⟩ := he.ex
       refine .then (.Z0w 14 rfl (by kernel_rfl) H fun b15 σ H B15 => (.move (v := (vl Span.cs x3)) rfl rfl (.move (v := (vl Span.cs x3)) rfl rfl (.Z0K (c := Span.cs) (xs := x3) rfl rfl rfl (.int (m := (x3.length : Int)) (m' := 1) (r := .int .i64 (w64 ((x3.length : Int) - 1))) rfl rfl rfl rfl rfl ?_)))))
       obtain ⟨x5, q6, h⟩ := bind_some h
       refine .Zy (c := Span.cs) (u := x5) rfl rfl q6 rfl rfl rfl rfl (.Z08 rfl rfl rfl rfl (.Z1p (u := (.int .i64 x5.To)) rfl rfl rfl rfl (.move (v := (vl Span.cs x4)) rfl rfl ?_)))
       obtain ⟨x6, q7, h⟩ := bind_some h
       refine .Zy (c := Span.cs) (u := x6) rfl rfl q7 rfl rfl rfl rfl (.Z08 rfl rfl rfl rfl (.Z1p (u := (.int .i64 x6.From)) rfl rfl rfl rfl (.move (v := (vi y7)) rfl rfl (.int (m := x6.From) (m' := y7) (r := .int .i64 (w64 (x6.From + y7))) rfl rfl rfl rfl rfl (.int (m := x5.To) (m' := (w64 (x6.From + y7))) (r := .bool (decide (x5.To ≥ (w64 (x6.From + y7))))) rfl rfl rfl rfl rfl ?_)))))
       refine .nila H fun H => ?_
       refine .whether (v := (decide (x5.To ≥ (w64 (x6.From + y7))))) rfl ?_ ?_ <;> intro hc5
       ·replace h := Z7 hc5 h
        refine .then (.Z0 1 rfl H fun b16 σ H => (.assign (v := (vb false)) rfl rfl (.nila H fun H => (.ret ?_))))
        replace h := sj h; subst h
        exact (.inr ⟨_, rfl, rfl, (Ends.H (xs := [(vb false)]) (.inr rfl) H (.tmp (v := (vb false)) rfl .nil) (.one (.c (.v _))))⟩)
       ·replace h := Z8 hc5 h
        refine .skip ?_
        replace h := sj h; subst h
        exact (.inl ⟨_, rfl, rfl, ⟨rfl, rfl, rfl, rfl, rfl, trivial⟩, H⟩)
     ·rintro x e σ (⟨a4, rfl, rfl, he, H⟩ | ⟨r', rfl, rfl, hE⟩)
      ·skip
       replace h := jgo h
       obtain ⟨e, rfl⟩ := he.ex
       replace h := sj h; subst h
       exact (.inl ⟨_, rfl, rfl, ⟨rfl, rfl, rfl, rfl, rfl, trivial⟩, H⟩)
      ·skip
       replace h := jret h
       replace h := sj h; subst h
       exact (.inr ⟨_, rfl, rfl, hE⟩)
    ·rintro x e σ (⟨a5, rfl, rfl, he, H⟩ | ⟨r', rfl, rfl, hE⟩)
     ·skip
      replace h := jgo h
      obtain ⟨e, rfl⟩ := he.ex
      refine .Z0 2 rfl H fun b17 σ H => (.int (m := s3) (m' := 1) (r := .int .i64 (w64 (s3 + 1))) rfl rfl rfl rfl rfl (.move (v := (vi (w64 (s3 + 1)))) rfl rfl (.nila H fun H => ?_)))
      replace h := sj h; subst h
      exact ⟨rfl, ⟨rfl, rfl, rfl, rfl, rfl, trivial⟩, H⟩
     ·skip
      replace h := jret h
      replace h := sj h; subst h
      exact ⟨nofun, (.inr ⟨_, rfl, rfl, hE⟩)⟩
   ·replace h := Z8 hc3 h
    refine .exit ?_
    replace h := sj h; subst h
    exact ⟨nofun, (.inl ⟨_, rfl, rfl, trivial, ((H.erase 1).erase 0)⟩)⟩
  ·rintro x e σ (⟨a6, rfl, rfl, he, H⟩ | ⟨r', rfl, rfl, hE⟩)
   ·skip
    replace h := jgo h
    obtain ⟨e, rfl⟩ := he.ex
    refine .then (.Z0 1 rfl H fun b18 σ H => (.assign (v := (vb true)) rfl rfl (.nila H fun H => (.ret ?_))))
    replace h := sj h; subst h
    exact (Ends.H (xs := [(vb true)]) (.inr rfl) H (.tmp (v := (vb true)) rfl .nil) (.one (.c (.v _))))
   ·skip
    replace h := jret h
    replace h := sj h; subst h
    exact hE

theorem Z0e {x' : (List Granule)} {target : Int} {cmp : Granule → Int → Option Int} {C : List Res} {cv0 : PV} (hs0 : cv0.still = true) (hp0 : cv0.pure = true → C = []) (hf0 : ∀ z0 z1 y, cmp z0 z1 = some y → CloH CX cv0 [(.agg (vs (Granule.cs z0))), (vi z1)] (vi y) C) {r : Int × Bool} (h : Z6 x' target cmp = some r) : FnH CX 106 [(vl Granule.cs x'), (vi target), cv0] (.tup [(vi r.1), (vb r.2)]) C := by
 refine FnH.of Try.func106 rfl rfl rfl rfl (Z4X rfl (Z4X rfl (Z4X hs0 all_nil))) rfl (fun h => hp0 (Z46 h 2 rfl)) ?_
 intro σ L hC H
 unfold Z6 at h
 refine .then (.Z0 2 rfl H fun b1 σ H => (.assign (v := (vi 0)) rfl rfl (.assign (v := (vb false)) rfl rfl (.nila H fun H => (.then ?_)))))
 refine .Z0 3 rfl H fun b2 σ H => (.move (v := (vl Granule.cs x')) rfl rfl (.Z0K (c := Granule.cs) (xs := x') rfl rfl rfl (.assign (v := (vi (x'.length : Int))) rfl rfl (.nila H fun H => (.then ?_)))))
 refine .Z0 3 rfl H fun b3 σ H => (.move (v := (vi (x'.length : Int))) rfl rfl (.assign (v := (vi 0)) rfl rfl (.assign (v := (vi (x'.length : Int))) rfl rfl (.nila H fun H => (.then ?_)))))
 refine .inBlock ?_
 obtain ⟨y1, hj1, h⟩ := bind_some h
 obtain ⟨n1, hj1⟩ := Zb.1 hj1
 refine .mono (Runs.ZO hj1 (fun s1 e σ => Z4 e [(0, (vl Granule.cs x')), (1, (vi target)), (2, cv0), (8, (vi (x'.length : Int))), (9, (vi s1.1)), (10, (vi s1.2))] ∧ Hs σ (L)) (fun y1 x e σ => x = .exit 0 ∧ Z4 e [(0, (vl Granule.cs x')), (1, (vi target)), (2, cv0), (8, (vi (x'.length : Int))), (9, (vi y1))] ∧ Hs σ (L)) ⟨⟨rfl, rfl, rfl, rfl, rfl, rfl, trivial⟩, H⟩ ?_) ?_
 ·intro s1 e σ hI z h
  obtain ⟨he, H⟩ := hI
  obtain ⟨e, rfl⟩ := he.ex
  unfold Z6.s0 at h
  refine .then (.then (.Z0 3 rfl H fun b4 σ H => (.move (v := (vi s1.1)) rfl rfl (.move (v := (vi s1.2)) rfl rfl (.int (m := s1.1) (m' := s1.2) (r := .bool (decide (s1.1 < s1.2))) rfl rfl rfl rfl rfl ?_)))))
  refine .nila H fun H => ?_
  refine .whether (v := (decide (s1.1 < s1.2))) rfl ?_ ?_ <;> intro hc1
  ·replace h := Z7 hc1 h
   refine .skip (.inBlock ?_)
   obtain ⟨y2, hj2, h⟩ := bind_some h
   refine .mono (Q := fun x e σ => x = .normal ∧ Z4 e [(0, (vl Granule.cs x')), (1, (vi target)), (2, cv0), (8, (vi (x'.length : Int))), (9, (vi y2.1)), (10, (vi y2.2))] ∧ Hs σ (L)) ?_ ?_
   ·replace h := hj2
    refine .then (.Z0 7 rfl H fun b5 σ H => (.move (v := (vi s1.1)) rfl rfl (.move (v := (vi s1.2)) rfl rfl (.int (m := s1.1) (m' := s1.2) (r := .int .i64 (w64 (s1.1 + s1.2))) rfl rfl rfl rfl rfl (.conv (m := (w64 (s1.1 + s1.2))) rfl rfl rfl rfl ?_)))))
    refine .shr (m := (IntKind.u64.wrap (w64 (s1.1 + s1.2)))) (m' := 1) rfl rfl (by decide) rfl (.conv (m := ((IntKind.u64.wrap (w64 (s1.1 + s1.2))).fdiv (2 ^ 1))) rfl rfl rfl rfl (.assign (v := (vi (w64 ((IntKind.u64.wrap (w64 (s1.1 + s1.2))).fdiv (2 ^ 1))))) rfl rfl (.nila H fun H => (.then (.Z0 8 rfl H fun b6 σ H => ?_)))))
    refine .move (v := cv0) rfl rfl (.move (v := (vl Granule.cs x')) rfl rfl (.move (v := (vi (w64 ((IntKind.u64.wrap (w64 (s1.1 + s1.2))).fdiv (2 ^ 1))))) rfl rfl ?_))
    obtain ⟨x1, q1, h⟩ := bind_some h
    refine .Zy (c := Granule.cs) (u := x1) rfl rfl q1 rfl rfl rfl rfl (.Z26 (cs := [(.int .i64 x1.Index), (.sl (x1.Ticks.map Span.cs))]) rfl rfl rfl rfl rfl rfl (.move (v := (vi target)) rfl rfl ?_))
    obtain ⟨x2, q2, h⟩ := bind_some h
    refine .callV (cv := cv0) (ys := [(.agg (vs (Granule.cs x1))), (vi target)]) (r := (vi x2)) H rfl rfl (hf0 x1 target _ q2) hC nofun rfl fun σ H => (.int (m := x2) (m' := 0) (r := .bool (decide (x2 < 0))) rfl rfl rfl rfl rfl (.nila H fun H => ?_))
    refine .whether (v := (decide (x2 < 0))) rfl ?_ ?_ <;> intro hc2
    ·replace h := Z7 hc2 h
     refine .Z0 3 rfl H fun b7 σ H => (.move (v := (vi (w64 ((IntKind.u64.wrap (w64 (s1.1 + s1.2))).fdiv (2 ^ 1))))) rfl rfl (.int (m := (w64 ((IntKind.u64.wrap (w64 (s1.1 + s1.2))).fdiv (2 ^ 1)))) (m' := 1) (r := .int .i64 (w64 ((w64 ((IntKind.u64.wrap (w64 (s1.1 + s1.2))).fdiv (2 ^ 1))) + 1))) rfl rfl rfl rfl rfl (.assign (v := (vi (w64 ((w64 ((IntKind.u64.wrap (w64 (s1.1 + s1.2))).fdiv (2 ^ 1))) + 1)))) rfl rfl (.nila H fun H => ?_))))
     replace h := sj h; subst h
     exact ⟨rfl, ⟨rfl, rfl, rfl, rfl, rfl, rfl, trivial⟩, H⟩
    ·replace h := Z8 hc2 h
     refine .Z0 2 rfl H fun b8 σ H => (.move (v := (vi (w64 ((IntKind.u64.wrap (w64 (s1.1 + s1.2))).fdiv (2 ^ 1))))) rfl rfl (.assign (v := (vi (w64 ((IntKind.u64.wrap (w64 (s1.1 + s1.2))).fdiv (2 ^ 1))))) rfl rfl (.nila H fun H => ?_)))
     replace h := sj h; subst h
     exact ⟨rfl, ⟨rfl, rfl, rfl, rfl, rfl, rfl, trivial⟩, H⟩
   ·rintro x e σ ⟨rfl, he, H⟩
    obtain ⟨e, rfl⟩ := he.ex
    replace h := sj h; subst h
    exact ⟨rfl, ⟨rfl, rfl, rfl, rfl, rfl, rfl, trivial⟩, H⟩
  ·replace h := Z8 hc1 h
   refine .exit ?_
   replace h := sj h; subst h
   exact ⟨nofun, ⟨rfl, ⟨rfl, rfl, rfl, rfl, rfl, trivial⟩, H⟩⟩
 ·rintro x e σ ⟨rfl, he, H⟩
  obtain ⟨e, rfl⟩ := he.ex
  refine .then (.Z0 16 rfl H fun b9 σ H => (.move (v := (vi y1)) rfl rfl (.move (v := (vi y1)) rfl rfl (.move (v := (vi (x'.length : Int))) rfl rfl (.int (m := y1) (m' := (x'.length : Int)) (r := .bool (decide (y1 < (x'.length : Int)))) rfl rfl rfl rfl rfl ?_)))))
  refine .move (v := (vb (decide (y1 < (x'.length : Int))))) rfl rfl ?_
  obtain ⟨y3, hj3, h⟩ := bind_some h
  refine .mid 9 (K1 := fun e σ => Z4 e [(48, (vb y3)), (35, (vi y1))] ∧ Has σ (b9 + 14) (b9 + 16) (L)) rfl ?_ ?_
  ·refine .split rfl rfl ?_ ?_ <;> intro hc3
   ·replace h := Z7 hc3 hj3
    refine .wanted rfl rfl (.move (v := cv0) rfl rfl (.wanted rfl rfl (.move (v := (vl Granule.cs x')) rfl rfl (.wanted rfl rfl (.move (v := (vi y1)) rfl rfl ?_)))))
    refine .wanted rfl rfl ?_
    obtain ⟨x3, q3, h⟩ := bind_some h
    refine .Zy (c := Granule.cs) (u := x3) rfl rfl q3 rfl rfl rfl rfl (.wanted rfl rfl (.Z26 (cs := [(.int .i64 x3.Index), (.sl (x3.Ticks.map Span.cs))]) rfl rfl rfl rfl rfl rfl (.wanted rfl rfl (.move (v := (vi target)) rfl rfl (.wanted rfl rfl ?_)))))
    obtain ⟨x4, q4, h⟩ := bind_some h
    refine .callV (cv := cv0) (ys := [(.agg (vs (Granule.cs x3))), (vi target)]) (r := (vi x4)) H rfl rfl (hf0 x3 target _ q4) hC nofun rfl fun σ H => (.wanted rfl rfl (.int (m := x4) (m' := 0) (r := .bool (x4 == 0)) rfl rfl rfl rfl rfl (.Zf (v := (vb (x4 == 0))) rfl rfl rfl (.nil ?_))))
    replace h := sj h; subst h
    exact ⟨⟨rfl, rfl, trivial⟩, H.weak (by omega) (Nat.le_refl _)⟩
   ·replace h := Z8 hc3 hj3
    refine .pass rfl rfl rfl (.pass rfl rfl rfl (.pass rfl rfl rfl (.pass rfl rfl rfl (.pass rfl rfl rfl (.pass rfl rfl rfl ?_)))))
    refine .pass rfl rfl rfl (.pass rfl rfl rfl (.Zh (v := (vb false)) rfl rfl rfl (.nil ?_)))
    replace h := sj h; subst h
    exact ⟨⟨rfl, rfl, trivial⟩, H.weak (by omega) (Nat.le_refl _)⟩
  ·rintro e σ ⟨he, H⟩
   obtain ⟨e, rfl⟩ := he.ex
   refine .assign (v := (vi y1)) rfl rfl (.assign (v := (vb y3)) rfl rfl (.nila H fun H => (.ret ?_)))
   replace h := sj h; subst h
   exact (EndsH.H (xs := [(vi y1), (vb y3)]) (.inr rfl) H (.tmp (v := (vi y1)) rfl (.tmp (v := (vb y3)) rfl .nil)) (.two (.cons (.c (.v _)) (.cons (.c (.v _)) .nil))) 0 rfl)

theorem Z5N {x' : Int} {r : Bool} (h : Z05 x' = r) : Fn CX 129 [(vi x')] (vb r) := by
 refine Fn.ends Try.func129 rfl rfl rfl rfl rfl rfl ?_
 have H : Hs (⟨0, fun _ => .none⟩ : Heap) [] := Has.nil (Nat.le_refl _)
 generalize (⟨0, fun _ => .none⟩ : Heap) = σ at H ⊢
 unfold Z05 at h
 refine .then (.Z0 1 rfl H fun b1 σ H => (.assign (v := (vb false)) rfl rfl (.nila H fun H => (.then (.Z0 4 rfl H fun b2 σ H => ?_)))))
 refine .move (v := (vi x')) rfl rfl (.move (v := (vi x')) rfl rfl (.int (m := x') (m' := x') (r := .bool (x' != x')) rfl rfl rfl rfl rfl (.assign (v := (vb (x' != x'))) rfl rfl (.nila H fun H => (.ret ?_)))))
 subst h
 exact (Ends.H (xs := [(vb (x' != x'))]) (.inr rfl) H (.tmp (v := (vb (x' != x'))) rfl .nil) (.one (.c (.v _))))

theorem Z4P {x' : Int} {y : Int} {r : Int} (h : Zx x' y = r) : Fn CX 108 [(vi x'), (vi y)] (vi r) := by
 refine Fn.ends Try.func108 rfl rfl rfl rfl rfl rfl ?_
 have H : Hs (⟨0, fun _ => .none⟩ : Heap) [] := Has.nil (Nat.le_refl _)
 generalize (⟨0, fun _ => .none⟩ : Heap) = σ at H ⊢
 unfold Zx at h
 refine .then (.Z0 1 rfl H fun b1 σ H => (.assign (v := (vi 0)) rfl rfl (.nila H fun H => (.then (.Z0 3 rfl H fun b2 σ H => ?_)))))
 refine .move (v := (vi x')) rfl rfl (.call (ys := [(vi x')]) (r := (vb (Z05 x'))) rfl (Z5N rfl) rfl (.assign (v := (vb (Z05 x'))) rfl rfl (.nila H fun H => (.then (.Z0 3 rfl H fun b3 σ H => ?_)))))
 refine .move (v := (vi y)) rfl rfl (.call (ys := [(vi y)]) (r := (vb (Z05 y))) rfl (Z5N rfl) rfl (.assign (v := (vb (Z05 y))) rfl rfl (.nila H fun H => (.then (.then ?_)))))
 refine .Z0 1 rfl H fun b4 σ H => (.move (v := (vb (Z05 x'))) rfl rfl (.nila H fun H => ?_))
 refine .whether (v := (Z05 x')) rfl ?_ ?_ <;> intro hc1
 ·replace h := Z7 hc1 h
  refine .then (.then (.Z0 1 rfl H fun b5 σ H => (.move (v := (vb (Z05 y))) rfl rfl (.nila H fun H => ?_))))
  refine .whether (v := (Z05 y)) rfl ?_ ?_ <;> intro hc2
  ·replace h := Z7 hc2 h
   refine .then (.Z0 1 rfl H fun b6 σ H => (.assign (v := (vi 0)) rfl rfl (.nila H fun H => (.ret ?_))))
   subst h
   exact (Ends.H (xs := [(vi 0)]) (.inr rfl) H (.tmp (v := (vi 0)) rfl .nil) (.one (.c (.v _))))
  ·replace h := Z8 hc2 h
   refine .skip (.then (.Z0 1 rfl H fun b7 σ H => (.assign (v := (vi (-1))) rfl rfl (.nila H fun H => (.ret ?_)))))
   subst h
   exact (Ends.H (xs := [(vi (-1))]) (.inr rfl) H (.tmp (v := (vi (-1))) rfl .nil) (.one (.c (.v _))))
 ·replace h := Z8 hc1 h
  refine .skip (.then (.then (.Z0 1 rfl H fun b8 σ H => (.move (v := (vb (Z05 y))) rfl rfl (.nila H fun H => ?_)))))
  refine .whether (v := (Z05 y)) rfl ?_ ?_ <;> intro hc3
  ·replace h := Z7 hc3 h
   refine .then (.Z0 1 rfl H fun b9 σ H => (.assign (v := (vi 1)) rfl rfl (.nila H fun H => (.ret ?_))))
   subst h
   exact (Ends.H (xs := [(vi 1)]) (.inr rfl) H (.tmp (v := (vi 1)) rfl .nil) (.one (.c (.v _))))
  ·replace h := Z8 hc3 h
   refine .skip (.then (.then (.Z0 3 rfl H fun b10 σ H => (.move (v := (vi x')) rfl rfl (.move (v := (vi y)) rfl rfl ?_)))))
   refine .int (m := x') (m' := y) (r := .bool (decide (x' < y))) rfl rfl rfl rfl rfl (.nila H fun H => ?_)
   refine .whether (v := (decide (x' < y))) rfl ?_ ?_ <;> intro hc4
   ·replace h := Z7 hc4 h
    refine .then (.Z0 1 rfl H fun b11 σ H => (.assign (v := (vi (-1))) rfl rfl (.nila H fun H => (.ret ?_))))
    subst h
    exact (Ends.H (xs := [(vi (-1))]) (.inr rfl) H (.tmp (v := (vi (-1))) rfl .nil) (.one (.c (.v _))))
   ·replace h := Z8 hc4 h
    refine .skip (.then (.then (.Z0 3 rfl H fun b12 σ H => (.move (v := (vi x')) rfl rfl (.move (v := (vi y)) rfl rfl ?_)))))
    refine .int (m := x') (m' := y) (r := .bool (decide (x' > y))) rfl rfl rfl rfl rfl (.nila H fun H => ?_)
    refine .whether (v := (decide (x' > y))) rfl ?_ ?_ <;> intro hc5
    ·replace h := Z7 hc5 h
     refine .then (.Z0 1 rfl H fun b13 σ H => (.assign (v := (vi 1)) rfl rfl (.nila H fun H => (.ret ?_))))
     subst h
     exact (Ends.H (xs := [(vi 1)]) (.inr rfl) H (.tmp (v := (vi 1)) rfl .nil) (.one (.c (.v _))))
    ·replace h := Z8 hc5 h
     refine .skip (.then (.Z0 1 rfl H fun b14 σ H => (.assign (v := (vi 0)) rfl rfl (.nila H fun H => (.ret ?_)))))
     subst h
     exact (Ends.H (xs := [(vi 0)]) (.inr rfl) H (.tmp (v := (vi 0)) rfl .nil) (.one (.c (.v _))))

theorem gran_odd_1_fn {g : Granule} {i : Int} {r : Int} (h : Z37 g i = r) : Fn CX 107 [(.agg (vs (Granule.cs g))), (vi i)] (vi r) := by
 refine Fn.ends Try.func107 rfl rfl rfl rfl rfl rfl ?_
 have H : Hs (⟨0, fun _ => .none⟩ : Heap) [] := Has.nil (Nat.le_refl _)
 generalize (⟨0, fun _ => .none⟩ : Heap) = σ at H ⊢
 unfold Z37 at h
 refine .then (.Z0 2 rfl H fun b1 σ H => (.boxH (cs := [(vi g.Index), (vl Span.cs g.Ticks)]) H (by omega) (by omega) rfl rfl rfl fun σ H => (.assign (v := (vi 0)) rfl rfl (.nila H fun H => (.then ?_)))))
 refine .Z0 5 rfl H fun b2 σ H => (.Z2 (off := 0) (fo := 0) H 0 rfl rfl rfl rfl rfl nofun rfl (.ZC (off := 0) (v := (vi g.Index)) H 0 rfl rfl rfl rfl rfl nofun rfl (.move (v := (vi i)) rfl rfl (.call (ys := [(vi g.Index), (vi i)]) (r := (vi (Zx g.Index i))) rfl (Z4P rfl) rfl (.assign (v := (vi (Zx g.Index i))) rfl rfl ?_)))))
 refine .nila H fun H => (.ret ?_)
 subst h
 exact (Ends.H (xs := [(vi (Zx g.Index i))]) (.inr rfl) H (.tmp (v := (vi (Zx g.Index i))) rfl .nil) (.one (.c (.v _))))

theorem Z8l {f : Form} {i : Int} {r : Int × Bool} (h : Z3u f i = some r) : Fn CX 81 [(.agg (vs (Form.cs f))), (vi i)] (.tup [(vi r.1), (vb r.2)]) := by
 refine Fn.ends Try.func81 rfl rfl rfl rfl rfl rfl ?_
 have H : Hs (⟨0, fun _ => .none⟩ : Heap) [] := Has.nil (Nat.le_refl _)
 generalize (⟨0, fun _ => .none⟩ : Heap) = σ at H ⊢
 unfold Z3u at h
 refine .then (.Z0 3 rfl H fun b1 σ H => (.boxH (cs := (vF f)) H (by omega) (by omega) rfl rfl rfl fun σ H => (.assign (v := (vi 0)) rfl rfl (.assign (v := (vb false)) rfl rfl (.nila H fun H => ?_)))))
 refine .then (.Z0 8 rfl H fun b2 σ H => (.Z2 (off := 0) (fo := 3) H 0 rfl rfl rfl rfl rfl nofun rfl (.ZC (off := 3) (v := (vl Granule.cs f.Odd)) H 0 rfl rfl rfl rfl rfl nofun rfl (.move (v := (vi i)) rfl rfl ?_))))
 obtain ⟨x1, q1, h⟩ := bind_some h
 refine .Z6u (ys := [(vl Granule.cs f.Odd), (vi i), (.v (.fn 107))]) (r := (.tup [(vi x1.1), (vb x1.2)])) H rfl (Z0e (C := []) rfl (fun _ => rfl) (fun z0 z1 y hz => (CloH.fn (Fn.toH (gran_odd_1_fn (Option.some.inj hz)) _))) q1) .nil nofun rfl fun σ H => (.extract (v := (vi x1.1)) rfl rfl rfl (.extract (v := (vb x1.2)) rfl rfl rfl (.assign (v := (vi x1.1)) rfl rfl (.assign (v := (vb x1.2)) rfl rfl (.nila H fun H => ?_)))))
 refine .ret ?_
 replace h := sj h; subst h
 exact (Ends.H (xs := [(vi x1.1), (vb x1.2)]) (.inr rfl) H (.tmp (v := (vi x1.1)) rfl (.tmp (v := (vb x1.2)) rfl .nil)) (.two (.cons (.c (.v _)) (.cons (.c (.v _)) .nil))))

theorem Z2F {a : Int} {b : Int} {r : Int × Int × Int} (h : Z0k a b = some r) : Fn CX 77 [(vi a), (vi b)] (.tup [(vi r.1), (vi r.2.1), (vi r.2.2)]) := by
 refine Fn.ends Try.func77 rfl rfl rfl rfl rfl rfl ?_
 have H : Hs (⟨0, fun _ => .none⟩ : Heap) [] := Has.nil (Nat.le_refl _)
 generalize (⟨0, fun _ => .none⟩ : Heap) = σ at H ⊢
 unfold Z0k at h
 refine .then (.Z0 3 rfl H fun b1 σ H => (.assign (v := (vi 0)) rfl rfl (.assign (v := (vi 0)) rfl rfl (.assign (v := (vi 0)) rfl rfl (.nila H fun H => ?_)))))
 refine .then (.inBlock (.then (.Z0 3 rfl H fun b2 σ H => (.move (v := (vi b)) rfl rfl (.int (m := b) (m' := 0) (r := .bool (b == 0)) rfl rfl rfl rfl rfl ?_)))))
 refine .assign (v := (vb (b == 0))) rfl rfl (.nila H fun H => ?_)
 refine .whether (v := (b == 0)) rfl ?_ ?_ <;> intro hc1
 ·replace h := Z7 hc1 h
  refine .then (.Z0 3 rfl H fun b3 σ H => (.assign (v := (vi 0)) rfl rfl (.assign (v := (vi 0)) rfl rfl (.assign (v := (vi 11)) rfl rfl (.nila H fun H => ?_)))))
  refine .ret ?_
  replace h := sj h; subst h
  exact (Ends.H (xs := [(vi 0), (vi 0), (vi 11)]) (.inr rfl) H (.tmp (v := (vi 0)) rfl (.tmp (v := (vi 0)) rfl (.tmp (v := (vi 11)) rfl .nil))) (.two (.cons (.c (.v _)) (.cons (.c (.v _)) (.cons (.c (.v _)) .nil)))))
 ·replace h := Z8 hc1 h
  refine .then (.Z0 7 rfl H fun b4 σ H => (.move (v := (vi b)) rfl rfl (.int (m := b) (m' := (-1)) (r := .bool (b == (-1))) rfl rfl rfl rfl rfl (.move (v := (vb (b == (-1)))) rfl rfl ?_))))
  refine .mid 3 (K1 := fun e σ => Z4 e [(18, (vb ((b == (-1)) && (a == (-9223372036854775808))))), (0, (vi a)), (1, (vi b))] ∧ Has σ (b4 + 6) (b4 + 7) []) rfl ?_ ?_
  ·refine .split rfl rfl ?_ ?_ <;> intro hc2
   ·skip
    refine .wanted rfl rfl (.move (v := (vi a)) rfl rfl (.wanted rfl rfl (.int (m := a) (m' := (-9223372036854775808)) (r := .bool (a == (-9223372036854775808))) rfl rfl rfl rfl rfl (.Zf (v := (vb (a == (-9223372036854775808)))) rfl rfl rfl (.nil ?_)))))
    exact ⟨⟨Z15 hc2, rfl, rfl, trivial⟩, H.weak (by omega) (Nat.le_refl _)⟩
   ·skip
    refine .pass rfl rfl rfl (.pass rfl rfl rfl (.Zh (v := (vb false)) rfl rfl rfl (.nil ?_)))
    exact ⟨⟨Z19 hc2, rfl, rfl, trivial⟩, H.weak (by omega) (Nat.le_refl _)⟩
  ·rintro e σ ⟨he, H⟩
   obtain ⟨e, rfl⟩ := he.ex
   refine .assign (v := (vb ((b == (-1)) && (a == (-9223372036854775808))))) rfl rfl (.nila H fun H => ?_)
   refine .whether (v := ((b == (-1)) && (a == (-9223372036854775808)))) rfl ?_ ?_ <;> intro hc3
   ·replace h := Z7 hc3 h
    refine .then (.Z0 3 rfl H fun b5 σ H => (.assign (v := (vi 0)) rfl rfl (.assign (v := (vi 0)) rfl rfl (.assign (v := (vi 10)) rfl rfl (.nila H fun H => ?_)))))
    refine .ret ?_
    replace h := sj h; subst h
    exact (Ends.H (xs := [(vi 0), (vi 0), (vi 10)]) (.inr rfl) H (.tmp (v := (vi 0)) rfl (.tmp (v := (vi 0)) rfl (.tmp (v := (vi 10)) rfl .nil))) (.two (.cons (.c (.v _)) (.cons (.c (.v _)) (.cons (.c (.v _)) .nil)))))
   ·replace h := Z8 hc3 h
    refine .skip (.then (.Z0w 8 rfl (by kernel_rfl) H fun b6 σ H B6 => (.move (v := (vi a)) rfl rfl (.move (v := (vi b)) rfl rfl ?_))))
    obtain ⟨u1, q1, h⟩ := bind_some h
    refine .quo (m := a) (m' := b) rfl rfl (nz_ne q1) rfl (.move (v := (vi a)) rfl rfl (.move (v := (vi b)) rfl rfl ?_))
    obtain ⟨u2, q2, h⟩ := bind_some h
    refine .rem (m := a) (m' := b) rfl rfl (nz_ne q2) rfl (.assign (v := (vi (w64 (a.tdiv b)))) rfl rfl (.assign (v := (vi (a.tmod b))) rfl rfl (.nila H fun H => (.then ?_))))
    obtain ⟨y1, hj1, h⟩ := bind_some h
    refine .mono (Q := fun x e σ => x = .normal ∧ Z4 e [(7, (vi y1.1)), (8, (vi y1.2))] ∧ Hs σ []) ?_ ?_
    ·replace h := hj1
     refine .then (.Z0 9 rfl H fun b7 σ H => (.move (v := (vi (a.tmod b))) rfl rfl (.int (m := (a.tmod b)) (m' := 0) (r := .bool ((a.tmod b) != 0)) rfl rfl rfl rfl rfl (.move (v := (vb ((a.tmod b) != 0))) rfl rfl ?_))))
     refine .mid 6 (K1 := fun e σ => Z4 e [(33, (vb (((a.tmod b) != 0) && ((decide ((a.tmod b) < 0)) != (decide (b < 0)))))), (1, (vi b)), (7, (vi (w64 (a.tdiv b)))), (8, (vi (a.tmod b)))] ∧ Has σ (b7 + 9) (b7 + 9) []) rfl ?_ ?_
     ·refine .split rfl rfl ?_ ?_ <;> intro hc4
      ·skip
       refine .wanted rfl rfl (.move (v := (vi (a.tmod b))) rfl rfl (.wanted rfl rfl (.int (m := (a.tmod b)) (m' := 0) (r := .bool (decide ((a.tmod b) < 0))) rfl rfl rfl rfl rfl (.wanted rfl rfl (.move (v := (vi b)) rfl rfl ?_)))))
       refine .wanted rfl rfl (.int (m := b) (m' := 0) (r := .bool (decide (b < 0))) rfl rfl rfl rfl rfl (.wanted rfl rfl (.neB (b := (decide ((a.tmod b) < 0))) (b' := (decide (b < 0))) rfl rfl rfl rfl (.Zf (v := (vb ((decide ((a.tmod b) < 0)) != (decide (b < 0))))) rfl rfl rfl (.nil ?_)))))
       exact ⟨⟨Z15 hc4, rfl, rfl, rfl, trivial⟩, H.weak (by omega) (Nat.le_refl _)⟩
      ·skip
       refine .pass rfl rfl rfl (.pass rfl rfl rfl (.pass rfl rfl rfl (.pass rfl rfl rfl (.pass rfl rfl rfl (.Zh (v := (vb false)) rfl rfl rfl ?_)))))
       refine .nil ?_
       exact ⟨⟨Z19 hc4, rfl, rfl, rfl, trivial⟩, H.weak (by omega) (Nat.le_refl _)⟩
     ·rintro e σ ⟨he, H⟩
      obtain ⟨e, rfl⟩ := he.ex
      refine .nila H fun H => ?_
      refine .whether (v := (((a.tmod b) != 0) && ((decide ((a.tmod b) < 0)) != (decide (b < 0))))) rfl ?_ ?_ <;> intro hc5
      ·replace h := Z7 hc5 h
       refine .Z0 7 rfl H fun b8 σ H => (.move (v := (vi (w64 (a.tdiv b)))) rfl rfl (.int (m := (w64 (a.tdiv b))) (m' := 1) (r := .int .i64 (w64 ((w64 (a.tdiv b)) - 1))) rfl rfl rfl rfl rfl (.move (v := (vi (a.tmod b))) rfl rfl (.move (v := (vi b)) rfl rfl (.int (m := (a.tmod b)) (m' := b) (r := .int .i64 (w64 ((a.tmod b) + b))) rfl rfl rfl rfl rfl ?_)))))
       refine .assign (v := (vi (w64 ((w64 (a.tdiv b)) - 1)))) rfl rfl (.assign (v := (vi (w64 ((a.tmod b) + b)))) rfl rfl (.nila H fun H => ?_))
       replace h := sj h; subst h
       exact ⟨rfl, ⟨rfl, rfl, trivial⟩, H⟩
      ·replace h := Z8 hc5 h
       refine .skip ?_
       replace h := sj h; subst h
       exact ⟨rfl, ⟨rfl, rfl, trivial⟩, H⟩
    ·rintro x e σ ⟨rfl, he, H⟩
     obtain ⟨e, rfl⟩ := he.ex
     refine .then (.Z0 5 rfl H fun b9 σ H => (.move (v := (vi y1.1)) rfl rfl (.move (v := (vi y1.2)) rfl rfl (.assign (v := (vi y1.1)) rfl rfl (.assign (v := (vi y1.2)) rfl rfl ?_)))))
     refine .assign (v := (vi 0)) rfl rfl (.nila H fun H => (.ret ?_))
     replace h := sj h; subst h
     exact (Ends.H (xs := [(vi y1.1), (vi y1.2), (vi 0)]) (.inr rfl) H (.tmp (v := (vi y1.1)) rfl (.tmp (v := (vi y1.2)) rfl (.tmp (v := (vi 0)) rfl .nil))) (.two (.cons (.c (.v _)) (.cons (.c (.v _)) (.cons (.c (.v _)) .nil)))))

theorem Z7y {a : Int} {r : Int} (h : ZJ a = r) : Fn CX 110 [(vi a)] (vu r) := by
 refine Fn.ends Try.func110 rfl rfl rfl rfl rfl rfl ?_
 have H : Hs (⟨0, fun _ => .none⟩ : Heap) [] := Has.nil (Nat.le_refl _)
 generalize (⟨0, fun _ => .none⟩ : Heap) = σ at H ⊢
 unfold ZJ at h
 refine .then (.Z0 1 rfl H fun b1 σ H => (.assign (v := (vu 0)) rfl rfl (.nila H fun H => (.then (.then ?_)))))
 refine .Z0 2 rfl H fun b2 σ H => (.move (v := (vi a)) rfl rfl (.int (m := a) (m' := 0) (r := .bool (decide (a < 0))) rfl rfl rfl rfl rfl (.nila H fun H => ?_)))
 refine .whether (v := (decide (a < 0))) rfl ?_ ?_ <;> intro hc1
 ·replace h := Z7 hc1 h
  refine .then (.Z0 4 rfl H fun b3 σ H => (.move (v := (vi a)) rfl rfl (.conv (m := a) rfl rfl rfl rfl (.neg (m := (IntKind.u64.wrap a)) rfl rfl (.assign (v := (vu (IntKind.u64.wrap (0 - (IntKind.u64.wrap a))))) rfl rfl ?_)))))
  refine .nila H fun H => (.ret ?_)
  subst h
  exact (Ends.H (xs := [(vu (IntKind.u64.wrap (0 - (IntKind.u64.wrap a))))]) (.inr rfl) H (.tmp (v := (vu (IntKind.u64.wrap (0 - (IntKind.u64.wrap a))))) rfl .nil) (.one (.c (.v _))))
 ·replace h := Z8 hc1 h
  refine .skip (.then (.Z0 3 rfl H fun b4 σ H => (.move (v := (vi a)) rfl rfl (.conv (m := a) rfl rfl rfl rfl (.assign (v := (vu (IntKind.u64.wrap a))) rfl rfl ?_)))))
  refine .nila H fun H => (.ret ?_)
  subst h
  exact (Ends.H (xs := [(vu (IntKind.u64.wrap a))]) (.inr rfl) H (.tmp (v := (vu (IntKind.u64.wrap a))) rfl .nil) (.one (.c (.v _))))

theorem Z74 {x' : Int} {y : Int} {r : Int × Int} (h : ZM x' y = r) : Fn CX 109 [(vu x'), (vu y)] (.tup [(vu r.1), (vu r.2)]) := by
 refine Fn.ends Try.func109 rfl rfl rfl rfl rfl rfl ?_
 have H : Hs (⟨0, fun _ => .none⟩ : Heap) [] := Has.nil (Nat.le_refl _)
 generalize (⟨0, fun _ => .none⟩ : Heap) = σ at H ⊢
 unfold ZM at h
 refine .then (.Z0 2 rfl H fun b1 σ H => (.assign (v := (vu 0)) rfl rfl (.assign (v := (vu 0)) rfl rfl (.nila H fun H => (.then ?_)))))
 refine .Z0 3 rfl H fun b2 σ H => (.move (v := (vu x')) rfl rfl (.int (m := x') (m' := 4294967295) (r := .int .u64 (iAnd .u64 x' 4294967295)) rfl rfl rfl rfl rfl (.assign (v := (vu (iAnd .u64 x' 4294967295))) rfl rfl (.nila H fun H => (.then ?_)))))
 refine .Z0 3 rfl H fun b3 σ H => (.move (v := (vu x')) rfl rfl (.shr (m := x') (m' := 32) rfl rfl (by decide) rfl (.assign (v := (vu (x'.fdiv (2 ^ 32)))) rfl rfl (.nila H fun H => (.then ?_)))))
 refine .Z0 3 rfl H fun b4 σ H => (.move (v := (vu y)) rfl rfl (.int (m := y) (m' := 4294967295) (r := .int .u64 (iAnd .u64 y 4294967295)) rfl rfl rfl rfl rfl (.assign (v := (vu (iAnd .u64 y 4294967295))) rfl rfl (.nila H fun H => (.then ?_)))))
 refine .Z0 3 rfl H fun b5 σ H => (.move (v := (vu y)) rfl rfl (.shr (m := y) (m' := 32) rfl rfl (by decide) rfl (.assign (v := (vu (y.fdiv (2 ^ 32)))) rfl rfl (.nila H fun H => (.then ?_)))))
 refine .Z0 4 rfl H fun b6 σ H => (.move (v := (vu (iAnd .u64 x' 4294967295))) rfl rfl (.move (v := (vu (iAnd .u64 y 4294967295))) rfl rfl (.int (m := (iAnd .u64 x' 4294967295)) (m' := (iAnd .u64 y 4294967295)) (r := .int .u64 (IntKind.u64.wrap ((iAnd .u64 x' 4294967295) * (iAnd .u64 y 4294967295)))) rfl rfl rfl rfl rfl (.assign (v := (vu (IntKind.u64.wrap ((iAnd .u64 x' 4294967295) * (iAnd .u64 y 4294967295))))) rfl rfl (.nila H fun H => ?_)))))
 refine .then (.Z0 7 rfl H fun b7 σ H => (.move (v := (vu (x'.fdiv (2 ^ 32)))) rfl rfl (.move (v := (vu (iAnd .u64 y 4294967295))) rfl rfl (.int (m := (x'.fdiv (2 ^ 32))) (m' := (iAnd .u64 y 4294967295)) (r := .int .u64 (IntKind.u64.wrap ((x'.fdiv (2 ^ 32)) * (iAnd .u64 y 4294967295)))) rfl rfl rfl rfl rfl (.move (v := (vu (IntKind.u64.wrap ((iAnd .u64 x' 4294967295) * (iAnd .u64 y 4294967295))))) rfl rfl ?_)))))
 refine .shr (m := (IntKind.u64.wrap ((iAnd .u64 x' 4294967295) * (iAnd .u64 y 4294967295)))) (m' := 32) rfl rfl (by decide) rfl (.int (m := (IntKind.u64.wrap ((x'.fdiv (2 ^ 32)) * (iAnd .u64 y 4294967295)))) (m' := ((IntKind.u64.wrap ((iAnd .u64 x' 4294967295) * (iAnd .u64 y 4294967295))).fdiv (2 ^ 32))) (r := .int .u64 (IntKind.u64.wrap ((IntKind.u64.wrap ((x'.fdiv (2 ^ 32)) * (iAnd .u64 y 4294967295))) + ((IntKind.u64.wrap ((iAnd .u64 x' 4294967295) * (iAnd .u64 y 4294967295))).fdiv (2 ^ 32))))) rfl rfl rfl rfl rfl (.assign (v := (vu (IntKind.u64.wrap ((IntKind.u64.wrap ((x'.fdiv (2 ^ 32)) * (iAnd .u64 y 4294967295))) + ((IntKind.u64.wrap ((iAnd .u64 x' 4294967295) * (iAnd .u64 y 4294967295))).fdiv (2 ^ 32)))))) rfl rfl (.nila H fun H => (.then (.Z0 3 rfl H fun b8 σ H => ?_)))))
 refine .move (v := (vu (IntKind.u64.wrap ((IntKind.u64.wrap ((x'.fdiv (2 ^ 32)) * (iAnd .u64 y 4294967295))) + ((IntKind.u64.wrap ((iAnd .u64 x' 4294967295) * (iAnd .u64 y 4294967295))).fdiv (2 ^ 32)))))) rfl rfl (.int (m := (IntKind.u64.wrap ((IntKind.u64.wrap ((x'.fdiv (2 ^ 32)) * (iAnd .u64 y 4294967295))) + ((IntKind.u64.wrap ((iAnd .u64 x' 4294967295) * (iAnd .u64 y 4294967295))).fdiv (2 ^ 32))))) (m' := 4294967295) (r := .int .u64 (iAnd .u64 (IntKind.u64.wrap ((IntKind.u64.wrap ((x'.fdiv (2 ^ 32)) * (iAnd .u64 y 4294967295))) + ((IntKind.u64.wrap ((iAnd .u64 x' 4294967295) * (iAnd .u64 y 4294967295))).fdiv (2 ^ 32)))) 4294967295)) rfl rfl rfl rfl rfl (.assign (v := (vu (iAnd .u64 (IntKind.u64.wrap ((IntKind.u64.wrap ((x'.fdiv (2 ^ 32)) * (iAnd .u64 y 4294967295))) + ((IntKind.u64.wrap ((iAnd .u64 x' 4294967295) * (iAnd .u64 y 4294967295))).fdiv (2 ^ 32)))) 4294967295))) rfl rfl (.nila H fun H => (.then (.Z0 3 rfl H fun b9 σ H => ?_)))))
 refine .move (v := (vu (IntKind.u64.wrap ((IntKind.u64.wrap ((x'.fdiv (2 ^ 32)) * (iAnd .u64 y 4294967295))) + ((IntKind.u64.wrap ((iAnd .u64 x' 4294967295) * (iAnd .u64 y 4294967295))).fdiv (2 ^ 32)))))) rfl rfl (.shr (m := (IntKind.u64.wrap ((IntKind.u64.wrap ((x'.fdiv (2 ^ 32)) * (iAnd .u64 y 4294967295))) + ((IntKind.u64.wrap ((iAnd .u64 x' 4294967295) * (iAnd .u64 y 4294967295))).fdiv (2 ^ 32))))) (m' := 32) rfl rfl (by decide) rfl (.assign (v := (vu ((IntKind.u64.wrap ((IntKind.u64.wrap ((x'.fdiv (2 ^ 32)) * (iAnd .u64 y 4294967295))) + ((IntKind.u64.wrap ((iAnd .u64 x' 4294967295) * (iAnd .u64 y 4294967295))).fdiv (2 ^ 32)))).fdiv (2 ^ 32)))) rfl rfl (.nila H fun H => (.then (.Z0 6 rfl H fun b10 σ H => ?_)))))
 refine .move (v := (vu (iAnd .u64 (IntKind.u64.wrap ((IntKind.u64.wrap ((x'.fdiv (2 ^ 32)) * (iAnd .u64 y 4294967295))) + ((IntKind.u64.wrap ((iAnd .u64 x' 4294967295) * (iAnd .u64 y 4294967295))).fdiv (2 ^ 32)))) 4294967295))) rfl rfl (.move (v := (vu (iAnd .u64 x' 4294967295))) rfl rfl (.move (v := (vu (y.fdiv (2 ^ 32)))) rfl rfl (.int (m := (iAnd .u64 x' 4294967295)) (m' := (y.fdiv (2 ^ 32))) (r := .int .u64 (IntKind.u64.wrap ((iAnd .u64 x' 4294967295) * (y.fdiv (2 ^ 32))))) rfl rfl rfl rfl rfl (.int (m := (iAnd .u64 (IntKind.u64.wrap ((IntKind.u64.wrap ((x'.fdiv (2 ^ 32)) * (iAnd .u64 y 4294967295))) + ((IntKind.u64.wrap ((iAnd .u64 x' 4294967295) * (iAnd .u64 y 4294967295))).fdiv (2 ^ 32)))) 4294967295)) (m' := (IntKind.u64.wrap ((iAnd .u64 x' 4294967295) * (y.fdiv (2 ^ 32))))) (r := .int .u64 (IntKind.u64.wrap ((iAnd .u64 (IntKind.u64.wrap ((IntKind.u64.wrap ((x'.fdiv (2 ^ 32)) * (iAnd .u64 y 4294967295))) + ((IntKind.u64.wrap ((iAnd .u64 x' 4294967295) * (iAnd .u64 y 4294967295))).fdiv (2 ^ 32)))) 4294967295) + (IntKind.u64.wrap ((iAnd .u64 x' 4294967295) * (y.fdiv (2 ^ 32))))))) rfl rfl rfl rfl rfl (.assign (v := (vu (IntKind.u64.wrap ((iAnd .u64 (IntKind.u64.wrap ((IntKind.u64.wrap ((x'.fdiv (2 ^ 32)) * (iAnd .u64 y 4294967295))) + ((IntKind.u64.wrap ((iAnd .u64 x' 4294967295) * (iAnd .u64 y 4294967295))).fdiv (2 ^ 32)))) 4294967295) + (IntKind.u64.wrap ((iAnd .u64 x' 4294967295) * (y.fdiv (2 ^ 32)))))))) rfl rfl ?_)))))
 refine .nila H fun H => (.then (.Z0 9 rfl H fun b11 σ H => (.move (v := (vu (x'.fdiv (2 ^ 32)))) rfl rfl (.move (v := (vu (y.fdiv (2 ^ 32)))) rfl rfl (.int (m := (x'.fdiv (2 ^ 32))) (m' := (y.fdiv (2 ^ 32))) (r := .int .u64 (IntKind.u64.wrap ((x'.fdiv (2 ^ 32)) * (y.fdiv (2 ^ 32))))) rfl rfl rfl rfl rfl ?_)))))
 refine .move (v := (vu ((IntKind.u64.wrap ((IntKind.u64.wrap ((x'.fdiv (2 ^ 32)) * (iAnd .u64 y 4294967295))) + ((IntKind.u64.wrap ((iAnd .u64 x' 4294967295) * (iAnd .u64 y 4294967295))).fdiv (2 ^ 32)))).fdiv (2 ^ 32)))) rfl rfl (.int (m := (IntKind.u64.wrap ((x'.fdiv (2 ^ 32)) * (y.fdiv (2 ^ 32))))) (m' := ((IntKind.u64.wrap ((IntKind.u64.wrap ((x'.fdiv (2 ^ 32)) * (iAnd .u64 y 4294967295))) + ((IntKind.u64.wrap ((iAnd .u64 x' 4294967295) * (iAnd .u64 y 4294967295))).fdiv (2 ^ 32)))).fdiv (2 ^ 32))) (r := .int .u64 (IntKind.u64.wrap ((IntKind.u64.wrap ((x'.fdiv (2 ^ 32)) * (y.fdiv (2 ^ 32)))) + ((IntKind.u64.wrap ((IntKind.u64.wrap ((x'.fdiv (2 ^ 32)) * (iAnd .u64 y 4294967295))) + ((IntKind.u64.wrap ((iAnd .u64 x' 4294967295) * (iAnd .u64 y 4294967295))).fdiv (2 ^ 32)))).fdiv (2 ^ 32))))) rfl rfl rfl rfl rfl (.move (v := (vu (IntKind.u64.wrap ((iAnd .u64 (IntKind.u64.wrap ((IntKind.u64.wrap ((x'.fdiv (2 ^ 32)) * (iAnd .u64 y 4294967295))) + ((IntKind.u64.wrap ((iAnd .u64 x' 4294967295) * (iAnd .u64 y 4294967295))).fdiv (2 ^ 32)))) 4294967295) + (IntKind.u64.wrap ((iAnd .u64 x' 4294967295) * (y.fdiv (2 ^ 32)))))))) rfl rfl (.shr (m := (IntKind.u64.wrap ((iAnd .u64 (IntKind.u64.wrap ((IntKind.u64.wrap ((x'.fdiv (2 ^ 32)) * (iAnd .u64 y 4294967295))) + ((IntKind.u64.wrap ((iAnd .u64 x' 4294967295) * (iAnd .u64 y 4294967295))).fdiv (2 ^ 32)))) 4294967295) + (IntKind.u64.wrap ((iAnd .u64 x' 4294967295) * (y.fdiv (2 ^ 32))))))) (m' := 32) rfl rfl (by decide) rfl (.int (m := (IntKind.u64.wrap ((IntKind.u64.wrap ((x'.fdiv (2 ^ 32)) * (y.fdiv (2 ^ 32)))) + ((IntKind.u64.wrap ((IntKind.u64.wrap ((x'.fdiv (2 ^ 32)) * (iAnd .u64 y 4294967295))) + ((IntKind.u64.wrap ((iAnd .u64 x' 4294967295) * (iAnd .u64 y 4294967295))).fdiv (2 ^ 32)))).fdiv (2 ^ 32))))) (m' := ((IntKind.u64.wrap ((iAnd .u64 (IntKind.u64.wrap ((IntKind.u64.wrap ((x'.fdiv (2 ^ 32)) * (iAnd .u64 y 4294967295))) + ((IntKind.u64.wrap ((iAnd .u64 x' 4294967295) * (iAnd .u64 y 4294967295))).fdiv (2 ^ 32)))) 4294967295) + (IntKind.u64.wrap ((iAnd .u64 x' 4294967295) * (y.fdiv (2 ^ 32)))))).fdiv (2 ^ 32))) (r := .int .u64 (IntKind.u64.wrap ((IntKind.u64.wrap ((IntKind.u64.wrap ((x'.fdiv (2 ^ 32)) * (y.fdiv (2 ^ 32)))) + ((IntKind.u64.wrap ((IntKind.u64.wrap ((x'.fdiv (2 ^ 32)) * (iAnd .u64 y 4294967295))) + ((IntKind.u64.wrap ((iAnd .u64 x' 4294967295) * (iAnd .u64 y 4294967295))).fdiv (2 ^ 32)))).fdiv (2 ^ 32)))) + ((IntKind.u64.wrap ((iAnd .u64 (IntKind.u64.wrap ((IntKind.u64.wrap ((x'.fdiv (2 ^ 32)) * (iAnd .u64 y 4294967295))) + ((IntKind.u64.wrap ((iAnd .u64 x' 4294967295) * (iAnd .u64 y 4294967295))).fdiv (2 ^ 32)))) 4294967295) + (IntKind.u64.wrap ((iAnd .u64 x' 4294967295) * (y.fdiv (2 ^ 32)))))).fdiv (2 ^ 32))))) rfl rfl rfl rfl rfl (.assign (v := (vu (IntKind.u64.wrap ((IntKind.u64.wrap ((IntKind.u64.wrap ((x'.fdiv (2 ^ 32)) * (y.fdiv (2 ^ 32)))) + ((IntKind.u64.wrap ((IntKind.u64.wrap ((x'.fdiv (2 ^ 32)) * (iAnd .u64 y 4294967295))) + ((IntKind.u64.wrap ((iAnd .u64 x' 4294967295) * (iAnd .u64 y 4294967295))).fdiv (2 ^ 32)))).fdiv (2 ^ 32)))) + ((IntKind.u64.wrap ((iAnd .u64 (IntKind.u64.wrap ((IntKind.u64.wrap ((x'.fdiv (2 ^ 32)) * (iAnd .u64 y 4294967295))) + ((IntKind.u64.wrap ((iAnd .u64 x' 4294967295) * (iAnd .u64 y 4294967295))).fdiv (2 ^ 32)))) 4294967295) + (IntKind.u64.wrap ((iAnd .u64 x' 4294967295) * (y.fdiv (2 ^ 32)))))).fdiv (2 ^ 32)))))) rfl rfl ?_)))))
 refine .nila H fun H => (.then (.Z0 4 rfl H fun b12 σ H => (.move (v := (vu x')) rfl rfl (.move (v := (vu y)) rfl rfl (.int (m := x') (m' := y) (r := .int .u64 (IntKind.u64.wrap (x' * y))) rfl rfl rfl rfl rfl ?_)))))
 refine .assign (v := (vu (IntKind.u64.wrap (x' * y)))) rfl rfl (.nila H fun H => (.ret ?_))
 subst h
 exact (Ends.H (xs := [(vu (IntKind.u64.wrap ((IntKind.u64.wrap ((IntKind.u64.wrap ((x'.fdiv (2 ^ 32)) * (y.fdiv (2 ^ 32)))) + ((IntKind.u64.wrap ((IntKind.u64.wrap ((x'.fdiv (2 ^ 32)) * (iAnd .u64 y 4294967295))) + ((IntKind.u64.wrap ((iAnd .u64 x' 4294967295) * (iAnd .u64 y 4294967295))).fdiv (2 ^ 32)))).fdiv (2 ^ 32)))) + ((IntKind.u64.wrap ((iAnd .u64 (IntKind.u64.wrap ((IntKind.u64.wrap ((x'.fdiv (2 ^ 32)) * (iAnd .u64 y 4294967295))) + ((IntKind.u64.wrap ((iAnd .u64 x' 4294967295) * (iAnd .u64 y 4294967295))).fdiv (2 ^ 32)))) 4294967295) + (IntKind.u64.wrap ((iAnd .u64 x' 4294967295) * (y.fdiv (2 ^ 32)))))).fdiv (2 ^ 32))))), (vu (IntKind.u64.wrap (x' * y)))]) (.inr rfl) H (.tmp (v := (vu (IntKind.u64.wrap ((IntKind.u64.wrap ((IntKind.u64.wrap ((x'.fdiv (2 ^ 32)) * (y.fdiv (2 ^ 32)))) + ((IntKind.u64.wrap ((IntKind.u64.wrap ((x'.fdiv (2 ^ 32)) * (iAnd .u64 y 4294967295))) + ((IntKind.u64.wrap ((iAnd .u64 x' 4294967295) * (iAnd .u64 y 4294967295))).fdiv (2 ^ 32)))).fdiv (2 ^ 32)))) + ((IntKind.u64.wrap ((iAnd .u64 (IntKind.u64.wrap ((IntKind.u64.wrap ((x'.fdiv (2 ^ 32)) * (iAnd .u64 y 4294967295))) + ((IntKind.u64.wrap ((iAnd .u64 x' 4294967295) * (iAnd .u64 y 4294967295))).fdiv (2 ^ 32)))) 4294967295) + (IntKind.u64.wrap ((iAnd .u64 x' 4294967295) * (y.fdiv (2 ^ 32)))))).fdiv (2 ^ 32)))))) rfl (.tmp (v := (vu (IntKind.u64.wrap (x' * y)))) rfl .nil)) (.two (.cons (.c (.v _)) (.cons (.c (.v _)) .nil))))

theorem ZA4 {n : Int} {minus : Bool} {r : Int × Int} (h : Z0O n minus = r) : Fn CX 111 [(vu n), (vb minus)] (.tup [(vi r.1), (vi r.2)]) := by
 refine Fn.ends Try.func111 rfl rfl rfl rfl rfl rfl ?_
 have H : Hs (⟨0, fun _ => .none⟩ : Heap) [] := Has.nil (Nat.le_refl _)
 generalize (⟨0, fun _ => .none⟩ : Heap) = σ at H ⊢
 unfold Z0O at h
 refine .then (.Z0 2 rfl H fun b1 σ H => (.assign (v := (vi 0)) rfl rfl (.assign (v := (vi 0)) rfl rfl (.nila H fun H => (.then ?_)))))
 refine .inBlock (.then (.Z0 6 rfl H fun b2 σ H => (.move (v := (vb minus)) rfl rfl (.move (v := (vb minus)) rfl rfl ?_))))
 refine .mid 3 (K1 := fun e σ => Z4 e [(11, (vb (minus && (decide (n ≤ 9223372036854775808))))), (0, (vu n)), (1, (vb minus))] ∧ Has σ (b2 + 5) (b2 + 6) []) rfl ?_ ?_
 ·refine .split rfl rfl ?_ ?_ <;> intro hc1
  ·skip
   refine .wanted rfl rfl (.move (v := (vu n)) rfl rfl (.wanted rfl rfl (.int (m := n) (m' := 9223372036854775808) (r := .bool (decide (n ≤ 9223372036854775808))) rfl rfl rfl rfl rfl (.Zf (v := (vb (decide (n ≤ 9223372036854775808)))) rfl rfl rfl (.nil ?_)))))
   exact ⟨⟨Z15 hc1, rfl, rfl, trivial⟩, H.weak (by omega) (Nat.le_refl _)⟩
  ·skip
   refine .pass rfl rfl rfl (.pass rfl rfl rfl (.Zh (v := (vb false)) rfl rfl rfl (.nil ?_)))
   exact ⟨⟨Z19 hc1, rfl, rfl, trivial⟩, H.weak (by omega) (Nat.le_refl _)⟩
 ·rintro e σ ⟨he, H⟩
  obtain ⟨e, rfl⟩ := he.ex
  refine .assign (v := (vb (minus && (decide (n ≤ 9223372036854775808))))) rfl rfl (.nila H fun H => ?_)
  refine .whether (v := (minus && (decide (n ≤ 9223372036854775808)))) rfl ?_ ?_ <;> intro hc2
  ·replace h := Z7 hc2 h
   refine .then (.Z0 5 rfl H fun b3 σ H => (.move (v := (vu n)) rfl rfl (.neg (m := n) rfl rfl (.conv (m := (IntKind.u64.wrap (0 - n))) rfl rfl rfl rfl (.assign (v := (vi (w64 (IntKind.u64.wrap (0 - n))))) rfl rfl ?_)))))
   refine .assign (v := (vi 0)) rfl rfl (.nila H fun H => (.ret ?_))
   subst h
   exact (Ends.H (xs := [(vi (w64 (IntKind.u64.wrap (0 - n)))), (vi 0)]) (.inr rfl) H (.tmp (v := (vi (w64 (IntKind.u64.wrap (0 - n))))) rfl (.tmp (v := (vi 0)) rfl .nil)) (.two (.cons (.c (.v _)) (.cons (.c (.v _)) .nil))))
  ·replace h := Z8 hc2 h
   refine .then (.Z0 7 rfl H fun b4 σ H => (.move (v := (vb minus)) rfl rfl (.not (b := minus) rfl rfl (.move (v := (vb (!minus))) rfl rfl ?_))))
   refine .mid 3 (K1 := fun e σ => Z4 e [(21, (vb ((!minus) && (decide (n ≤ 9223372036854775807))))), (0, (vu n))] ∧ Has σ (b4 + 6) (b4 + 7) []) rfl ?_ ?_
   ·refine .split rfl rfl ?_ ?_ <;> intro hc3
    ·skip
     refine .wanted rfl rfl (.move (v := (vu n)) rfl rfl (.wanted rfl rfl (.int (m := n) (m' := 9223372036854775807) (r := .bool (decide (n ≤ 9223372036854775807))) rfl rfl rfl rfl rfl (.Zf (v := (vb (decide (n ≤ 9223372036854775807)))) rfl rfl rfl (.nil ?_)))))
     exact ⟨⟨Z15 hc3, rfl, trivial⟩, H.weak (by omega) (Nat.le_refl _)⟩
    ·skip
     refine .pass rfl rfl rfl (.pass rfl rfl rfl (.Zh (v := (vb false)) rfl rfl rfl (.nil ?_)))
     exact ⟨⟨Z19 hc3, rfl, trivial⟩, H.weak (by omega) (Nat.le_refl _)⟩
   ·rintro e σ ⟨he, H⟩
    obtain ⟨e, rfl⟩ := he.ex
    refine .assign (v := (vb ((!minus) && (decide (n ≤ 9223372036854775807))))) rfl rfl (.nila H fun H => ?_)
    refine .whether (v := ((!minus) && (decide (n ≤ 9223372036854775807)))) rfl ?_ ?_ <;> intro hc4
    ·replace h := Z7 hc4 h
     refine .then (.Z0 4 rfl H fun b5 σ H => (.move (v := (vu n)) rfl rfl (.conv (m := n) rfl rfl rfl rfl (.assign (v := (vi (w64 n))) rfl rfl (.assign (v := (vi 0)) rfl rfl ?_)))))
     refine .nila H fun H => (.ret ?_)
     subst h
     exact (Ends.H (xs := [(vi (w64 n)), (vi 0)]) (.inr rfl) H (.tmp (v := (vi (w64 n))) rfl (.tmp (v := (vi 0)) rfl .nil)) (.two (.cons (.c (.v _)) (.cons (.c (.v _)) .nil))))
    ·replace h := Z8 hc4 h
     refine .skip (.then (.Z0 2 rfl H fun b6 σ H => (.assign (v := (vi 0)) rfl rfl (.assign (v := (vi 10)) rfl rfl (.nila H fun H => ?_)))))
     refine .ret ?_
     subst h
     exact (Ends.H (xs := [(vi 0), (vi 10)]) (.inr rfl) H (.tmp (v := (vi 0)) rfl (.tmp (v := (vi 10)) rfl .nil)) (.two (.cons (.c (.v _)) (.cons (.c (.v _)) .nil))))

theorem safe_Mul_fn {a : Int} {b : Int} {r : Int × Int} (h : Z0P a b = r) : Fn CX 82 [(vi a), (vi b)] (.tup [(vi r.1), (vi r.2)]) := by
 refine Fn.ends Try.func82 rfl rfl rfl rfl rfl rfl ?_
 have H : Hs (⟨0, fun _ => .none⟩ : Heap) [] := Has.nil (Nat.le_refl _)
 generalize (⟨0, fun _ => .none⟩ : Heap) = σ at H ⊢
 unfold Z0P at h
 refine .then (.Z0 2 rfl H fun b1 σ H => (.assign (v := (vi 0)) rfl rfl (.assign (v := (vi 0)) rfl rfl (.nila H fun H => (.then ?_)))))
 refine .Z0 10 rfl H fun b2 σ H => (.move (v := (vi a)) rfl rfl (.call (ys := [(vi a)]) (r := (vu (ZJ a))) rfl (Z7y rfl) rfl (.move (v := (vi b)) rfl rfl (.call (ys := [(vi b)]) (r := (vu (ZJ b))) rfl (Z7y rfl) rfl (.call (ys := [(vu (ZJ a)), (vu (ZJ b))]) (r := (.tup [(vu (ZM (ZJ a) (ZJ b)).1), (vu (ZM (ZJ a) (ZJ b)).2)])) rfl (Z74 rfl) rfl ?_)))))
 refine .move (v := (.tup [(vu (ZM (ZJ a) (ZJ b)).1), (vu (ZM (ZJ a) (ZJ b)).2)])) rfl rfl (.extract (v := (vu (ZM (ZJ a) (ZJ b)).1)) rfl rfl rfl (.extract (v := (vu (ZM (ZJ a) (ZJ b)).2)) rfl rfl rfl (.assign (v := (vu (ZM (ZJ a) (ZJ b)).1)) rfl rfl (.assign (v := (vu (ZM (ZJ a) (ZJ b)).2)) rfl rfl (.nila H fun H => ?_)))))
 refine .then (.then (.Z0 2 rfl H fun b3 σ H => (.move (v := (vu (ZM (ZJ a) (ZJ b)).1)) rfl rfl (.int (m := (ZM (ZJ a) (ZJ b)).1) (m' := 0) (r := .bool (((ZM (ZJ a) (ZJ b)).1) != 0)) rfl rfl rfl rfl rfl (.nila H fun H => ?_)))))
 refine .whether (v := (((ZM (ZJ a) (ZJ b)).1) != 0)) rfl ?_ ?_ <;> intro hc1
 ·replace h := Z7 hc1 h
  refine .then (.Z0 2 rfl H fun b4 σ H => (.assign (v := (vi 0)) rfl rfl (.assign (v := (vi 10)) rfl rfl (.nila H fun H => (.ret ?_)))))
  subst h
  exact (Ends.H (xs := [(vi 0), (vi 10)]) (.inr rfl) H (.tmp (v := (vi 0)) rfl (.tmp (v := (vi 10)) rfl .nil)) (.two (.cons (.c (.v _)) (.cons (.c (.v _)) .nil))))
 ·replace h := Z8 hc1 h
  refine .skip (.then (.Z0 11 rfl H fun b5 σ H => (.move (v := (vu (ZM (ZJ a) (ZJ b)).2)) rfl rfl (.move (v := (vi a)) rfl rfl (.int (m := a) (m' := 0) (r := .bool (decide (a < 0))) rfl rfl rfl rfl rfl ?_)))))
  refine .move (v := (vi b)) rfl rfl (.int (m := b) (m' := 0) (r := .bool (decide (b < 0))) rfl rfl rfl rfl rfl (.neB (b := (decide (a < 0))) (b' := (decide (b < 0))) rfl rfl rfl rfl (.call (ys := [(vu (ZM (ZJ a) (ZJ b)).2), (vb ((decide (a < 0)) != (decide (b < 0))))]) (r := (.tup [(vi (Z0O ((ZM (ZJ a) (ZJ b)).2) ((decide (a < 0)) != (decide (b < 0)))).1), (vi (Z0O ((ZM (ZJ a) (ZJ b)).2) ((decide (a < 0)) != (decide (b < 0)))).2)])) rfl (ZA4 rfl) rfl (.extract (v := (vi (Z0O ((ZM (ZJ a) (ZJ b)).2) ((decide (a < 0)) != (decide (b < 0)))).1)) rfl rfl rfl (.extract (v := (vi (Z0O ((ZM (ZJ a) (ZJ b)).2) ((decide (a < 0)) != (decide (b < 0)))).2)) rfl rfl rfl ?_)))))
  refine .assign (v := (vi (Z0O ((ZM (ZJ a) (ZJ b)).2) ((decide (a < 0)) != (decide (b < 0)))).1)) rfl rfl (.assign (v := (vi (Z0O ((ZM (ZJ a) (ZJ b)).2) ((decide (a < 0)) != (decide (b < 0)))).2)) rfl rfl (.nila H fun H => (.ret ?_)))
  subst h
  exact (Ends.H (xs := [(vi (Z0O ((ZM (ZJ a) (ZJ b)).2) ((decide (a < 0)) != (decide (b < 0)))).1), (vi (Z0O ((ZM (ZJ a) (ZJ b)).2) ((decide (a < 0)) != (decide (b < 0)))).2)]) (.inr rfl) H (.tmp (v := (vi (Z0O ((ZM (ZJ a) (ZJ b)).2) ((decide (a < 0)) != (decide (b < 0)))).1)) rfl (.tmp (v := (vi (Z0O ((ZM (ZJ a) (ZJ b)).2) ((decide (a < 0)) != (decide (b < 0)))).2)) rfl .nil)) (.two (.cons (.c (.v _)) (.cons (.c (.v _)) .nil))))

theorem Z7s {f : Form} {i : Int} {r : (List Span) × Int × Int} (h : Z2G f i = some r) : Fn CX 56 [(.agg (vs (Form.cs f))), (vi i)] (.tup [(vl Span.cs r.1), (vi r.2.1), (vi r.2.2)]) := by
 refine Fn.ends Try.func56 rfl rfl rfl rfl rfl rfl ?_
 have H : Hs (⟨0, fun _ => .none⟩ : Heap) [] := Has.nil (Nat.le_refl _)
 generalize (⟨0, fun _ => .none⟩ : Heap) = σ at H ⊢
 unfold Z2G at h
 refine .then (.Z0 4 rfl H fun b1 σ H => (.boxH (cs := (vF f)) H (by omega) (by omega) rfl rfl rfl fun σ H => (.assign (v := .nils) rfl rfl (.assign (v := (vi 0)) rfl rfl (.assign (v := (vi 0)) rfl rfl ?_)))))
 refine .nila H fun H => (.then (.then (.Z0 8 rfl H fun b2 σ H => (.ZI (off := 0) (cs := (vF f)) H 0 rfl rfl rfl rfl rfl rfl rfl nofun rfl (.move (v := (vi i)) rfl rfl ?_)))))
 obtain ⟨x1, q1, h⟩ := bind_some h
 refine .call (ys := [(.agg (vF f)), (vi i)]) (r := (.tup [(vi x1.1), (vb x1.2)])) rfl (Z8l q1) rfl (.move (v := (.tup [(vi x1.1), (vb x1.2)])) rfl rfl (.extract (v := (vi x1.1)) rfl rfl rfl (.extract (v := (vb x1.2)) rfl rfl rfl (.assign (v := (vi x1.1)) rfl rfl (.assign (v := (vb x1.2)) rfl rfl ?_)))))
 refine .nila H fun H => (.then (.Z0 1 rfl H fun b3 σ H => (.move (v := (vb x1.2)) rfl rfl (.nila H fun H => ?_))))
 refine .whether (v := x1.2) rfl ?_ ?_ <;> intro hc1
 ·replace h := Z7 hc1 h
  refine .then (.Z0 9 rfl H fun b4 σ H => (.Z2 (off := 0) (fo := 3) H 0 rfl rfl rfl rfl rfl nofun rfl (.ZC (off := 3) (v := (vl Granule.cs f.Odd)) H 0 rfl rfl rfl rfl rfl nofun rfl (.move (v := (vi x1.1)) rfl rfl ?_))))
  obtain ⟨x2, q2, h⟩ := bind_some h
  refine .Zy (c := Granule.cs) (u := x2) rfl rfl q2 rfl rfl rfl rfl (.Z08 rfl rfl rfl rfl (.Z1p (u := (.sl (x2.Ticks.map Span.cs))) rfl rfl rfl rfl (.assign (v := (vl Span.cs x2.Ticks)) rfl rfl (.assign (v := (vi 0)) rfl rfl (.assign (v := (vi 0)) rfl rfl ?_)))))
  refine .nila H fun H => (.ret ?_)
  replace h := sj h; subst h
  exact (Ends.H (xs := [(vl Span.cs x2.Ticks), (vi 0), (vi 0)]) (.inr rfl) H (.tmp (v := (vl Span.cs x2.Ticks)) rfl (.tmp (v := (vi 0)) rfl (.tmp (v := (vi 0)) rfl .nil))) (.two (.cons (.c (.v _)) (.cons (.c (.v _)) (.cons (.c (.v _)) .nil)))))
 ·replace h := Z8 hc1 h
  refine .skip (.then (.then (.Z0 3 rfl H fun b5 σ H => (.Z2 (off := 0) (fo := 1) H 0 rfl rfl rfl rfl rfl nofun rfl (.ZC (off := 1) (v := (vi f.Count)) H 0 rfl rfl rfl rfl rfl nofun rfl ?_)))))
  refine .int (m := f.Count) (m' := 0) (r := .bool (f.Count == 0)) rfl rfl rfl rfl rfl (.nila H fun H => ?_)
  refine .whether (v := (f.Count == 0)) rfl ?_ ?_ <;> intro hc2
  ·replace h := Z7 hc2 h
   refine .then (.Z0 3 rfl H fun b6 σ H => (.assign (v := .nils) rfl rfl (.assign (v := (vi 0)) rfl rfl (.assign (v := (vi 0)) rfl rfl (.nila H fun H => ?_)))))
   refine .ret ?_
   replace h := sj h; subst h
   exact (Ends.H (xs := [.nils, (vi 0), (vi 0)]) (.inr rfl) H (.tmp (v := .nils) rfl (.tmp (v := (vi 0)) rfl (.tmp (v := (vi 0)) rfl .nil))) (.two (.cons (.c .n) (.cons (.c (.v _)) (.cons (.c (.v _)) .nil)))))
  ·replace h := Z8 hc2 h
   refine .skip (.then (.Z0 11 rfl H fun b7 σ H => (.move (v := (vi i)) rfl rfl (.Z2 (off := 0) (fo := 1) H 0 rfl rfl rfl rfl rfl nofun rfl (.ZC (off := 1) (v := (vi f.Count)) H 0 rfl rfl rfl rfl rfl nofun rfl ?_)))))
   obtain ⟨x3, q3, h⟩ := bind_some h
   refine .call (ys := [(vi i), (vi f.Count)]) (r := (.tup [(vi x3.1), (vi x3.2.1), (vi x3.2.2)])) rfl (Z2F q3) rfl (.move (v := (.tup [(vi x3.1), (vi x3.2.1), (vi x3.2.2)])) rfl rfl (.extract (v := (vi x3.1)) rfl rfl rfl (.extract (v := (vi x3.2.1)) rfl rfl rfl (.extract (v := (vi x3.2.2)) rfl rfl rfl (.assign (v := (vi x3.1)) rfl rfl ?_)))))
   refine .assign (v := (vi x3.2.1)) rfl rfl (.assign (v := (vi x3.2.2)) rfl rfl (.nila H fun H => (.then (.Z0 9 rfl H fun b8 σ H => (.move (v := (vi x3.1)) rfl rfl ?_)))))
   refine .Z2 (off := 0) (fo := 0) H 0 rfl rfl rfl rfl rfl nofun rfl (.ZC (off := 0) (v := (vi f.Period)) H 0 rfl rfl rfl rfl rfl nofun rfl (.call (ys := [(vi x3.1), (vi f.Period)]) (r := (.tup [(vi (Z0P x3.1 f.Period).1), (vi (Z0P x3.1 f.Period).2)])) rfl (safe_Mul_fn rfl) rfl (.move (v := (.tup [(vi (Z0P x3.1 f.Period).1), (vi (Z0P x3.1 f.Period).2)])) rfl rfl (.extract (v := (vi (Z0P x3.1 f.Period).1)) rfl rfl rfl (.extract (v := (vi (Z0P x3.1 f.Period).2)) rfl rfl rfl ?_)))))
   refine .assign (v := (vi (Z0P x3.1 f.Period).1)) rfl rfl (.assign (v := (vi (Z0P x3.1 f.Period).2)) rfl rfl (.nila H fun H => (.then (.Z0 10 rfl H fun b9 σ H => (.Z2 (off := 0) (fo := 2) H 0 rfl rfl rfl rfl rfl nofun rfl ?_)))))
   refine .ZC (off := 2) (v := (vl (cL Span.cs) f.Core)) H 0 rfl rfl rfl rfl rfl nofun rfl (.move (v := (vi x3.2.1)) rfl rfl ?_)
   obtain ⟨x4, q4, h⟩ := bind_some h
   refine .Zy (c := (cL Span.cs)) (u := x4) rfl rfl q4 rfl rfl rfl rfl (.Z1p (u := (.sl (x4.map Span.cs))) rfl rfl rfl rfl (.move (v := (vi (Z0P x3.1 f.Period).1)) rfl rfl (.move (v := (vi (Z0P x3.1 f.Period).2)) rfl rfl (.assign (v := (vl Span.cs x4)) rfl rfl (.assign (v := (vi (Z0P x3.1 f.Period).1)) rfl rfl ?_)))))
   refine .assign (v := (vi (Z0P x3.1 f.Period).2)) rfl rfl (.nila H fun H => (.ret ?_))
   replace h := sj h; subst h
   exact (Ends.H (xs := [(vl Span.cs x4), (vi (Z0P x3.1 f.Period).1), (vi (Z0P x3.1 f.Period).2)]) (.inr rfl) H (.tmp (v := (vl Span.cs x4)) rfl (.tmp (v := (vi (Z0P x3.1 f.Period).1)) rfl (.tmp (v := (vi (Z0P x3.1 f.Period).2)) rfl .nil))) (.two (.cons (.c (.v _)) (.cons (.c (.v _)) (.cons (.c (.v _)) .nil)))))

theorem Z8h {a : Int} {b : Int} {r : Int × Int} (h : ZF a b = r) : Fn CX 83 [(vi a), (vi b)] (.tup [(vi r.1), (vi r.2)]) := by
 refine Fn.ends Try.func83 rfl rfl rfl rfl rfl rfl ?_
 have H : Hs (⟨0, fun _ => .none⟩ : Heap) [] := Has.nil (Nat.le_refl _)
 generalize (⟨0, fun _ => .none⟩ : Heap) = σ at H ⊢
 unfold ZF at h
 refine .then (.Z0 2 rfl H fun b1 σ H => (.assign (v := (vi 0)) rfl rfl (.assign (v := (vi 0)) rfl rfl (.nila H fun H => (.then ?_)))))
 refine .Z0 4 rfl H fun b2 σ H => (.move (v := (vi a)) rfl rfl (.move (v := (vi b)) rfl rfl (.int (m := a) (m' := b) (r := .int .i64 (w64 (a + b))) rfl rfl rfl rfl rfl (.assign (v := (vi (w64 (a + b)))) rfl rfl (.nila H fun H => ?_)))))
 refine .then (.then (.Z0 10 rfl H fun b3 σ H => (.move (v := (vi (w64 (a + b)))) rfl rfl (.move (v := (vi a)) rfl rfl (.int (m := (w64 (a + b))) (m' := a) (r := .bool (decide ((w64 (a + b)) > a))) rfl rfl rfl rfl rfl ?_)))))
 refine .move (v := (vi b)) rfl rfl (.int (m := b) (m' := 0) (r := .bool (decide (b > 0))) rfl rfl rfl rfl rfl (.neB (b := (decide ((w64 (a + b)) > a))) (b' := (decide (b > 0))) rfl rfl rfl rfl (.move (v := (vb ((decide ((w64 (a + b)) > a)) != (decide (b > 0))))) rfl rfl ?_)))
 refine .mid 3 (K1 := fun e σ => Z4 e [(19, (vb (((decide ((w64 (a + b)) > a)) != (decide (b > 0))) && (b != 0)))), (6, (vi (w64 (a + b))))] ∧ Has σ (b3 + 10) (b3 + 10) []) rfl ?_ ?_
 ·refine .split rfl rfl ?_ ?_ <;> intro hc1
  ·skip
   refine .wanted rfl rfl (.move (v := (vi b)) rfl rfl (.wanted rfl rfl (.int (m := b) (m' := 0) (r := .bool (b != 0)) rfl rfl rfl rfl rfl (.Zf (v := (vb (b != 0))) rfl rfl rfl (.nil ?_)))))
   exact ⟨⟨Z15 hc1, rfl, trivial⟩, H.weak (by omega) (Nat.le_refl _)⟩
  ·skip
   refine .pass rfl rfl rfl (.pass rfl rfl rfl (.Zh (v := (vb false)) rfl rfl rfl (.nil ?_)))
   exact ⟨⟨Z19 hc1, rfl, trivial⟩, H.weak (by omega) (Nat.le_refl _)⟩
 ·rintro e σ ⟨he, H⟩
  obtain ⟨e, rfl⟩ := he.ex
  refine .nila H fun H => ?_
  refine .whether (v := (((decide ((w64 (a + b)) > a)) != (decide (b > 0))) && (b != 0))) rfl ?_ ?_ <;> intro hc2
  ·replace h := Z7 hc2 h
   refine .then (.Z0 2 rfl H fun b4 σ H => (.assign (v := (vi 0)) rfl rfl (.assign (v := (vi 10)) rfl rfl (.nila H fun H => (.ret ?_)))))
   subst h
   exact (Ends.H (xs := [(vi 0), (vi 10)]) (.inr rfl) H (.tmp (v := (vi 0)) rfl (.tmp (v := (vi 10)) rfl .nil)) (.two (.cons (.c (.v _)) (.cons (.c (.v _)) .nil))))
  ·replace h := Z8 hc2 h
   refine .skip (.then (.Z0 3 rfl H fun b5 σ H => (.move (v := (vi (w64 (a + b)))) rfl rfl (.assign (v := (vi (w64 (a + b)))) rfl rfl (.assign (v := (vi 0)) rfl rfl ?_)))))
   refine .nila H fun H => (.ret ?_)
   subst h
   exact (Ends.H (xs := [(vi (w64 (a + b))), (vi 0)]) (.inr rfl) H (.tmp (v := (vi (w64 (a + b)))) rfl (.tmp (v := (vi 0)) rfl .nil)) (.two (.cons (.c (.v _)) (.cons (.c (.v _)) .nil))))

end Go.Dn
