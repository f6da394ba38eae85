/- Part 2 of what the row stands on. -/
import Derived.Test.YtefaoeaohhdhkaaProg
import Derived.KernelRfl
import Derived.Test.YtefaoeaohhdhkaaM1
set_option linter.unusedVariables false
set_option linter.unusedSimpArgs false
namespace Go.Dn
open Go
theorem Has.perm {σ : Heap} {lo hi : Nat} {L L' : List Res} (H : Has σ lo hi L) (hp : L.Perm L') : Has σ lo hi L' := by
 have mem : ∀ {A : List Res}, (∀ (k : Nat) (r : Res), A[k]? = some r → r.holds σ) ↔ ∀ r ∈ A, r.holds σ := fun {A} =>
  ⟨fun h r hr => by obtain ⟨k, hk⟩ := YC hr; exact h k r hk, fun h k r hk => h r (Y7 hk)⟩
 have pw : L.Pairwise (fun r s => ∀ id, r.owner = some id → s.owner ≠ some id) := by
  rw [Ys];intro i j hi' hj hij;exact H.sep i j _ _ (by omega) (Y2 hi') (Y2 hj)
 have pw' : L'.Pairwise (fun r s => ∀ id, r.owner = some id → s.owner ≠ some id) := (hp.pairwise_iff (fun {a b} h id h1 h2 => h id h2 h1)).1 pw
 refine ⟨mem.2 fun r hr => mem.1 H.holds r (hp.mem_iff.2 hr), fun k r hk => ?_, fun i j r s hij h1 h2 => ?_, H.le⟩
 ·obtain ⟨k', hk'⟩ := YC (hp.mem_iff.2 (Y7 hk))
  exact H.lt k' r hk'
 ·obtain ⟨hi', rfl⟩ := List.getElem?_eq_some_iff.1 h1
  obtain ⟨hj', rfl⟩ := List.getElem?_eq_some_iff.1 h2
  rw [Ys] at pw'
  rcases YD i j with h | h
  ·exact pw' i j hi' hj' h
  ·intro id h3 h4;exact pw' j i hj' hi' (by omega) id h4 h3
def pdOf : Ex → Option Code
 | .normal => none
 | .exit t => some (.exit t)
 | .ret => some .ret
theorem Has.slCells {σ : Heap} {lo hi : Nat} {L : List Res} {k : Nat} {v : PV} {et : TypeId} {sz : Nat} {xs : List (List FV)} {lv : Bool} (H : Has σ lo hi L) (h : L[k]? = some (.sl v et sz xs lv)) : v.cells = some [v] := by
 rcases (H.holds k _ h).2 with ⟨rfl, _⟩ | ⟨id, rfl, _⟩ <;> rfl
theorem Runs.env {X : Ctx} {n : Nat} {fn : FuncId} {c : Code} {e : Env} {σ : Heap} {Q : Ex → Env → Heap → Prop} (l : List (Nat × PV)) (he : ZA e l) (h : ∀ e0, Runs X n fn c (sets e0 l) σ Q) : Runs X n fn c e σ Q := by
 obtain ⟨e0, rfl⟩ := he.ex
 exact h e0
section
variable {X : Ctx}
def YldH (X : Ctx) (id : Nat) {S T : Type} (C : S → List Res → Prop) (pvT : T → List PV) (y : S → T → Option (S × Bool)) : Prop :=
 ∀ s t s' b, y s t = some (s', b) → ∀ σ lo hi O L, C s L → Has σ lo hi (O ++ L) → ∃ σ' L', Zu X (.yld id) (pvT t) σ = some (.v (.bool b), σ') ∧ C s' L' ∧ Hs σ' (O ++ L')
def ItF (X : Ctx) (f : FuncId) (args : List PV) {S : Type} (C : S → List Res → Prop) (s s' : S) : Prop :=
 ∀ σ L, C s L → Hs σ L → ∃ σ' L', Zu X (.fn f) args σ = some (.tup [], σ') ∧ C s' L' ∧ Hs σ' L'
structure EndsI {S : Type} (C : S → List Res → Prop) (s : S) (x : Ex) (e : Env) (σ : Heap) : Prop where
 out : (x = .normal ∨ x = .ret) ∧ ∃ L, C s L ∧ Hs σ L
theorem EndsI.H {S : Type} {C : S → List Res → Prop} {s : S} {x : Ex} {e : Env} {σ : Heap} {lo hi : Nat} {L L0 : List Res} (hx : x = .normal ∨ x = .ret) (H : Has σ lo hi L) (k : Nat) (hk : L.drop k = L0) (hC : C s L0) : EndsI C s x e σ :=
 ⟨hx, L0, hC, (hk ▸ H.drop k : Has σ lo hi L0).all⟩
theorem ItF.of {f : FuncId} {args : List PV} {S : Type} {C : S → List Res → Prop} {s s' : S} {fu : Func} {c : Code} {m : Nat} (hf : X.P.funcs[f]? = some fu) (hb : fu.body = some c) (hr : fu.results = #[]) (hi : X.intr f args = none) (hk : X.keep f = false) (ho : X.opn f = false) (hs : args.all PV.still = true)
  (hp : args.all PV.pure = false) (hm : max fu.ntmps args.length = m) (h : ∀ σ L, C s L → Hs σ L → Runs X m f c (Z40 args) σ (EndsI C s')) : ItF X f args C s s' := by
 subst hm
 intro σ L hC H
 obtain ⟨lf, x, e', σ1, h1, hE⟩ := (h σ L hC H).run
 obtain ⟨hx, L', hC', H'⟩ := hE.out
 refine ⟨σ1, L', Z1f (lf := lf) ?_, hC', H'⟩
 have hbody : Z0m X (Zu X) lf f args σ = some (.tup [], σ1) := by
  simp only [Z0m, hf, hb, h1]
  rcases hx with rfl | rfl <;> simp [hr, Zq, Z0w]
 simp only [Z3A, hi, hk, YA, if_false, Z3D hs, ho, hp, hbody, Y0]
 rfl
section
variable {n : Nat} {dr : Bool} {fn : FuncId} {ops : Array Oper} {base i : Nat} {l : List Oper} {e : Env} {σ : Heap} {K : Env → Heap → Prop} {Q : Ex → Env → Heap → Prop}
variable {d : Nat} {t : TypeId} {p : String} {af : Array Edge} {x : Operand} {lo hi : Nat} {L : List Res}
theorem Ops.callY {S T : Type} {C : S → List Res → Prop} {pvT : T → List PV} {y : S → T → Option (S × Bool)} {id : Nat} {args : Array Operand} {ts : Array TypeId} {s s' : S} {z : T} {b : Bool} (O : List Res) (H : Has σ lo hi (O ++ L)) (hC : C s L) (hx : Z0 X e x = some (.yld id)) (ha : ZK X e args.toList = some (pvT z))
  (hy : YldH X id C pvT y) (hq : y s z = some (s', b)) (hdr : dr = false) (hd : Nat.blt d n = true)
  (hk : ∀ σ' L', C s' L' → Hs σ' (O ++ L') → Ops X n dr ops base (i + 1) l (set e d (.v (.bool b))) σ' K) :
  Ops X n dr ops base i (⟨some d, .call { callee := .value x, args := args, argTypes := ts }, t, p, af, none⟩ :: l) e σ K := by
 obtain ⟨σ', L', q1, q2, q3⟩ := hy _ _ _ _ hq σ lo hi O L hC H
 exact .plain (x := .v (.bool b)) (σ1 := σ') (by simp only [Z4, Za, ha, hx, q1]) (fun h => by rw [hdr] at h; cases h) hd (hk σ' L' q2 q3)
end
def RangeC (id : Nat) (fn : FuncId) (e : Env) (n : Nat) (ps : List Nat) (as_ bo : Code) {S : Type} (Co : S → List Res → Prop) (pd : Nat → Option Code) : S × Nat → List Res → Prop :=
 fun s L => ∃ M, Co s.1 M ∧ L = .loop id fn e n ps as_ bo (if s.2 = 0 then .ready else .done) (pd s.2) :: M
variable {n : Nat} {fn : FuncId} {e : Env} {σ : Heap} {Q : Ex → Env → Heap → Prop}
def BodyOK (X : Ctx) (n : Nat) (fn : FuncId) (e : Env) (ps : List Nat) (as_ bo : Code) {S T : Type} (Co : S → List Res → Prop) (pvT : T → List PV) (yb : S → T → Option (S × Nat)) (pd : Nat → Option Code) : Prop :=
 ∀ (R0 R1 : Res) s t s' p, yb s t = some (s', p) → ∀ σ M O, Co s M → Hs σ (R0 :: (M ++ O)) →
  Runs X n fn as_ (Z2C e n ps (pvT t)) σ fun x e1 σ1 => x = .normal ∧ ∃ M1, Hs σ1 (R0 :: (M1 ++ O)) ∧
   ∀ σ2, Hs σ2 (R1 :: (M1 ++ O)) → Runs X n fn bo e1 σ2 fun x e2 σ3 => (pdOf x = pd p ∧ (x = .normal ↔ p = 0)) ∧ ∃ M2, Co s' M2 ∧ Hs σ3 (R1 :: (M2 ++ O))
theorem rangeY_ok {S T : Type} {ps : List Nat} {as_ bo : Code} {Co : S → List Res → Prop} {pvT : T → List PV} {yb : S → T → Option (S × Nat)} {pd : Nat → Option Code} (hpd : pd 0 = none) (hlen : ∀ t, ps.length = (pvT t).length) (hpure : ∀ t, (pvT t).all PV.pure = true)
  (hbody : BodyOK X n fn e ps as_ bo Co pvT yb pd) (id : Nat) : YldH X id (RangeC id fn e n ps as_ bo Co pd) pvT (Z56 yb) := by
 rintro ⟨s, p⟩ t ⟨s', p'⟩ b hy σ lo hi O L ⟨M, hM, rfl⟩ H
 unfold Z56 at hy
 simp only at hy hM
 split at hy
 ·rename_i hp0;subst hp0;rw [Y1] at hy;obtain ⟨r, hr, he⟩ := hy
  simp only [Y3] at he;obtain ⟨rfl, rfl⟩ := he
  simp only [if_true, hpd] at H;have H1 : Hs σ (.loop id fn e n ps as_ bo .ready none :: (M ++ O)) := (H.perm (by rw [← Y0C]; exact List.perm_append_comm)).all
  obtain ⟨l1, x1, e1, σ1, r1, rfl, M1, H2, hb⟩ := (hbody (.loop id fn e n ps as_ bo .ready none) (.loop id fn e n ps as_ bo .busy none) s t s' p' hr σ M O hM H1).run
  have hent : σ1.ent id = .loop fn e n ps as_ bo .ready none := H2.holds 0 _ rfl
  have H3 : Hs (σ1.put id (.loop fn e n ps as_ bo .busy none)) (.loop id fn e n ps as_ bo .busy none :: (M1 ++ O)) := (H2.put (k := 0) rfl rfl (r' := .loop id fn e n ps as_ bo .busy none) Z0q rfl).all
  obtain ⟨l2, x2, e2, σ3, r2, ⟨hx, hx0⟩, M2, hM2, H4⟩ := (hb _ H3).run
  have hent0 : σ.ent id = .loop fn e n ps as_ bo .ready none := H1.holds 0 _ rfl
  have fin : ∀ (st : LoopState) (pc : Option Code), Hs (σ3.put id (.loop fn e n ps as_ bo st pc)) (O ++ (.loop id fn e n ps as_ bo st pc :: M2)) := fun st pc =>
   ((H4.put (k := 0) rfl rfl (r' := .loop id fn e n ps as_ bo st pc) Z0q rfl).perm (by rw [List.set_cons_zero, ← Y0C]; exact List.perm_append_comm)).all
  have call : ∀ (st : LoopState) (pc : Option Code) (b : Bool), (match x2 with
    | .normal => some (PV.v (.bool true), σ3.put id (.loop fn e n ps as_ bo .ready none))
    | .exit t => some (PV.v (.bool false), σ3.put id (.loop fn e n ps as_ bo .done (some (.exit t))))
    | .ret => some (PV.v (.bool false), σ3.put id (.loop fn e n ps as_ bo .done (some .ret)))) = some (.v (.bool b), σ3.put id (.loop fn e n ps as_ bo st pc)) →
    Zu X (.yld id) (pvT t) σ = some (.v (.bool b), σ3.put id (.loop fn e n ps as_ bo st pc)) := by
   intro st pc b hm;refine Z1f (lf := max l1 l2) ?_
   simp only [Z3A, hent0, hlen t, if_true, Z1L (hpure t), Z1J (Y0X l1 l2) r1, hent, Z1J (Y0S l1 l2) r2];exact hm
  cases x2 with
  | normal =>
   have hp0 := hx0.1 rfl
   subst hp0;exact ⟨_, _, call .ready none true rfl, ⟨M2, hM2, by simp [hpd]⟩, fin .ready none⟩
  | exit t' =>
   have hp0 : p' ≠ 0 := fun h => by have := hx0.2 h; cases this
   have hbeq : (p' == 0) = false := by simpa using hp0
   rw [hbeq];exact ⟨_, _, call .done (some (.exit t')) false rfl, ⟨M2, hM2, by simp only [if_neg hp0, ← hx, pdOf]⟩, fin .done _⟩
  | ret =>
   have hp0 : p' ≠ 0 := fun h => by have := hx0.2 h; cases this
   have hbeq : (p' == 0) = false := by simpa using hp0
   rw [hbeq];exact ⟨_, _, call .done (some .ret) false rfl, ⟨M2, hM2, by simp only [if_neg hp0, ← hx, pdOf]⟩, fin .done _⟩
 ·cases hy
theorem Runs.rangeH {S T : Type} {g : Operand} {ps : Array Tmp} {as_ bo : Code} {f : FuncId} {first caps : List PV} {M0 : List Res} (H : Hs σ M0) (hg : Z0 X e g = some (.clo f first caps))
  (Co : S → List Res → Prop) (pvT : T → List PV) (yb : S → T → Option (S × Nat)) (pd : Nat → Option Code) (hpd : pd 0 = none) (hjd : ∀ p, ∃ x, Z3z (pd p) = some x) {s0 : S} {r : S × Nat} (h0 : Co s0 M0) (hlen : ∀ t, ps.toList.length = (pvT t).length) (hpure : ∀ t, (pvT t).all PV.pure = true)
  (hbody : BodyOK X n fn e ps.toList as_ bo Co pvT yb pd)
  (hit : ∀ id, YldH X id (RangeC id fn e n ps.toList as_ bo Co pd) pvT (Z56 yb) → ItF X f (first ++ [.yld id] ++ caps) (RangeC id fn e n ps.toList as_ bo Co pd) (s0, 0) r)
  (hq : ∀ x σ' M', Z3z (pd r.2) = some x → Co r.1 M' → Hs σ' M' → Q x e σ') : Runs X n fn (.rangeFunc g ps as_ bo) e σ Q := by
 obtain ⟨m, ent⟩ := σ
 let σ1 : Heap := ⟨m + 1, upd ent m (.loop fn e n ps.toList as_ bo .ready none)⟩
 have H1 : Hs σ1 (.loop m fn e n ps.toList as_ bo .ready none :: M0) := by
  have h1 : Has (⟨m + 1, ent⟩ : Heap) m (m + 1) M0 := H.enter 1
  exact (h1.push (b := m) (en := .loop fn e n ps.toList as_ bo .ready none) (YB _) (Nat.lt_succ_self _) (r' := .loop m fn e n ps.toList as_ bo .ready none) Z0q rfl).all
 obtain ⟨σ2, L', hc, ⟨M', hM', rfl⟩, H2⟩ := hit m (rangeY_ok hpd hlen hpure hbody m) σ1 _ ⟨M0, h0, by simp [hpd]⟩ H1
 have hent : σ2.ent m = .loop fn e n ps.toList as_ bo (if r.2 = 0 then .ready else .done) (pd r.2) := H2.holds 0 _ rfl
 have hnb : (if r.2 = 0 then LoopState.ready else LoopState.done) ≠ LoopState.busy := by split <;> simp
 have Hf : Hs (σ2.put m (.loop fn e n ps.toList as_ bo .exhausted (pd r.2))) M' := ((H2.put (k := 0) rfl rfl (r' := .loop m fn e n ps.toList as_ bo .exhausted (pd r.2)) Z0q rfl).erase 0).all
 obtain ⟨x, hx⟩ := hjd r.2
 refine ⟨0, x, e, _, ?_, hq x _ M' hx hM' Hf⟩
 simp only [Z7, hg]
 rw [show Zu X (.fn f) (first ++ [PV.yld m] ++ caps) ⟨m + 1, upd ent m (.loop fn e n ps.toList as_ bo .ready none)⟩ = some (.tup [], σ2) from hc]
 simp only [hent, if_neg hnb, hx]
theorem callO_of {f : FuncId} {args : List PV} {fu : Func} {c : Code} {m : Nat} {σ : Heap} {Post : PV → Heap → Prop} (hf : X.P.funcs[f]? = some fu) (hb : fu.body = some c) (hi : X.intr f args = none) (hk : X.keep f = false) (ho : X.opn f = true) (hp : args.all PV.pure = true) (hm : max fu.ntmps args.length = m)
  (h : Runs X m f c (Z40 args) σ fun x e σ' => (x = .normal ∨ x = .ret) ∧ ∃ xs, Zq X.P e σ' fu.results.toList = some xs ∧ Post (Z0w xs) σ') : ∃ r σ', Zu X (.fn f) args σ = some (r, σ') ∧ Post r σ' := by
 subst hm
 obtain ⟨lf, x, e', σ1, h1, hx, xs, h2, h3⟩ := h.run
 refine ⟨Z0w xs, σ1, Z1f (lf := lf) ?_, h3⟩
 have hbody : Z0m X (Zu X) lf f args σ = some (Z0w xs, σ1) := by
  simp only [Z0m, hf, hb, h1]
  rcases hx with rfl | rfl <;> simp only [h2, Y8]
 simp only [Z3A, hi, hk, YA, if_false, Z1L hp, ho, if_true, hbody]
theorem Ops.callO {n : Nat} {dr : Bool} {ops : Array Oper} {base i : Nat} {l : List Oper} {e : Env} {σ : Heap} {K : Env → Heap → Prop} {d : Nat} {t : TypeId} {p : String} {af : Array Edge}
  {f : FuncId} {args : Array Operand} {ts : Array TypeId} {ys : List PV} {Post : PV → Heap → Prop} (ha : ZK X e args.toList = some ys) (hf : ∃ r σ', Zu X (.fn f) ys σ = some (r, σ') ∧ Post r σ') (hdr : dr = true → Z1h (Region.before ops) ops i = true) (hd : Nat.blt d n = true)
  (hk : ∀ r σ', Post r σ' → Ops X n dr ops base (i + 1) l (set e d r) σ' K) :
  Ops X n dr ops base i (⟨some d, .call { callee := .value (.func f), args := args, argTypes := ts }, t, p, af, none⟩ :: l) e σ K := by
 obtain ⟨r, σ', q1, q2⟩ := hf
 exact .plain (x := r) (σ1 := σ') (by simp only [Z4, Za, ha, Z0, q1]) (fun h => Z3e (hdr h)) hd (hk r σ' q2)
end
end Go.Dn

namespace Go.Dn
open Go
theorem Has.pickT {σ : Heap} {lo hi : Nat} {T : List Res} (A : List Res) (ks : List Nat) (hn : ks.Nodup) (hk : ks.all (Nat.blt · A.length) = true) (H : Has σ lo hi (A ++ T)) : Has σ lo hi (Dn.pick A ks ++ T) := by
 have hk' : ∀ k ∈ ks, k < A.length := fun k h => by
  have := List.all_eq_true.1 hk k h
  exact Yl this
 have h := H.pick (ks ++ (List.range T.length).map (A.length + ·)) (by
  refine List.nodup_append.2 ⟨hn, ?_, ?_⟩
  ·exact List.Pairwise.map _ (fun a b hab => by omega) List.nodup_range
  ·intro a ha b hb;obtain ⟨j, _, rfl⟩ := List.mem_map.1 hb
   have := hk' a ha
   omega)
 have fc : ∀ (f g : Nat → Option Res) (l : List Nat), (∀ k ∈ l, f k = g k) → l.filterMap f = l.filterMap g := by
  intro f g l
  induction l with
  | nil => intro _; rfl
  | cons k l ih =>
   intro h;rw [List.filterMap_cons, List.filterMap_cons, h k YV, ih fun k hk => h k (YJ _ hk)]
 have fr : ∀ (T : List Res), List.filterMap (fun j => T[j]?) (List.range T.length) = T := by
  intro T
  induction T with
  | nil => rfl
  | cons r T ih =>
   rw [YH, List.range_succ_eq_map, List.filterMap_cons, List.filterMap_map];simp only [List.getElem?_cons_zero]
   congr 1
 have e : Dn.pick (A ++ T) (ks ++ (List.range T.length).map (A.length + ·)) = Dn.pick A ks ++ T := by
  unfold Dn.pick;rw [List.filterMap_append]
  congr 1
  ·exact fc _ _ _ fun k hm => YO (hk' k hm)
  ·rw [List.filterMap_map];refine Eq.trans (fc _ _ _ fun j _ => ?_) (fr T)
   simp [Function.comp, YY]
 rw [← e]; exact h
theorem Has.mem {σ : Heap} {lo hi : Nat} {L : List Res} (H : Has σ lo hi L) : ∀ r ∈ L, r.holds σ ∧ ∀ id, r.owner = some id → (id < lo ∨ hi ≤ id) ∧ id < σ.nx := fun r hr => by
 obtain ⟨k, hk⟩ := YC hr
 exact ⟨H.holds k r hk, H.lt k r hk⟩
abbrev Apart (r s : Res) : Prop := ∀ id, r.owner = some id → s.owner ≠ some id
theorem Has.pw {σ : Heap} {lo hi : Nat} {L : List Res} (H : Has σ lo hi L) : L.Pairwise Apart := by
 rw [Ys]
 intro i j hi' hj hij
 exact H.sep i j _ _ (by omega) (Y2 hi') (Y2 hj)
theorem Has.mk' {σ : Heap} {lo hi : Nat} {L : List Res} (hm : ∀ r ∈ L, r.holds σ ∧ ∀ id, r.owner = some id → (id < lo ∨ hi ≤ id) ∧ id < σ.nx) (hp : L.Pairwise Apart) (hle : hi ≤ σ.nx) : Has σ lo hi L := by
 refine ⟨fun k r hk => (hm r (Y7 hk)).1, fun k r hk => (hm r (Y7 hk)).2, fun i j r s hij h1 h2 => ?_, hle⟩
 obtain ⟨hi', rfl⟩ := List.getElem?_eq_some_iff.1 h1
 obtain ⟨hj', rfl⟩ := List.getElem?_eq_some_iff.1 h2
 rw [Ys] at hp
 rcases YD i j with h | h
 ·exact hp i j hi' hj' h
 ·intro id h3 h4;exact hp j i hj' hi' (by omega) id h4 h3
def holes (lo hi : Nat) : List Res := .floor hi :: (List.range (hi - lo)).map fun j => .hole (lo + j)
theorem mem_holes {lo hi : Nat} {r : Res} (h : r ∈ holes lo hi) : r = .floor hi ∨ ∃ id, r = .hole id ∧ lo ≤ id ∧ id < hi := by
 rcases List.mem_cons.1 h with h | h
 ·exact .inl h
 ·obtain ⟨j, hj, rfl⟩ := List.mem_map.1 h
  have := List.mem_range.1 hj
  exact .inr ⟨_, rfl, by omega, by omega⟩
theorem Has.holesIn {σ : Heap} {lo hi : Nat} {L : List Res} (H : Has σ lo hi L) : Hs σ (L ++ holes lo hi) := by
 refine Has.mk' (fun r hr => ?_) ?_ (YB _)
 ·rcases List.mem_append.1 hr with h | h
  ·exact ⟨(H.mem r h).1, fun id ho => ⟨.inl ((H.mem r h).2 id ho).2, ((H.mem r h).2 id ho).2⟩⟩
  ·rcases mem_holes h with rfl | ⟨id, rfl, h1, h2⟩
   ·exact ⟨H.le, fun id ho => by cases ho⟩
   ·refine ⟨trivial, fun id' ho => ?_⟩
    cases ho;have := H.le
    exact ⟨.inl (by omega), by omega⟩
 ·refine List.pairwise_append.2 ⟨H.pw, ?_, ?_⟩
  ·refine List.pairwise_cons.2 ⟨fun r _ id ho => (by cases ho), ?_⟩
   refine List.Pairwise.map _ ?_ List.nodup_range;intro a b hab id h1 h2;have h1 : lo + a = id := Option.some.inj h1
   have h2 : lo + b = id := Option.some.inj h2
   omega
  ·intro r hr s hs id h1 h2;have := ((H.mem r hr).2 id h1).1
   rcases mem_holes hs with rfl | ⟨id', rfl, h3, h4⟩
   ·cases h2
   ·cases h2; omega
theorem Has.holesOut {σ : Heap} {lo hi : Nat} {A L : List Res} (H : Hs σ (A ++ (L ++ holes lo hi))) : Has σ lo hi (A ++ L) := by
 rw [← Yz] at H
 have hp := List.pairwise_append.1 H.pw
 refine Has.mk' (fun r hr => ?_) hp.1 ?_
 ·have h1 := H.mem r (Yn _ hr)
  refine ⟨h1.1, fun id ho => ⟨?_, (h1.2 id ho).2⟩⟩
  rcases YD id lo with h | h
  ·exact .inl h
  ·rcases YD id hi with h' | h'
   ·exact absurd rfl (hp.2.2 r hr (.hole id) (YJ _ (List.mem_map.2 ⟨id - lo, List.mem_range.2 (by omega), by congr 1; omega⟩)) id ho)
   ·exact .inr h'
 ·exact (H.mem (.floor hi) (Yu _ YV)).1
section
variable {X : Ctx} {f : FuncId} {fu : Func} {c : Code} {m : Nat} {σ : Heap} {cv : PV} {ys args : List PV} {L : List Res} {PostA : PV → List Res → Prop}
def CallI (X : Ctx) (cv : PV) (ys : List PV) (σ : Heap) (T : List Res) (PostA : PV → List Res → Prop) : Prop := ∃ r σ' A, callV X cv ys σ = some (r, σ') ∧ PostA r A ∧ Hs σ' (A ++ T)
theorem callIO_of (hf : X.P.funcs[f]? = some fu) (hb : fu.body = some c) (hcv : ∀ σ, callV X cv ys σ = Zu X (.fn f) args σ) (hi : X.intr f args = none) (hk : X.keep f = false) (ho : X.opn f = true) (hp : args.all PV.pure = true) (hm : max fu.ntmps args.length = m) {T : List Res}
  (h : Runs X m f c (Z40 args) σ fun x e σ' => (x = .normal ∨ x = .ret) ∧ ∃ xs, Zq X.P e σ' fu.results.toList = some xs ∧ ∃ A, PostA (Z0w xs) A ∧ Hs σ' (A ++ T)) : CallI X cv ys σ T PostA := by
 obtain ⟨r, σ', h1, A, h2, h3⟩ := callO_of (Post := fun r σ' => ∃ A, PostA r A ∧ Hs σ' (A ++ T)) hf hb hi hk ho hp hm h
 exact ⟨r, σ', A, by rw [hcv]; exact h1, h2, h3⟩
end
section
variable {X : Ctx} {n : Nat} {dr : Bool} {fn : FuncId} {ops : Array Oper} {base i : Nat} {l : List Oper} {e : Env} {σ : Heap} {K : Env → Heap → Prop}
variable {d : Nat} {t t1 : TypeId} {p : String} {af : Array Edge} {x : Operand} {lo hi : Nat} {L : List Res}
theorem callV_step {cv : PV} {args : List PV} {r : PV} {σ' : Heap} {c : Call} {id0 : Nat} (hc : c.callee = .value x) (hx : Z0 X e x = some cv) (ha : ZK X e c.args.toList = some args) (h : Dn.callV X cv args σ = some (r, σ')) : Za X (Zu X) e σ id0 c = some (r, σ') := by
 simp only [Za, ha, hc, hx]
 unfold Dn.callV at h
 split at h
 ·exact h
 ·exact h
 ·cases h
theorem Sub.more {C L M : List Res} (h : Sub C L) : Sub C (L ++ M) := by
 induction h with
 | nil => exact .nil
 | cons k h t ih =>
  refine .cons k ?_ ih;rw [YO (List.getElem?_eq_some_iff.1 h).1, h]
theorem callI_back {cv : PV} {ys : List PV} {PostA : PV → List Res → Prop} (A : List Res) (H : Has σ lo hi (A ++ L)) (hf : ∀ T, (∀ C, Sub C L → Sub C T) → Hs σ (A ++ T) → CallI X cv ys σ T PostA) :
  ∃ r σ' A', Dn.callV X cv ys σ = some (r, σ') ∧ PostA r A' ∧ Has σ' lo hi (A' ++ L) := by
 have hsub : ∀ C, Sub C L → Sub C (L ++ holes lo hi) := fun C h => h.more
 have H1 := H.holesIn
 rw [Yz] at H1
 obtain ⟨r, σ', A', h1, h2, h3⟩ := hf (L ++ holes lo hi) hsub H1
 exact ⟨r, σ', A', h1, h2, h3.holesOut⟩
theorem Ops.callI {cv : PV} {args : Array Operand} {ts : Array TypeId} {ys : List PV} {PostA : PV → List Res → Prop} (A : List Res) (H : Has σ lo hi (A ++ L)) (hx : Z0 X e x = some cv) (ha : ZK X e args.toList = some ys) (hf : ∀ T, (∀ C, Sub C L → Sub C T) → Hs σ (A ++ T) → CallI X cv ys σ T PostA) (hdr : dr = true → Z1h (Region.before ops) ops i = true) (hd : Nat.blt d n = true)
  (hk : ∀ r A' σ', PostA r A' → Has σ' lo hi (A' ++ L) → Ops X n dr ops base (i + 1) l (set e d r) σ' K) :
  Ops X n dr ops base i (⟨some d, .call { callee := .value x, args := args, argTypes := ts }, t, p, af, none⟩ :: l) e σ K := by
 obtain ⟨r, σ', A', q1, q2, q3⟩ := callI_back A H hf
 exact .plain (x := r) (σ1 := σ') (by simp only [Z4]; exact callV_step rfl hx ha q1) (fun h => Z3e (hdr h)) hd (hk r A' σ' q2 q3)
def FnO (X : Ctx) (f : FuncId) (args : List PV) (PostA : PV → List Res → Prop) : Prop := ∀ σ T, Hs σ T → CallI X (.v (.fn f)) args σ T PostA
theorem FnO.of {f : FuncId} {fu : Func} {c : Code} {m : Nat} {args : List PV} {PostA : PV → List Res → Prop} (hf : X.P.funcs[f]? = some fu) (hb : fu.body = some c) (hi : X.intr f args = none) (hk : X.keep f = false) (ho : X.opn f = true) (hp : args.all PV.pure = true) (hm : max fu.ntmps args.length = m)
  (h : ∀ σ T, Hs σ T → Runs X m f c (Z40 args) σ fun x e σ' => (x = .normal ∨ x = .ret) ∧ ∃ xs, Zq X.P e σ' fu.results.toList = some xs ∧ ∃ A, PostA (Z0w xs) A ∧ Hs σ' (A ++ T)) : FnO X f args PostA :=
 fun σ T H => callIO_of hf hb (fun _ => rfl) hi hk ho hp hm (h σ T H)
theorem Ops.Z4w {f : FuncId} {args : Array Operand} {ts : Array TypeId} {ys : List PV} {PostA : PV → List Res → Prop} (H : Has σ lo hi L) (ha : ZK X e args.toList = some ys) (hf : FnO X f ys PostA) (hdr : dr = true → Z1h (Region.before ops) ops i = true) (hd : Nat.blt d n = true)
  (hk : ∀ r A' σ', PostA r A' → Has σ' lo hi (A' ++ L) → Ops X n dr ops base (i + 1) l (set e d r) σ' K) :
  Ops X n dr ops base i (⟨some d, .call { callee := .value (.func f), args := args, argTypes := ts }, t, p, af, none⟩ :: l) e σ K :=
 Ops.callI [] H rfl ha (fun T _ H => hf σ T H) hdr hd hk
inductive ExpP : List Res → List (Nat × PV) → List (Nat × PV) → List Res → Prop
 | nil {L : List Res} : ExpP L [] [] L
 | keep {L L' : List Res} {j : Nat} {x : PV} {ps qs : List (Nat × PV)} (h : Z42 x = false) (t : ExpP L ps qs L') : ExpP L ((j, x) :: ps) ((j, x) :: qs) L'
 | exp {L L1 L2 : List Res} {j : Nat} {x y : PV} {ps qs : List (Nat × PV)} (h : ExpV L x y L1) (t : ExpP L1 ps qs L2) : ExpP L ((j, x) :: ps) ((j, y) :: qs) L2
theorem Z78 {x : PV} {y : FV} {L' : List Res} (H : Has σ lo hi L) (h : ExpC L x y L') (hr : isRef x = false) : x = .v y ∧ L' = L := by
 cases h with
 | v y => exact ⟨rfl, rfl⟩
 | n => cases hr
 | ro h =>
  rcases h with ⟨rfl, rfl⟩ | rfl
  ·cases hr
  ·exact ⟨rfl, rfl⟩
 | s k h =>
  rcases (H.sl h).2 with ⟨rfl, _⟩ | ⟨id, rfl, _⟩ <;> cases hr
theorem Z6V : ∀ {xs : List PV} {ys : List FV} {L L' : List Res}, Has σ lo hi L → ExpCs L xs ys L' → xs.any isRef = false → xs = vs ys ∧ L' = L
 | [], ys, L, L', H, h, _ => by cases h; exact ⟨rfl, rfl⟩
 | x :: xs, ys, L, L', H, h, hr => by
  simp only [List.any_cons, Bool.or_eq_false_iff] at hr;cases h with
  | cons h t =>
   obtain ⟨rfl, rfl⟩ := Z78 H h hr.1
   obtain ⟨rfl, rfl⟩ := Z6V H t hr.2
   exact ⟨rfl, rfl⟩
theorem expV_noref {x y : PV} {L' : List Res} (H : Has σ lo hi L) (h : ExpV L x y L') (hr : Z42 x = false) : y = x ∧ L' = L := by
 cases h with
 | c h =>
  have : isRef x = false := by cases x <;> first | rfl | exact hr
  obtain ⟨rfl, rfl⟩ := Z78 H h this
  exact ⟨rfl, rfl⟩
 | a h =>
  obtain ⟨rfl, rfl⟩ := Z6V H h hr
  exact ⟨rfl, rfl⟩
 | p h => exact ⟨rfl, rfl⟩
theorem fvsOf_vs (l : List FV) : fvsOf (vs l) = some l := by
 induction l with
 | nil => rfl
 | cons x l ih => show (fvsOf (vs l)).map (x :: ·) = _; rw [ih]; rfl
theorem frzC_ok {x : PV} {y : FV} {L' : List Res} (H : Has σ lo hi L) (h : ExpC L x y L') : ∃ σ', Z1w σ x = some (.v y, σ') ∧ Has σ' lo hi L' ∧ σ'.nx = σ.nx := by
 cases h with
 | v y => exact ⟨σ, rfl, H, rfl⟩
 | n => exact ⟨σ, rfl, H, rfl⟩
 | ro h => rcases h with ⟨rfl, rfl⟩ | rfl <;> exact ⟨σ, rfl, H, rfl⟩
 | @s _ et sz xs lv k h =>
  obtain ⟨hs, hv⟩ := H.sl h
  rcases hv with ⟨rfl, rfl⟩ | ⟨id, rfl, hb⟩
  ·exact ⟨σ, rfl, H.say h ⟨by simp, .inl ⟨rfl, rfl⟩⟩ rfl, rfl⟩
  ·refine ⟨σ.put id (.blk et (vs xs.flatten) false), ?_, H.put h rfl (r' := .sl (.buf id xs.length sz) et sz xs false) ⟨hs, .inr ⟨id, rfl, Z0q⟩⟩ rfl, rfl⟩
   simp only [Z1w, hb];rw [if_pos (by rw [Z05, Zy hs]), fvsOf_vs, Y8, Z3o hs]
theorem frzCs_ok : ∀ {xs : List PV} {σ : Heap} {L L' : List Res} {ys : List FV}, Has σ lo hi L → ExpCs L xs ys L' → ∃ σ', Z1E σ xs = some (vs ys, σ') ∧ Has σ' lo hi L' ∧ σ'.nx = σ.nx
 | [], σ, L, L', ys, H, h => by cases h; exact ⟨σ, rfl, H, rfl⟩
 | x :: xs, σ, L, L', ys, H, h => by
  cases h with
  | cons h t =>
   obtain ⟨σ1, q1, q2, q3⟩ := frzC_ok H h
   obtain ⟨σ2, p1, p2, p3⟩ := frzCs_ok q2 t
   exact ⟨σ2, by simp only [Z1E, q1, Y0, p1]; rfl, p2, p3.trans q3⟩
theorem frzV_ok {x y : PV} {L' : List Res} (H : Has σ lo hi L) (h : ExpV L x y L') (hn : Z42 x = true) : ∃ σ', Z1S σ x = some (y, σ') ∧ Has σ' lo hi L' ∧ σ'.nx = σ.nx := by
 cases h with
 | c h =>
  obtain ⟨σ', q1, q2, q3⟩ := frzC_ok H h
  refine ⟨σ', ?_, q2, q3⟩;cases h with
  | v y => cases hn
  | n => simp only [Z1S, q1]
  | ro h =>
   rcases h with ⟨rfl, rfl⟩ | rfl
   ·simp only [Z1S, q1]
   ·cases hn
  | s k h =>
   obtain ⟨_, ⟨rfl, rfl⟩ | ⟨id, rfl, hb⟩⟩ := H.sl h
   ·simp only [Z1S, q1]
   ·simp only [Z1S, q1]
 | a h =>
  obtain ⟨σ', q1, q2, q3⟩ := frzCs_ok H h
  exact ⟨σ', by simp only [Z1S, q1, Y0], q2, q3⟩
 | p h =>
  exfalso
  cases x <;> simp [PV.pure] at h <;> simp [Z42] at hn
  obtain ⟨z, hz, hz2⟩ := hn
  have := h z hz
  cases z <;> simp [PV.isV] at this
  simp [isRef] at hz2
theorem expP_ok : ∀ {ps qs : List (Nat × PV)} {σ : Heap} {L L' : List Res}, Has σ lo hi L → ExpP L ps qs L' → ∃ σ', Z01 σ ps = some (qs, σ') ∧ Has σ' lo hi L' ∧ σ'.nx = σ.nx
 | [], qs, σ, L, L', H, h => by cases h; exact ⟨σ, rfl, H, rfl⟩
 | p :: ps, qs, σ, L, L', H, h => by
  cases h with
  | keep h t =>
   obtain ⟨σ1, q1, q2, q3⟩ := expP_ok H t
   exact ⟨σ1, by simp only [Z01, h, YA, if_false, q1, Y0], q2, q3⟩
  | @exp _ L1 _ j x y ps qs h t =>
   by_cases hr : Z42 x = true
   ·obtain ⟨σ1, q1, q2, q3⟩ := frzV_ok H h hr
    obtain ⟨σ2, p1, p2, p3⟩ := expP_ok q2 t
    exact ⟨σ2, by simp only [Z01, hr, if_true, q1, Y0, p1], p2, p3.trans q3⟩
   ·have hr : Z42 x = false := by simpa using hr
    obtain ⟨rfl, rfl⟩ := expV_noref H h hr
    obtain ⟨σ2, p1, p2, p3⟩ := expP_ok H t
    exact ⟨σ2, by simp only [Z01, hr, YA, if_false, Y0, p1], p2, p3⟩
def FrzOK (ops : Array Oper) (base i : Nat) (pp : List (Nat × PV)) : Prop :=
 Z1h (Region.before ops) ops i = true ∨ ∃ ms : List Nat, (pp.flatMap fun p => Z3p p.2) = ms.map (base + ·) ∧
  (ms.all fun m => Nat.blt m ops.size && ((Region.before ops).getD i 0).testBit m && (List.range ops.size).all fun j => !(unord (Region.before ops) i j && ((Region.before ops).getD j 0).testBit m)) = true
theorem ask_frz {parts : Array (Nat × Operand)} {len : Nat} {pp : List (Nat × PV)} (hp : Z1x X e parts.toList = some pp) (h : FrzOK ops base i pp) : ZZ X ops base i ⟨some d, .buildSlice t1 len parts, t, p, af, none⟩ e = true := by
 rcases h with h | ⟨ms, h1, h2⟩
 ·exact Z3e h
 ·refine ask0 ?_;have hf : frozen X e (.buildSlice t1 len parts) = ms.map (base + ·) := by simp only [frozen, hp, h1]
  simp only [ZU, Zd, hf];refine List.all_eq_true.2 fun k hk => ?_
  obtain ⟨m, hm, rfl⟩ := List.mem_map.1 hk
  have := List.all_eq_true.1 h2 m hm
  simp only [Y9] at this;simp only [Ye, Y9, decide_eq_true_eq];exact ⟨⟨⟨Y0R _ _, by have := Z65 this.1.1; omega⟩, this.1.2⟩, this.2⟩
theorem Ops.buildSF {parts : Array (Nat × Operand)} {len sz : Nat} {el : TypeId} {zs : List PV} {pp qq : List (Nat × PV)} {L' : List Res} (xs : List (List FV)) (H : Has σ lo hi L) (hlo : lo ≤ base + i) (hhi : base + i < hi)
  (ht : tslice X.P t1 = some el) (hp : Z1x X e parts.toList = some pp) (hE : ExpP L pp qq L') (hs : tsize X.P el = some sz) (hz : tzero X.P el = some zs) (hc : (zs.length == sz && sz != 0 && Nat.ble (len * sz) 1000000) = true)
  (hf : Z41 (fun i => some (i * sz, sz)) (List.replicate len zs).flatten qq = some (vs xs.flatten)) (hl : xs.length = len) (hx : xs.all (fun y => y.length == sz) = true) (hd : Nat.blt d n = true) (hdr : dr = true → FrzOK ops base i pp)
  (hk : ∀ σ', Has σ' (base + i + 1) hi (.sl (.buf (base + i) len sz) el sz xs true :: L') → Ops X n dr ops base (i + 1) l (set e d (.buf (base + i) len sz)) σ' K) (hlit : X.lit = false := by rfl) :
  Ops X n dr ops base i (⟨some d, .buildSlice t1 len parts, t, p, af, none⟩ :: l) e σ K := by
 simp only [Y9, beq_iff_eq, bne_iff_ne, ne_eq, Nat.ble_eq] at hc
 obtain ⟨σ1, q1, H1, q3⟩ := expP_ok H hE
 have hl0 : (X.lit && len != 0) = false := by rw [hlit]; rfl
 refine .plain (x := .buf (base + i) len sz) (σ1 := σ1.put (base + i) (.blk el (vs xs.flatten) true)) ?_ (fun h => ask_frz hp (hdr h)) hd (hk _ (H1.push hlo hhi (r' := .sl (.buf (base + i) len sz) el sz xs true) ?_ rfl))
 ·simp only [Z4, Z0R, hp, Y0, q1, Z11, ht, hs, hz];rw [if_pos ⟨hc.1.1, hc.1.2, hc.2⟩, hf]; simp only [litR, hl0]; rfl
 ·exact ⟨fun y hy => by have := List.all_eq_true.1 hx y hy; simpa using this, .inr ⟨base + i, by rw [hl], Z0q⟩⟩
end
end Go.Dn

namespace Go.Dn
open Go
section
variable {X : Ctx} {n : Nat} {fn : FuncId} {ops : Array Oper} {base i : Nat} {l : List Oper} {e : Env} {σ : Heap} {K : Env → Heap → Prop}
variable {d : Nat} {t t1 : TypeId} {p : String} {af : Array Edge} {x y z : Operand} {lo hi k : Nat} {L : List Res}
end
theorem Ops.nila {X : Ctx} {n : Nat} {dr : Bool} {ops : Array Oper} {base i : Nat} {e : Env} {σ : Heap} {K : Env → Heap → Prop} {lo hi : Nat} {L : List Res} (H : Has σ lo hi L) (h : Hs σ L → K e σ) : Ops X n dr ops base i [] e σ K := .nil (h H.all)
section
variable {X : Ctx} {n : Nat} {dr : Bool} {ops : Array Oper} {base i : Nat} {l : List Oper} {e : Env} {σ : Heap} {K : Env → Heap → Prop}
variable {d : Nat} {t t1 : TypeId} {p : String} {af : Array Edge} {x y z : Operand} {lo hi k : Nat} {L : List Res}
theorem buf_exp {α : Type} {c : α → List FV} {xs : List α} {el : TypeId} {id m sz : Nat} {lv : Bool} (H : Has σ lo hi L) (hk : L[k]? = some (.sl (.buf id m sz) el sz (xs.map c) lv)) :
  ∃ σ', ZY 6 σ (.buf id m sz) = some (.sl (xs.map c), σ') ∧ Has σ' lo hi (L.set k (.sl (.buf id m sz) el sz (xs.map c) false)) := by
 obtain ⟨σ', a, b, _⟩ := expC_ok H (.s k hk)
 exact ⟨σ', a, b⟩
theorem Ops.sliceS {α : Type} {c : α → List FV} {xs r : List α} {el : TypeId} {m id m0 : Nat} {k1 : IntKind} {j0 : Int} {lv : Bool} (h : cut? xs 0 j0 = some r) (H : Has σ lo hi L) (k : Nat) (hk : L[k]? = some (.sl (.buf id m0 m) el m (xs.map c) lv)) (hx : Z0 X e x = some (.buf id m0 m)) (hl : Z0 X e y = some (.v (.int k1 j0))) (ht : tslice X.P t1 = some el) (hs : tsize X.P el = some m) (hm : ∀ u, (c u).length = m) (hdr : dr = true → Z1h (Region.before ops) ops i = true) (hd : Nat.blt d n = true)
  (hk' : ∀ σ', Has σ' lo hi (L.set k (.sl (.buf id m0 m) el m (xs.map c) false)) → Ops X n dr ops base (i + 1) l (set e d (.v (.sl (r.map c)))) σ' K) : Ops X n dr ops base i (⟨some d, .slice t1 x none (some y) none, t, p, af, none⟩ :: l) e σ K := by
 obtain ⟨σ', q1, q2⟩ := buf_exp H hk
 refine .plain (x := .v (.sl (r.map c))) (σ1 := σ') ?_ (fun h => Z3e (hdr h)) hd (hk' σ' q2)
 have h' := cut?_some h
 simp only [Z4, hx, hl, optD, Y8, q1, Y0, sliceP_ok h ht hs hm (lo := none) (hi := some (.v (.int k1 j0))) rfl (asNat_int (by omega))]
end
end Go.Dn

namespace Go.Dn
open Go
def Res.solid : Res → Bool
 | .hole _ => false
 | _ => true
def star (σ : Heap) : Res → Res
 | .hole id => .fix id (σ.ent id)
 | r => r
theorem Z7B {σ : Heap} {r : Res} : (star σ r).owner = r.owner := by cases r <;> rfl
theorem star_holds {σ : Heap} {r : Res} (h : r.holds σ) : (star σ r).holds σ := by cases r <;> first | exact h | exact rfl
theorem solid_star {σ : Heap} {r : Res} (h : r.solid = true) : star σ r = r := by cases r <;> first | rfl | cases h
section
variable {σ : Heap} {lo hi : Nat} {L C : List Res}
theorem Has.star (H : Has σ lo hi L) : Has σ σ.nx σ.nx (L.map (star σ)) := by
 refine ⟨fun k r h => ?_, fun k r h id ho => ?_, fun j k r s hjk h1 h2 id ho => ?_, YB _⟩
 ·rw [YF, Y1] at h;obtain ⟨q, hq, rfl⟩ := h
  exact star_holds (H.holds k q hq)
 ·rw [YF, Y1] at h;obtain ⟨q, hq, rfl⟩ := h
  rw [Z7B] at ho;have := (H.lt k q hq id ho).2
  exact ⟨.inl this, this⟩
 ·rw [YF, Y1] at h1 h2;obtain ⟨q, hq, rfl⟩ := h1
  obtain ⟨q', hq', rfl⟩ := h2
  rw [Z7B] at ho ⊢;exact H.sep j k q q' hjk hq hq' id ho
theorem Has.add (H : Has σ σ.nx σ.nx L) {id : Nat} (hl : id < σ.nx) (hn : ∀ r ∈ L, r.owner ≠ some id) : Has σ σ.nx σ.nx (.fix id (σ.ent id) :: L) := by
 refine ⟨fun j s h => ?_, fun j s h id' ho2 => ?_, fun i j s t hij h1 h2 id' hs => ?_, H.le⟩
 ·cases j with
  | zero => cases h; exact rfl
  | succ j => exact H.holds j s h
 ·cases j with
  | zero => cases h; cases ho2; exact ⟨.inl hl, hl⟩
  | succ j => exact H.lt j s h id' ho2
 ·cases i with
  | zero =>
   cases h1;cases hs;cases j with
   | zero => exact absurd rfl hij
   | succ j => exact hn t (Y7 h2)
  | succ i =>
   cases j with
   | zero =>
    cases h2;intro e;cases e;exact hn s (Y7 h1) hs
   | succ j => exact H.sep i j s t (fun e => hij (by rw [e])) h1 h2 id' hs
def fixL (σ : Heap) (L : List Res) : Nat → List Res
 | 0 => L.map (star σ)
 | k + 1 => if (fixL σ L k).any (fun r => r.owner == some k) then fixL σ L k else .fix k (σ.ent k) :: fixL σ L k
theorem Sub.star {C L : List Res} (h : Sub C L) : C.all Res.solid = true → Sub C (L.map (star σ)) := by
 induction h with
 | nil => intro _; exact .nil
 | cons k h t ih =>
  intro hs;simp only [Yi, Y9] at hs;exact .cons k (by rw [YF, h, Y8, solid_star hs.1]) (ih hs.2)
end
section
variable {X : Ctx} {n : Nat} {dr : Bool} {fn : FuncId} {ops : Array Oper} {base i : Nat} {l : List Oper} {e : Env} {σ : Heap} {K : Env → Heap → Prop}
variable {d : Nat} {t : TypeId} {p : String} {af : Array Edge} {x : Operand} {lo hi : Nat} {L C : List Res}
theorem Ops.stepS {o : Oper} {e1 : Env} {σ1 : Heap} (h : Z0G X (Zu X) n ops base i o e σ = some (e1, σ1)) (ha : dr = true → Z23 X (Zu X) ops base i o e σ) (hk : Ops X n dr ops base (i + 1) l e1 σ1 K) : Ops X n dr ops base i (o :: l) e σ K := by
 obtain ⟨e', σ', h1, h2⟩ := hk.run
 refine ⟨⟨e', σ', ?_, h2⟩⟩
 cases dr with
 | false =>
  simp only [YA, if_false] at h1 ⊢;simp only [Z0u, h, Y0, h1]
 | true =>
  simp only [if_true] at h1 ⊢;have : Z0B X (Zu X) n ops base i o e σ = some (e1, σ1) := by
   unfold Z0B
   split
   ·rw [if_pos (ha rfl)]; exact h
   ·exact h
  simp only [Z0Q, this, Y0, h1]
theorem Ops.plainS {op : Op} {v : PV} {σ1 : Heap} (h : Z4 X (Zu X) e σ (base + i) op = some (v, σ1)) (hkd : Zd op = .call) (hq : dr = true → Z2q ops i = true) (hs : ∀ k, k < base + ops.size → Alike (σ.ent k) (σ1.ent k)) (hd : Nat.blt d n = true) (hk : Ops X n dr ops base (i + 1) l (set e d v) σ1 K) : Ops X n dr ops base i (⟨some d, op, t, p, af, none⟩ :: l) e σ K := by
 refine .stepS (e1 := set e d v) (σ1 := σ1) ?_ (fun hdr => ⟨hkd, hq hdr, fun id r σ' hr => ?_⟩) hk
 ·simp only [Z0G, Zg, h, Y0, putD, if_pos (Z65 hd), set_eq]
 ·have h2 : Z4 X (Zu X) e σ id op = some (v, σ1) := by rw [Z46 (id' := base + i) hkd]; exact h
  rw [h2] at hr;cases hr;exact hs
end
inductive FzC (L : List Res) : PV → FV → Prop
 | v (y : FV) : FzC L (.v y) y
 | n : FzC L .nils (.sl [])
 | ro {v : PV} {xs : List (List FV)} (h : RO v xs) : FzC L v (.sl xs)
 | s {v : PV} {et : TypeId} {sz : Nat} {xs : List (List FV)} (k : Nat) (h : L[k]? = some (.sl v et sz xs false)) : FzC L v (.sl xs)
inductive FzCs (L : List Res) : List PV → List FV → Prop
 | nil : FzCs L [] []
 | cons {x : PV} {y : FV} {xs : List PV} {ys : List FV} (h : FzC L x y) (t : FzCs L xs ys) : FzCs L (x :: xs) (y :: ys)
inductive FzV (L : List Res) : PV → PV → Prop
 | c {x : PV} {y : FV} (h : FzC L x y) : FzV L x (.v y)
 | a {xs : List PV} {ys : List FV} (h : FzCs L xs ys) : FzV L (.agg xs) (.agg (vs ys))
 | p {x : PV} (h : x.pure = true) : FzV L x x
inductive FzVs (L : List Res) : List PV → List PV → Prop
 | nil : FzVs L [] []
 | cons {x y : PV} {xs ys : List PV} (h : FzV L x y) (t : FzVs L xs ys) : FzVs L (x :: xs) (y :: ys)
section
variable {σ : Heap} {lo hi : Nat} {L : List Res}
theorem put_same {id : Nat} {en : Ent} (h : σ.ent id = en) : σ.put id en = σ := by
 have : upd σ.ent id en = σ.ent := by
  funext k
  by_cases hk : k = id
  ·subst hk; rw [Z8, h]
  ·rw [ZG _ _ hk]
 simp only [Heap.put, this]
theorem fzC_ok {x : PV} {y : FV} (H : Has σ lo hi L) (h : FzC L x y) : ZY 6 σ x = some (y, σ) := by
 cases h with
 | v y => rfl
 | n => rfl
 | ro h => rcases h with ⟨rfl, rfl⟩ | rfl <;> rfl
 | @s _ et sz xs k h =>
  obtain ⟨hs, hv⟩ := H.sl h
  rcases hv with ⟨rfl, rfl⟩ | ⟨id, rfl, hb⟩
  ·rfl
  ·rw [Z5U hb (by rw [Z05, Zy hs]), put_same hb, Z6h (d := 4)]
   simp only [Y0, Z3o hs]
theorem fzCs_ok : ∀ {xs : List PV} {ys : List FV}, Has σ lo hi L → FzCs L xs ys → Z32 σ xs = some (ys, σ)
 | [], ys, H, h => by cases h; rfl
 | x :: xs, ys, H, h => by
  cases h with
  | cons h t =>
   have p1 := fzCs_ok H t
   unfold Z32 at p1 ⊢;simp only [Zl, fzC_ok H h, Y0, p1]
theorem fzV_ok {x y : PV} (H : Has σ lo hi L) (h : FzV L x y) : Z0s σ x = some (y, σ) ∧ y.pure = true := by
 cases h with
 | c h =>
  have q1 := fzC_ok H h
  refine ⟨?_, rfl⟩;cases h with
  | v y => simp only [Z0s, Z07, q1, Y0]
  | n => simp only [Z0s, Z07, q1, Y0]
  | ro h => rcases h with ⟨rfl, rfl⟩ | rfl <;> simp only [Z0s, Z07, q1, Y0]
  | s k h =>
   obtain ⟨_, ⟨rfl, rfl⟩ | ⟨id, rfl, hb⟩⟩ := H.sl h
   ·simp only [Z0s, Z07, q1, Y0]
   ·simp only [Z0s, Z07, q1, Y0]
 | a h => exact ⟨by simp only [Z0s, Z07, fzCs_ok H h, Y0], by simp [PV.pure, vs, PV.isV]⟩
 | p h => exact ⟨Z2z h, h⟩
theorem fzVs_ok : ∀ {xs ys : List PV}, Has σ lo hi L → FzVs L xs ys → Z06 σ xs = some (ys, σ) ∧ ys.all PV.pure = true
 | [], ys, H, h => by cases h; exact ⟨rfl, rfl⟩
 | x :: xs, ys, H, h => by
  cases h with
  | cons h t =>
   obtain ⟨q1, q2⟩ := fzV_ok H h
   obtain ⟨p1, p2⟩ := fzVs_ok H t
   exact ⟨by simp only [Z06, q1, Y0, p1], by simp [q2, p2]⟩
end
theorem Ops.callZS {X : Ctx} {n : Nat} {dr : Bool} {ops : Array Oper} {base i : Nat} {l : List Oper} {e : Env} {σ : Heap} {K : Env → Heap → Prop} {d : Nat} {t : TypeId} {p : String} {af : Array Edge} {lo hi : Nat} {L : List Res}
  {f : FuncId} {args : Array Operand} {ts : Array TypeId} {xs ys : List PV} {r : PV} (H : Has σ lo hi L) (ha : ZK X e args.toList = some xs) (hE : FzVs L xs ys) (hf : Fn X f ys r) (hi0 : X.intr f xs = none) (hi1 : X.intr f ys = none)
  (hq : dr = true → Z2q ops i = true) (hd : Nat.blt d n = true)
  (hk : Ops X n dr ops base (i + 1) l (set e d r) σ K) :
  Ops X n dr ops base i (⟨some d, .call { callee := .value (.func f), args := args, argTypes := ts }, t, p, af, none⟩ :: l) e σ K := by
 obtain ⟨q1, _⟩ := fzVs_ok H hE
 exact .plainS (v := r) (σ1 := σ) (by simp only [Z4, Za, ha, Z0, callL_exp hf hi0 hi1 q1]) rfl hq (fun _ _ => .inl rfl) hd hk
def PV.one : PV → Bool
 | .v _ => true
 | .fptr _ => true
 | .ptr _ _ _ => true
 | .clo _ _ _ => true
 | .yld _ => true
 | _ => false
theorem Z2i {x : PV} (h : x.one = true) : x.still = true := by cases x <;> first | rfl | cases h
end Go.Dn

namespace Go.Dn
open Go
def cF (n : Nat) : List FV := [.fn n]
def tailsOK (ops : Array Oper) : Nat → List Oper → Bool
 | _, [] => true
 | k, o :: l => (o.after.all fun e => !Region.binds .any e || decide (e.on < k)) && (l.all fun oj => oj.after.any (fun e => Region.binds .any e && e.on == k) || o.apart ops oj) && tailsOK ops (k + 1) l
section
variable {X : Ctx} {n : Nat} {dr : Bool} {ops : Array Oper} {base i : Nat} {l : List Oper} {e : Env} {σ : Heap} {K : Env → Heap → Prop}
variable {d : Nat} {t t1 : TypeId} {p : String} {af : Array Edge} {x y : Operand} {lo hi : Nat} {L : List Res}
end
end Go.Dn

namespace Go.Dn
open Go
theorem p2 {A B : Type} {a a' : A} {b b' : B} (h : (a, b) = (a', b')) : a = a' ∧ b = b' := by cases h; exact ⟨rfl, rfl⟩
theorem p3 {A B C : Type} {a a' : A} {b b' : B} {c c' : C} (h : (a, b, c) = (a', b', c')) : a = a' ∧ b = b' ∧ c = c' := by cases h; exact ⟨rfl, rfl, rfl⟩
theorem p4 {A B C D : Type} {a a' : A} {b b' : B} {c c' : C} {d d' : D} (h : (a, b, c, d) = (a', b', c', d')) : a = a' ∧ b = b' ∧ c = c' ∧ d = d' := by cases h; exact ⟨rfl, rfl, rfl, rfl⟩
theorem p5 {A B C D E : Type} {a a' : A} {b b' : B} {c c' : C} {d d' : D} {e e' : E} (h : (a, b, c, d, e) = (a', b', c', d', e')) : a = a' ∧ b = b' ∧ c = c' ∧ d = d' ∧ e = e' := by cases h; exact ⟨rfl, rfl, rfl, rfl, rfl⟩
def gOK (ops : Array Oper) (e : Env) : Option (Nat × Bool) → Bool
 | none => true
 | some (j, w) => match (ops[j]?).bind (·.dst) with
  | some d => match e d with
   | .v (.bool b) => b == w
   | _ => false
  | none => false
def skipN (ops : Array Oper) (n : Nat) : Nat → List Oper → Env → Option (List Oper × Env)
 | 0, l, e => some (l, e)
 | k + 1, [], e => none
 | k + 1, o :: l, e => match o.guard with
  | some (j, w) => match (ops[j]?).bind (·.dst) with
   | some g => match e g with
    | .v (.bool b) => bif b == w then none else match o.dst with
     | some d => bif Nat.blt d n then skipN ops n k l (set e d .undef) else none
     | none => skipN ops n k l e
    | .undef => match o.dst with
     | some d => bif Nat.blt d n then skipN ops n k l (set e d .undef) else none
     | none => skipN ops n k l e
    | _ => none
   | none => none
  | none => none
theorem EI {e : Env} : ∀ {L : List (Nat × PV)}, (L.map fun p => e p.1) = L.map (·.2) → ZA e L
 | [], _ => trivial
 | (k, v) :: L, h => by
  have h1 := List.cons.inj h
  exact ⟨h1.1, EI h1.2⟩
section
variable {X : Ctx} {n : Nat} {dr : Bool} {fn : FuncId} {ops : Array Oper} {base i : Nat} {l : List Oper} {e : Env} {σ : Heap} {K : Env → Heap → Prop} {Q : Ex → Env → Heap → Prop} {c a b : Code}
variable {d : Nat} {t t1 t2 : TypeId} {p : String} {af : Array Edge} {x y : Operand} {v : PV} {lo hi : Nat} {L : List Res} {g : Option (Nat × Bool)} {dst : Option Tmp} {op : Op}
theorem Ops.gd (hg : gOK ops e g = true) (hk : Ops X n dr ops base i (⟨dst, op, t, p, af, none⟩ :: l) e σ K) : Ops X n dr ops base i (⟨dst, op, t, p, af, g⟩ :: l) e σ K := by
 cases g with
 | none => exact hk
 | some q =>
  obtain ⟨j, w⟩ := q
  simp only [gOK] at hg
  split at hg
  ·rename_i d hd
   split at hg
   ·rename_i b hb;have : b = w := by simpa using hg
    subst this;exact .wanted hd hb hk
   ·cases hg
  ·cases hg
theorem Ops.ps {l' : List Oper} {e' : Env} : ∀ (k : Nat) {i : Nat} {l : List Oper} {e : Env}, skipN ops n k l e = some (l', e') → Ops X n dr ops base (i + k) l' e' σ K → Ops X n dr ops base i l e σ K
 | 0, i, l, e, h, hk => by cases h; exact hk
 | k + 1, i, [], e, h, hk => by cases h
 | k + 1, i, ⟨dst, op, t, p, af, none⟩ :: l, e, h, hk => by cases h
 | k + 1, i, ⟨dst, op, t, p, af, some (j, w)⟩ :: l, e, h, hk => by
  rw [show i + (k + 1) = i + 1 + k by omega] at hk
  simp only [skipN] at h
  split at h
  ·rename_i g hg
   split at h
   ·rename_i b hb;cases hw : b == w with
    | true => rw [hw] at h; cases h
    | false =>
     rw [hw] at h;have hb' : e g = .v (.bool (!w)) := by rw [hb]; cases b <;> cases w <;> first | rfl | cases hw
     simp only [cond_false] at h;cases dst with
     | some d =>
      cases hd : Nat.blt d n with
      | false => simp [hd] at h
      | true => simp only [hd, cond_true] at h; exact .pass hg hb' hd (Ops.ps k h hk)
     | none => exact .pass0 hg hb' (Ops.ps k h hk)
   ·rename_i hb;cases dst with
    | some d =>
     cases hd : Nat.blt d n with
     | false => simp [hd] at h
     | true => simp only [hd, cond_true] at h; exact .passU hg hb hd (Ops.ps k h hk)
    | none => exact .pass0U hg hb (Ops.ps k h hk)
   ·cases h
  ·cases h
theorem Ops.m1 (v : PV) (h1 : Z0 X e x = some v) (h : (Nat.blt d n, gOK ops e g) = (true, true)) (hk : Ops X n dr ops base (i + 1) l (set e d v) σ K) : Ops X n dr ops base i (⟨some d, .move x, t, p, af, g⟩ :: l) e σ K :=
 .gd (p2 h).2 (.move h1 (p2 h).1 hk)
theorem Ops.a1 (v : PV) (h1 : Z0 X e x = some v) (h : (Nat.blt d n, gOK ops e g) = (true, true)) (hk : Ops X n dr ops base (i + 1) l (set e d v) σ K) : Ops X n dr ops base i (⟨some d, .assign x, t, p, af, g⟩ :: l) e σ K :=
 .gd (p2 h).2 (.assign h1 (p2 h).1 hk)
theorem Ops.mV {u : FV} (h : (Z0 X e x, Nat.blt d n, gOK ops e g) = (some (.v u), true, true)) (hk : Ops X n dr ops base (i + 1) l (set e d (.v u)) σ K) : Ops X n dr ops base i (⟨some d, .move x, t, p, af, g⟩ :: l) e σ K := .gd (p3 h).2.2 (.move (p3 h).1 (p3 h).2.1 hk)
theorem Ops.mB {u q r : Nat} (h : (Z0 X e x, Nat.blt d n, gOK ops e g) = (some (.buf u q r), true, true)) (hk : Ops X n dr ops base (i + 1) l (set e d (.buf u q r)) σ K) : Ops X n dr ops base i (⟨some d, .move x, t, p, af, g⟩ :: l) e σ K := .gd (p3 h).2.2 (.move (p3 h).1 (p3 h).2.1 hk)
theorem Ops.aV {u : FV} (h : (Z0 X e x, Nat.blt d n, gOK ops e g) = (some (.v u), true, true)) (hk : Ops X n dr ops base (i + 1) l (set e d (.v u)) σ K) : Ops X n dr ops base i (⟨some d, .assign x, t, p, af, g⟩ :: l) e σ K := .gd (p3 h).2.2 (.assign (p3 h).1 (p3 h).2.1 hk)
theorem Ops.aB {u q r : Nat} (h : (Z0 X e x, Nat.blt d n, gOK ops e g) = (some (.buf u q r), true, true)) (hk : Ops X n dr ops base (i + 1) l (set e d (.buf u q r)) σ K) : Ops X n dr ops base i (⟨some d, .assign x, t, p, af, g⟩ :: l) e σ K := .gd (p3 h).2.2 (.assign (p3 h).1 (p3 h).2.1 hk)
theorem Ops.tV {b : Bool} (h : (Z0 X e x, Nat.blt d n, gOK ops e g) = (some (.v (.bool b)), true, true)) (hk : Ops X n dr ops base (i + 1) l (set e d (.v (.bool (!b)))) σ K) : Ops X n dr ops base i (⟨some d, .unOp .not t1 x, t, p, af, g⟩ :: l) e σ K := .gd (p3 h).2.2 (.not (p3 h).1 (p3 h).2.1 hk)
theorem Ops.iV {op : BinOp} {k : IntKind} {m m' : Int} {r : FV} (h : (Z0 X e x, Z0 X e y, Z4Q op k m m', Nat.blt d n, (op != .shl && op != .shr) && gOK ops e g) = (some (.v (.int k m)), some (.v (.int k m')), some r, true, true)) (hk : Ops X n dr ops base (i + 1) l (set e d (.v r)) σ K) :
  Ops X n dr ops base i (⟨some d, .binOp op t1 x y t2, t, p, af, g⟩ :: l) e σ K := by
 obtain ⟨h1, h2, h3, h4, h5⟩ := p5 h
 rw [Y9] at h5
 exact .gd h5.2 (.int h1 h2 h5.1 h3 h4 hk)
theorem Ops.xV {vs : List PV} {j : Nat} (h : (Z0 X e x, vs[j]?, Nat.blt d n, gOK ops e g) = (some (.tup vs), some v, true, true)) (hk : Ops X n dr ops base (i + 1) l (set e d v) σ K) : Ops X n dr ops base i (⟨some d, .extract x j, t, p, af, g⟩ :: l) e σ K := by
 obtain ⟨h1, h2, h3, h4⟩ := p4 h
 exact .gd h4 (.extract h1 h2 h3 hk)
theorem Ops.kT {c : Operand} {u : FV} (h : (Z0 X e c, Z0 X e x, Nat.blt d n, gOK ops e g) = (some (.v (.bool true)), some (.v u), true, true)) (hk : Ops X n dr ops base (i + 1) l (set e d (.v u)) σ K) : Ops X n dr ops base i (⟨some d, .pick c x y, t, p, af, g⟩ :: l) e σ K := by
 obtain ⟨h1, h2, h3, h4⟩ := p4 h
 exact .gd h4 (.pickT h1 h2 h3 hk)
theorem Ops.kF {c : Operand} {u : FV} (h : (Z0 X e c, Z0 X e y, Nat.blt d n, gOK ops e g) = (some (.v (.bool false)), some (.v u), true, true)) (hk : Ops X n dr ops base (i + 1) l (set e d (.v u)) σ K) : Ops X n dr ops base i (⟨some d, .pick c x y, t, p, af, g⟩ :: l) e σ K := by
 obtain ⟨h1, h2, h3, h4⟩ := p4 h
 exact .gd h4 (.pickF h1 h2 h3 hk)
theorem Ops.bV {parts : Array (Nat × Operand)} (cs : List PV) (h : (Z67 X e t1 parts.toList, Nat.blt d n, gOK ops e g) = (some (.agg cs), true, true)) (hk : Ops X n dr ops base (i + 1) l (set e d (.agg cs)) σ K) : Ops X n dr ops base i (⟨some d, .build t1 parts, t, p, af, g⟩ :: l) e σ K :=
 .gd (p3 h).2.2 (.buildA (p3 h).1 (p3 h).2.1 hk)
theorem Ops.cV {f : FuncId} {args : Array Operand} {ts : Array TypeId} {ys : List PV} {r : PV} (hf : Fn X f ys r) (h : (ZK X e args.toList, Nat.blt d n, gOK ops e g) = (some ys, true, true)) (hk : Ops X n dr ops base (i + 1) l (set e d r) σ K) :
  Ops X n dr ops base i (⟨some d, .call { callee := .value (.func f), args := args, argTypes := ts }, t, p, af, g⟩ :: l) e σ K := .gd (p3 h).2.2 (.call (p3 h).1 hf (p3 h).2.1 hk)
theorem Ops.nV {α : Type} {c : α → List FV} {xs : List α} {el : TypeId} (h : (Z0 X e x, tslice X.P t1, Nat.blt d n, gOK ops e g) = (some (.v (.sl (xs.map c))), some el, true, true))
  (hk' : Ops X n dr ops base (i + 1) l (set e d (.v (.int .i64 xs.length))) σ K) : Ops X n dr ops base i (⟨some d, .call { callee := .builtin .len, args := #[x], argTypes := #[t1] }, t, p, af, g⟩ :: l) e σ K := by
 obtain ⟨h1, h2, h3, h4⟩ := p4 h
 exact .gd h4 (.lenPt h1 h2 h3 hk')
theorem Ops.jV {α : Type} {c : α → List FV} {xs : List α} {iv : Int} {ik : IntKind} {u : α} {m : Nat} (hu : at? xs iv = some u) (h : (Z0 X e x, Z0 X e y, (tslice X.P t1).bind (tsize X.P), (c u).length, (tslice X.P t1).isSome && Nat.blt d n && gOK ops e g) = (some (.v (.sl (xs.map c))), some (.v (.int ik iv)), some m, m, true))
  (hk' : Ops X n dr ops base (i + 1) l (set e d (.fptr (c u))) σ K) : Ops X n dr ops base i (⟨some d, .indexAddr t1 x y, t, p, af, g⟩ :: l) e σ K := by
 obtain ⟨h1, h2, h3, h4, h5⟩ := p5 h
 simp only [Y9, Option.isSome_iff_exists] at h5
 obtain ⟨⟨⟨el, he⟩, h6⟩, h7⟩ := h5
 rw [he, Y0] at h3
 exact .gd h7 (.indexP h1 h2 hu he h3 h4 h6 hk')
theorem Ops.pV {u : FV} {cells : List FV} (h : (Z0 X e x, tagg X.P t1, cells[0]?, Nat.blt d n, gOK ops e g) = (some (.fptr cells), some false, some u, true, true))
  (hk' : Ops X n dr ops base (i + 1) l (set e d (.v u)) σ K) : Ops X n dr ops base i (⟨some d, .load t1 x, t, p, af, g⟩ :: l) e σ K := by
 obtain ⟨h1, h2, h3, h4, h5⟩ := p5 h
 exact .gd h5 (.loadP h1 h2 h3 h4 hk')
theorem Ops.qV {m : Nat} {cells : List FV} (cs : List FV) (h : (Z0 X e x, tsize X.P t1, cells.take m, (tagg X.P t1 == some true) && Nat.ble m cells.length && Nat.blt d n, gOK ops e g) = (some (.fptr cells), some m, cs, true, true))
  (hk' : Ops X n dr ops base (i + 1) l (set e d (.agg (vs cs))) σ K) : Ops X n dr ops base i (⟨some d, .load t1 x, t, p, af, g⟩ :: l) e σ K := by
 obtain ⟨h1, h2, h3, h4, h5⟩ := p5 h
 simp only [Y9, beq_iff_eq] at h4
 exact .gd h5 (.loadPA h1 h4.1.1 h2 h4.1.2 h3 h4.2 hk')
theorem Ops.fV {id ver off f fo : Nat} {ft : TypeId} {m : Nat} {te : TypeId} {cells : List PV} (H : Has σ lo hi L) (k : Nat) (h : (Z0 X e x, L[k]?, tfield X.P t1 f, tsize X.P ft, Nat.beq cells.length ver && Nat.blt d n && gOK ops e g) = (some (.ptr id ver off), some (.blk id te cells), some (fo, ft), some (m + 1), true))
  (hk' : Ops X n false ops base (i + 1) l (set e d (.ptr id ver (off + fo))) σ K) : Ops X n false ops base i (⟨some d, .fieldAddr t1 x f, t, p, af, g⟩ :: l) e σ K := by
 obtain ⟨h1, h2, h3, h4, h5⟩ := p5 h
 simp only [Y9] at h5
 exact .gd h5.2 (.ZN H k h2 (Yv h5.1.1) h1 h3 h4 nofun h5.1.2 hk')
theorem Ops.lV {id ver off : Nat} {te : TypeId} {cells : List PV} (H : Has σ lo hi L) (k : Nat) (h : (Z0 X e x, L[k]?, tagg X.P t1, cells[off]?, Nat.beq cells.length ver && Nat.blt d n && gOK ops e g) = (some (.ptr id ver off), some (.blk id te cells), some false, some v, true))
  (hk' : Ops X n false ops base (i + 1) l (set e d v) σ K) : Ops X n false ops base i (⟨some d, .load t1 x, t, p, af, g⟩ :: l) e σ K := by
 obtain ⟨h1, h2, h3, h4, h5⟩ := p5 h
 simp only [Y9] at h5
 exact .gd h5.2 (.loadH H k h2 (Yv h5.1.1) h1 h3 h4 nofun h5.1.2 hk')
theorem Ops.LV {id ver off m : Nat} {te : TypeId} {cells : List PV} (cs : List PV) (H : Has σ lo hi L) (k : Nat) (h : (Z0 X e x, L[k]?, tsize X.P t1, (cells.drop off).take m, (tagg X.P t1 == some true) && Nat.ble (off + m) cells.length && Nat.beq cells.length ver && Nat.blt d n && gOK ops e g) = (some (.ptr id ver off), some (.blk id te cells), some m, cs, true))
  (hk' : Ops X n false ops base (i + 1) l (set e d (.agg cs)) σ K) : Ops X n false ops base i (⟨some d, .load t1 x, t, p, af, g⟩ :: l) e σ K := by
 obtain ⟨h1, h2, h3, h4, h5⟩ := p5 h
 simp only [Y9, beq_iff_eq] at h5
 exact .gd h5.2 (.Z0v H k h2 (Yv h5.1.1.2) h1 h5.1.1.1.1 h3 h5.1.1.1.2 h4 nofun h5.1.2 hk')
theorem Ops.sV {id ver off : Nat} {te : TypeId} {cells ys : List PV} (cells' : List PV) (H : Has σ lo hi L) (k : Nat) (h : (Z0 X e x, L[k]?, (Z0 X e y).bind PV.cells, splice cells off ys, (tsize X.P t1 == some ys.length) && Nat.ble (off + ys.length) cells.length && Nat.beq cells.length ver && gOK ops e g) = (some (.ptr id ver off), some (.blk id te cells), some ys, cells', true))
  (hk' : ∀ σ', Has σ' lo hi (L.set k (.blk id te cells')) → Ops X n false ops base (i + 1) l e σ' K) : Ops X n false ops base i (⟨none, .store t1 x y, t, p, af, g⟩ :: l) e σ K := by
 obtain ⟨h1, h2, h3, h4, h5⟩ := p5 h
 simp only [Y9, beq_iff_eq] at h5
 rw [Y4] at h3
 obtain ⟨v, h6, h7⟩ := h3
 exact .gd h5.2 (.Z5F H k h2 (Yv h5.1.2) h1 h6 h7 h5.1.1.1 rfl h5.1.1.2 h4 nofun hk')
theorem Ops.md {L0 : List Res} (H : Has σ lo hi L0) (k : Nat) (E : List (Nat × PV)) (L : List Res) (hk : Nat.ble k l.length = true) (h1 : Ops X n dr ops base i (l.take k) e σ fun e σ => ZA e E ∧ Has σ (base + (i + k)) hi L) (h2 : ∀ e σ, Has σ (base + (i + k)) hi L → Ops X n dr ops base (i + k) (l.drop k) (sets e E) σ K) : Ops X n dr ops base i l e σ K :=
 .mid k hk h1 fun e σ ⟨he, H⟩ => by rw [he.eq]; exact h2 e σ H
theorem Runs.wh {α : Type} {c : Bool} {A B z : α} {t : Operand} (h : (bif c then A else B) = z) (ht : Z0 X e t = some (.v (.bool c))) (h1 : A = z → Runs X n fn a e σ Q) (h2 : B = z → Runs X n fn b e σ Q) : Runs X n fn (.cond t a b) e σ Q :=
 .whether ht (fun hc => h1 (cond_T hc h)) fun hc => h2 (cond_F hc h)
theorem Ops.sp {α : Type} {j gt : Nat} {w v : Bool} {A B z : α} (hb : (bif v then A else B) = z) (h : ((ops[j]?).bind (·.dst), e gt) = (some gt, .v (.bool v))) (ht : A = z → Ops X n dr ops base i (⟨dst, op, t, p, af, some (j, w)⟩ :: l) (set e gt (.v (.bool true))) σ K)
  (hf : B = z → Ops X n dr ops base i (⟨dst, op, t, p, af, some (j, w)⟩ :: l) (set e gt (.v (.bool false))) σ K) : Ops X n dr ops base i (⟨dst, op, t, p, af, some (j, w)⟩ :: l) e σ K :=
 .split (p2 h).1 (p2 h).2 (fun hc => ht (cond_T hc hb)) fun hc => hf (cond_F hc hb)
theorem Runs.lp {S R β : Type} {step : S → Option (S ⊕ R)} {s : S} {G : R → Option β} {z : β} (h : (Dn.loopO step s).bind G = some z) (E : S → List (Nat × PV)) (L : S → List Res) (ex : Ex) (E' : R → List (Nat × PV)) (L' : R → List Res) (h0 : ZA e (E s)) (H : Hs σ (L s))
  (hs : ∀ s e σ, Hs σ (L s) → ∀ z, step s = some z → Runs X n fn c (sets e (E s)) σ (LoopEnd (fun s e σ => ZA e (E s) ∧ Hs σ (L s)) (fun y x e σ => x = ex ∧ ZA e (E' y) ∧ Hs σ (L' y)) z))
  (hq : ∀ y e σ, Hs σ (L' y) → G y = some z → Q ex (sets e (E' y)) σ) : Runs X n fn (.loop c) e σ Q := by
 obtain ⟨y, h1, h2⟩ := bind_some h
 obtain ⟨k, h1⟩ := ZI.1 h1
 refine (Runs.loopO h1 (fun s e σ => ZA e (E s) ∧ Hs σ (L s)) (fun y x e σ => x = ex ∧ ZA e (E' y) ∧ Hs σ (L' y)) ⟨h0, H⟩ ?_).mono ?_
 ·rintro s e σ ⟨he, H⟩ z hz;rw [he.eq];exact hs s e σ H z hz
 ·rintro x e σ ⟨rfl, he, H⟩;rw [he.eq];exact hq y e σ H h2
theorem Runs.jn {A B : Type} {o : Option A} {G : A → Option B} {z : B} (h : o.bind G = some z) (ex : Ex) (E : A → List (Nat × PV)) (L : A → List Res)
  (h1 : ∀ y, o = some y → Runs X n fn c e σ fun x e σ => x = ex ∧ ZA e (E y) ∧ Hs σ (L y)) (h2 : ∀ y e σ, Hs σ (L y) → G y = some z → Q ex (sets e (E y)) σ) : Runs X n fn c e σ Q := by
 obtain ⟨y, h3, h4⟩ := bind_some h
 refine (h1 y h3).mono ?_
 rintro x e σ ⟨rfl, he, H⟩
 rw [he.eq]
 exact h2 y e σ H h4
theorem Runs.tR {id : Nat} {os : List Oper} (m : Nat) (hm : os.length = m) (H : Hs σ L) (h : ∀ base σ', Has σ' base (base + m) L → Ops X n false os.toArray base 0 os e σ' fun e σ => Runs X n fn b e σ Q) : Runs X n fn (.seq (.region id os.toArray false) b) e σ Q :=
 .then (.ZM m hm H h)
theorem bs {α β : Type} {x : Option α} {f : α → Option β} {b : β} (h : x.bind f = some b) : ∃ a, x = some a ∧ f a = some b := Option.bind_eq_some_iff.1 h
theorem Ends.eR {rs : List ResultVar} {xs : List PV} {r : PV} (h : (Zq X.P e σ rs, Z3W (Z0w xs), Z0w xs) = (some xs, true, r)) : Ends X rs r .ret e σ := .ret (p3 h).1 (p3 h).2.1 (p3 h).2.2
theorem Fn.go {f : FuncId} {args : List PV} {r : PV} {fu : Func} {c : Code} (hf : X.P.funcs[f]? = some fu) (h : (fu.body, X.intr f args, X.keep f, X.opn f, args.all PV.pure) = (some c, none, false, false, true))
  (hr : ∀ σ, Hs σ [] → Runs X (max fu.ntmps args.length) f c (Z40 args) σ (Ends X fu.results.toList r)) : Fn X f args r := by
 obtain ⟨h1, h2, h3, h4, h5⟩ := p5 h
 exact .ends hf h1 h2 h3 h4 h5 rfl (hr _ (Has.nil (YB _)))
end
end Go.Dn

namespace Go.Dn
open Go Go.Proofs
def Z4M (sz by_ : Nat) : List PV → Option PV
 | [.v (.sl xs)] => if (xs.all fun y => y.length == sz) = true ∧ xs.length * by_ ≤ room then some (.v (.sl xs)) else none
 | _ => none
noncomputable def CA : Ctx := { P := Try.prog, glob := fun _ => none, intr := fun f args => if f = 45 then Z4M 1 24 args else if f = 46 then Z4M 2 32 args else if f = 47 then Z4M 2 16 args else none, opn := fun f => f == 65, keep := fun f => false, lit := true }
noncomputable def C0 : Ctx := { P := Try.prog, glob := fun _ => none, intr := fun _ _ => none, opn := fun _ => false, keep := fun _ => false }
theorem prog_ok : ProgOK Try.prog := by
 refine ⟨fun f fn h => ?_, by kernel_rfl⟩
 have hall : Try.prog.funcs.all (fun fn => !(fn.name == "runtime.NumGoroutine")) = true := by kernel_rfl
 have := Array.all_eq_true_iff_forall_mem.1 hall fn (Array.mem_of_getElem? h)
 simpa using this
theorem c0_ok : CtxOK C0 := ⟨prog_ok, fun f args r h => by cases h⟩
theorem Z60 (f : FuncId) (fu : Func) (vs : Array Value) (w : World) (hf : Try.prog.funcs[f]? = some fu) (hb : fu.body.isSome = true) : (callFunc f vs).run Try.prog w = .ok (.enter f vs) w := by
 have hp : (program).run Try.prog w = .ok Try.prog w := rfl
 simp only [callFunc, Sem.run_bind, hp, Result.andThen_ok, hf, prog_ok.names f fu hf]
 cases hc : fu.body with
 | none => rw [hc] at hb; cases hb
 | some c => simp
set_option maxRecDepth 100000 in
theorem cloneT45 : CloneT Try.prog 22 31 1 24 [.nils] := ⟨rfl, rfl, rfl, rfl, rfl⟩
set_option maxRecDepth 100000 in
theorem cloneT46 : CloneT Try.prog 23 45 2 32 [.v (.int .i64 0), .nils] := ⟨rfl, rfl, rfl, rfl, rfl⟩
set_option maxRecDepth 100000 in
theorem cloneT47 : CloneT Try.prog 31 43 2 16 [.v (.int .i64 0), .v (.int .i64 0)] := ⟨rfl, rfl, rfl, rfl, rfl⟩
theorem pvrs_one' {s : St} {x : PV} {vs : Array Value} (h : PVRs s [x] vs) : ∃ v, vs = #[v] ∧ PVR s x v := by
 obtain ⟨hl, hx⟩ := h
 have : vs.size = 1 := hl.symm
 refine ⟨vs.getD 0 Go.undef, ?_, hx 0 x rfl⟩
 apply Array.ext
 ·simpa using this
 ·intro i h1 h2
  have : i = 0 := by simp at h2; omega
  subst this
  simp [Array.getD, h1]
theorem ca_ok : CtxOK CA := by
 refine ⟨prog_ok, fun f args r h s hi hG vs hv hp => ?_⟩
 simp only [CA] at h
 split at h
 ·rename_i hf
  subst hf
  refine ⟨Z60 45 _ _ _ Try.func45 rfl, ?_⟩
  unfold Z4M at h
  split at h
  ·split at h
   ·rename_i xs hx
    cases h
    obtain ⟨v, rfl, hv1⟩ := pvrs_one' hv
    exact Z4R (X := C0) (b := 4) c0_ok Try.func45 rfl rfl rfl (fun _ => rfl) cloneT45 hi hx.1 hx.2 hv1
   ·cases h
  ·cases h
 split at h
 ·rename_i hf
  subst hf
  refine ⟨Z60 46 _ _ _ Try.func46 rfl, ?_⟩
  unfold Z4M at h
  split at h
  ·split at h
   ·rename_i xs hx
    cases h
    obtain ⟨v, rfl, hv1⟩ := pvrs_one' hv
    exact Z4R (X := C0) (b := 4) c0_ok Try.func46 rfl rfl rfl (fun _ => rfl) cloneT46 hi hx.1 hx.2 hv1
   ·cases h
  ·cases h
 split at h
 ·rename_i hf
  subst hf
  refine ⟨Z60 47 _ _ _ Try.func47 rfl, ?_⟩
  unfold Z4M at h
  split at h
  ·split at h
   ·rename_i xs hx
    cases h
    obtain ⟨v, rfl, hv1⟩ := pvrs_one' hv
    exact Z4R (X := C0) (b := 4) c0_ok Try.func47 rfl rfl rfl (fun _ => rfl) cloneT47 hi hx.1 hx.2 hv1
   ·cases h
  ·cases h
 cases h
def awakeV : List PV → Option PV
 | [] => some (.v (.bool true))
 | _ => none
theorem awake26 (σ : Heap) : Z0H CA 60 (.fn 26) [] σ = some (.v (.bool true), σ) := by kernel_rfl
noncomputable def CX : Ctx := { P := Try.prog, glob := fun _ => none, intr := fun f args => if f = 26 then awakeV args else CA.intr f args, opn := fun f => f == 16 || f == 21 || f == 65, keep := fun f => false }
theorem cx_ok : CtxOK CX := by
 refine ⟨prog_ok, fun f args r h s hi hG vs hv hp => ?_⟩
 simp only [CX] at h
 split at h
 ·rename_i hf
  subst hf
  unfold awakeV at h
  split at h
  ·cases h
   exact callD_ok ca_ok 60 (.fn 26) [] _ _ s (awake26 s.σ) hi hG vs hv
  ·cases h
 exact ca_ok.intr f args r h s hi hG vs hv hp
theorem cx_intr47 (args : List PV) : CX.intr 47 args = Z4M 2 16 args := rfl
end Go.Dn

namespace Go.Dn
open Go
noncomputable section
structure Span where
 From : Int
 To : Int
 deriving DecidableEq
def Span.cs (x : Span) : List FV := [(.int .i64 x.From), (.int .i64 x.To)]
def Span.ok (x : Span) : Prop := okI .i64 x.From ∧ okI .i64 x.To
structure Granule where
 Index : Int
 Ticks : (List Span)
 deriving DecidableEq
def Granule.cs (x : Granule) : List FV := [(.int .i64 x.Index), (.sl (x.Ticks.map Span.cs))]
def Granule.ok (x : Granule) : Prop := okI .i64 x.Index ∧ okL 16 Span.ok x.Ticks
structure Form where
 Period : Int
 Count : Int
 Core : (List (List Span))
 Odd : (List Granule)
 deriving DecidableEq
def Form.cs (x : Form) : List FV := [(.int .i64 x.Period), (.int .i64 x.Count), (.sl (x.Core.map (cL Span.cs))), (.sl (x.Odd.map Granule.cs))]
def Form.ok (x : Form) : Prop := okI .i64 x.Period ∧ okI .i64 x.Count ∧ okL 24 (okL 16 Span.ok) x.Core ∧ okL 32 Granule.ok x.Odd
def Zv.s0 (f : Form) (s1 : Int × Int) : Option ((Int × Int) ⊕ (Int)) :=
 (bif (decide (s1.2 < (f.Core.length : Int))) then
  (at? f.Core s1.2).bind fun x1 =>
  some (.inl ((w64 (s1.1 + (x1.length : Int))), (w64 (s1.2 + 1))))
 else
  some (.inr s1.1))
def Zv.s1 (f : Form) (s2 : Int × Int) : Option ((Int × Int) ⊕ (Int)) :=
 (bif (decide (s2.2 < (f.Odd.length : Int))) then
  (at? f.Odd s2.2).bind fun x2 =>
  some (.inl ((w64 (s2.1 + (x2.Ticks.length : Int))), (w64 (s2.2 + 1))))
 else
  some (.inr s2.1))
def Zv (f : Form) : Option (Int) :=
 (loopO (Zv.s0 f) (0, 0)).bind fun (y1 : Int) =>
 (loopO (Zv.s1 f) (y1, 0)).bind fun (y2 : Int) =>
 some y2
def Z0Z (f : Form) : Option (Bool) :=
 (
  (bif ((decide ((f.Core.length : Int) ≤ 12)) && (decide ((f.Odd.length : Int) ≤ 8))) then
   (Zv f).bind fun x1 =>
   some (decide (x1 ≤ 60))
  else
   some false)).bind fun (y1 : Bool) =>
 some y1
def Zn (t : Int) : Bool :=
 ((decide (t ≥ (-1099511627776))) && (decide (t ≤ 1099511627776)))
def Zw.s0 (l : (List Span)) (s1 : Int) : Option ((Int) ⊕ (Jx (Unit) (Bool))) :=
 (bif (decide (s1 < (l.length : Int))) then
  (at? l s1).bind fun x1 =>
  (
   (bif (((!(Zn x1.From)) || (!(Zn x1.To))) || (decide (x1.From > x1.To))) then
    some true
   else
    (
     (bif (decide (s1 > 0)) then
      (at? l (w64 (s1 - 1))).bind fun x2 =>
      some (decide (x1.From < (w64 (x2.To + 2))))
     else
      some false)).bind fun (y3 : Bool) =>
    some y3)).bind fun (y2 : Bool) =>
  (bif y2 then
   some (.inr (.ret false))
  else
   some (.inl (w64 (s1 + 1))))
 else
  some (.inr (.go ())))
def Zw (l : (List Span)) : Option (Bool) :=
 (loopO (Zw.s0 l) 0).bind fun (y1 : Jx (Unit) (Bool)) =>
 y1.elim (fun r' =>
   some r') fun a2 =>
 some true
def Z0h (i : Int) : Bool :=
 ((decide (i ≥ (-1099511627776))) && (decide (i ≤ 1099511627776)))
def Zf.s0 (f : Form) (s1 : Int) : Option ((Int) ⊕ (Jx (Unit) (Bool))) :=
 (bif (decide (s1 < (f.Core.length : Int))) then
  (at? f.Core s1).bind fun x1 =>
  (Zw x1).bind fun x2 =>
  (bif (!x2) then
   some (.inr (.ret false))
  else
   some (.inl (w64 (s1 + 1))))
 else
  some (.inr (.go ())))
def Zf.s1 (f : Form) (s2 : Int) : Option ((Int) ⊕ (Jx (Unit) (Bool))) :=
 (bif (decide (s2 < (f.Odd.length : Int))) then
  (at? f.Odd s2).bind fun x3 =>
  (Zw x3.Ticks).bind fun x4 =>
  (
   (bif ((!x4) || (!(Z0h x3.Index))) then
    some true
   else
    (
     (bif (decide (s2 > 0)) then
      (at? f.Odd (w64 (s2 - 1))).bind fun x5 =>
      some (decide (x3.Index ≤ x5.Index))
     else
      some false)).bind fun (y4 : Bool) =>
    some y4)).bind fun (y3 : Bool) =>
  (bif y3 then
   some (.inr (.ret false))
  else
   some (.inl (w64 (s2 + 1))))
 else
  some (.inr (.go ())))
def Zf (f : Form) : Option (Bool) :=
 (bif ((((f.Count != (f.Core.length : Int)) || ((f.Count == 0) != (f.Period == 0))) || (decide (f.Period < 0))) || (decide (f.Period > 1099511627776))) then
  some false
 else
  (loopO (Zf.s0 f) 0).bind fun (y1 : Jx (Unit) (Bool)) =>
  y1.elim (fun r' =>
    some r') fun a2 =>
  (loopO (Zf.s1 f) 0).bind fun (y2 : Jx (Unit) (Bool)) =>
  y2.elim (fun r' =>
    some r') fun a4 =>
  some true)
def Z00.s0 (f : Form) (s2 : Int × (List (List Span))) : Option ((Int × (List (List Span))) ⊕ ((List (List Span)))) :=
 (bif (decide (s2.1 < (f.Core.length : Int))) then
  (
   (
    (at? f.Core s2.1).bind fun x1 =>
    (bif (decide ((x1.length : Int) > 0)) then
     (app? 24 s2.2 [x1]).bind fun x2 =>
     some x2
    else
     some s2.2)).bind fun (y3 : (List (List Span))) =>
   some y3).bind fun (y2 : (List (List Span))) =>
  some (.inl ((w64 (s2.1 + 1)), y2))
 else
  some (.inr s2.2))
def Z00.s1 (f : Form) (y1 : (List (List Span))) (s3 : Int) : Option ((Int) ⊕ (Jx (Unit) (Bool))) :=
 (bif (decide (s3 < (y1.length : Int))) then
  (
   (
    (at? y1 s3).bind fun x3 =>
    (nz? (y1.length : Int)).bind fun u1 =>
    (at? y1 ((w64 (s3 + 1)).tmod (y1.length : Int))).bind fun x4 =>
    (
     (bif ((w64 (s3 + 1)) == (y1.length : Int)) then
      some f.Period
     else
      some 0)).bind fun (y7 : Int) =>
    (at? x3 (w64 ((x3.length : Int) - 1))).bind fun x5 =>
    (at? x4 0).bind fun x6 =>
    (bif (decide (x5.To ≥ (w64 (x6.From + y7)))) then
     some (.ret false)
    else
     some (.go ()))).bind fun (y6 : Jx (Unit) (Bool)) =>
   y6.elim (fun r' =>
     some (.ret r')) fun a4 =>
   some (.go ())).bind fun (y5 : Jx (Unit) (Bool)) =>
  y5.elim (fun r' =>
    some (.inr (.ret r'))) fun a5 =>
  some (.inl (w64 (s3 + 1)))
 else
  some (.inr (.go ())))
def Z00 (f : Form) : Option (Bool) :=
 (loopO (Z00.s0 f) (0, [])).bind fun (y1 : (List (List Span))) =>
 (loopO (Z00.s1 f y1) 0).bind fun (y4 : Jx (Unit) (Bool)) =>
 y4.elim (fun r' =>
   some r') fun a6 =>
 some true
def Z2.s0 (x' : (List Granule)) (target : Int) (cmp : Granule → Int → Option Int) (s1 : Int × Int) : Option ((Int × Int) ⊕ (Int)) :=
 (bif (decide (s1.1 < s1.2)) then
  (
   (at? x' (w64 ((IntKind.u64.wrap (w64 (s1.1 + s1.2))).fdiv (2 ^ 1)))).bind fun x1 =>
   (cmp x1 target).bind fun x2 =>
   (bif (decide (x2 < 0)) then
    some ((w64 ((w64 ((IntKind.u64.wrap (w64 (s1.1 + s1.2))).fdiv (2 ^ 1))) + 1)), s1.2)
   else
    some (s1.1, (w64 ((IntKind.u64.wrap (w64 (s1.1 + s1.2))).fdiv (2 ^ 1)))))).bind fun (y2 : Int × Int) =>
  some (.inl (y2.1, y2.2))
 else
  some (.inr s1.1))
def Z2 (x' : (List Granule)) (target : Int) (cmp : Granule → Int → Option Int) : Option (Int × Bool) :=
 (loopO (Z2.s0 x' target cmp) (0, (x'.length : Int))).bind fun (y1 : Int) =>
 (
  (bif (decide (y1 < (x'.length : Int))) then
   (at? x' y1).bind fun x3 =>
   (cmp x3 target).bind fun x4 =>
   some (x4 == 0)
  else
   some false)).bind fun (y3 : Bool) =>
 some (y1, y3)
def Z1A (x' : Int) : Bool :=
 (x' != x')
def Z16 (x' : Int) (y : Int) : Int :=
 (bif (Z1A x') then
  (bif (Z1A y) then
   0
  else
   (-1))
 else
  (bif (Z1A y) then
   1
  else
   (bif (decide (x' < y)) then
    (-1)
   else
    (bif (decide (x' > y)) then
     1
    else
     0))))
def Z28 (g : Granule) (i : Int) : Int :=
 (Z16 g.Index i)
def Z3a (f : Form) (i : Int) : Option (Int × Bool) :=
 (Z2 f.Odd i (fun z0 z1 => some (Z28 z0 z1))).bind fun x1 =>
 some (x1.1, x1.2)
def Z1e (a : Int) (b : Int) : Option (Int × Int × Int) :=
 (bif (b == 0) then
  some (0, 0, 11)
 else
  (bif ((b == (-1)) && (a == (-9223372036854775808))) then
   some (0, 0, 10)
  else
   (nz? b).bind fun u1 =>
   (nz? b).bind fun u2 =>
   (
    (bif (((a.tmod b) != 0) && ((decide ((a.tmod b) < 0)) != (decide (b < 0)))) then
     some ((w64 ((w64 (a.tdiv b)) - 1)), (w64 ((a.tmod b) + b)))
    else
     some ((w64 (a.tdiv b)), (a.tmod b)))).bind fun (y1 : Int × Int) =>
   some (y1.1, y1.2, 0)))
def Z0K (a : Int) : Int :=
 (bif (decide (a < 0)) then
  (IntKind.u64.wrap (0 - (IntKind.u64.wrap a)))
 else
  (IntKind.u64.wrap a))
def Z02 (x' : Int) (y : Int) : Int × Int :=
 ((IntKind.u64.wrap ((IntKind.u64.wrap ((IntKind.u64.wrap ((x'.fdiv (2 ^ 32)) * (y.fdiv (2 ^ 32)))) + ((IntKind.u64.wrap ((IntKind.u64.wrap ((x'.fdiv (2 ^ 32)) * (iAnd .u64 y 4294967295))) + ((IntKind.u64.wrap ((iAnd .u64 x' 4294967295) * (iAnd .u64 y 4294967295))).fdiv (2 ^ 32)))).fdiv (2 ^ 32)))) + ((IntKind.u64.wrap ((iAnd .u64 (IntKind.u64.wrap ((IntKind.u64.wrap ((x'.fdiv (2 ^ 32)) * (iAnd .u64 y 4294967295))) + ((IntKind.u64.wrap ((iAnd .u64 x' 4294967295) * (iAnd .u64 y 4294967295))).fdiv (2 ^ 32)))) 4294967295) + (IntKind.u64.wrap ((iAnd .u64 x' 4294967295) * (y.fdiv (2 ^ 32)))))).fdiv (2 ^ 32)))), (IntKind.u64.wrap (x' * y)))
def Z1k (n : Int) (minus : Bool) : Int × Int :=
 (bif (minus && (decide (n ≤ 9223372036854775808))) then
  ((w64 (IntKind.u64.wrap (0 - n))), 0)
 else
  (bif ((!minus) && (decide (n ≤ 9223372036854775807))) then
   ((w64 n), 0)
  else
   (0, 10)))
def Z2K (a : Int) (b : Int) : Int × Int :=
 (bif (((Z02 (Z0K a) (Z0K b)).1) != 0) then
  (0, 10)
 else
  ((Z1k ((Z02 (Z0K a) (Z0K b)).2) ((decide (a < 0)) != (decide (b < 0)))).1, (Z1k ((Z02 (Z0K a) (Z0K b)).2) ((decide (a < 0)) != (decide (b < 0)))).2))
def Z1j (f : Form) (i : Int) : Option ((List Span) × Int × Int) :=
 (Z3a f i).bind fun x1 =>
 (bif x1.2 then
  (at? f.Odd x1.1).bind fun x2 =>
  some (x2.Ticks, 0, 0)
 else
  (bif (f.Count == 0) then
   some ([], 0, 0)
  else
   (Z1e i f.Count).bind fun x3 =>
   (at? f.Core x3.2.1).bind fun x4 =>
   some (x4, (Z2K x3.1 f.Period).1, (Z2K x3.1 f.Period).2)))
def ZH (a : Int) (b : Int) : Int × Int :=
 (bif (((decide ((w64 (a + b)) > a)) != (decide (b > 0))) && (b != 0)) then
  (0, 10)
 else
  ((w64 (a + b)), 0))
def Zp.s0 (l : (List Span)) (by' : Int) (s2 : Int × (List Span)) : Option ((Int × (List Span)) ⊕ (Jx ((List Span)) ((List Span) × Int))) :=
 (bif (decide (s2.1 < (l.length : Int))) then
  (at? l s2.1).bind fun x1 =>
  (bif ((((((ZH x1.From by').2) != 0) || (((ZH x1.To by').2) != 0)) || (!(Zn ((ZH x1.From by').1)))) || (!(Zn ((ZH x1.To by').1)))) then
   some (.inr (.ret ([], 20)))
  else
   (app? 16 s2.2 [(Span.mk ((ZH x1.From by').1) ((ZH x1.To by').1))]).bind fun x2 =>
   some (.inl ((w64 (s2.1 + 1)), x2)))
 else
  some (.inr (.go s2.2)))
def Zp (l : (List Span)) (by' : Int) : Option ((List Span) × Int) :=
 (loopO (Zp.s0 l by') (0, [])).bind fun (y1 : Jx ((List Span)) ((List Span) × Int)) =>
 y1.elim (fun r' =>
   some r') fun a2 =>
 some (a2, 0)
def ZX (f : Form) (i : Int) : Option ((List Span) × Int) :=
 (bif (!(Z0h i)) then
  some ([], 20)
 else
  (Z1j f i).bind fun x1 =>
  (bif ((x1.1.length : Int) == 0) then
   some ([], 0)
  else
   (bif (x1.2.2 != 0) then
    some ([], 20)
   else
    (Zp x1.1 x1.2.1).bind fun x2 =>
    some (x2.1, x2.2))))
def ZC.s0 (s : (List (List Span))) (f : (List Span) → Option Bool) (s1 : Int) : Option ((Int) ⊕ (Jx (Unit) (Int))) :=
 (bif (decide (s1 < (s.length : Int))) then
  (at? s s1).bind fun x1 =>
  (f x1).bind fun x2 =>
  (bif x2 then
   some (.inr (.ret s1))
  else
   some (.inl (w64 (s1 + 1))))
 else
  some (.inr (.go ())))
def ZC (s : (List (List Span))) (f : (List Span) → Option Bool) : Option (Int) :=
 (loopO (ZC.s0 s f) 0).bind fun (y1 : Jx (Unit) (Int)) =>
 y1.elim (fun r' =>
   some r') fun a2 =>
 some (-1)
def ZR (s : (List (List Span))) (f : (List Span) → Option Bool) : Option (Bool) :=
 (ZC s f).bind fun x1 =>
 some (decide (x1 ≥ 0))
def Z2x (l : (List Span)) : Bool :=
 (decide ((l.length : Int) > 0))
def Z22 (f : Form) : Option (Bool) :=
 (ZR f.Core (fun z0 => some (Z2x z0))).bind fun x1 =>
 some (!x1)
def Z3Y (f : Form) (i : Int) : Option (Bool) :=
 (Z1j f i).bind fun x1 =>
 some (decide ((x1.1.length : Int) > 0))
def Zm.s0 (f : Form) (by' : Int) (s1 : Int) : Option ((Int) ⊕ (Jx (Unit) (Int × Bool))) :=
 (bif ((decide (s1 ≥ 0)) && (decide (s1 < (f.Odd.length : Int)))) then
  (at? f.Odd s1).bind fun x3 =>
  (bif (decide ((x3.Ticks.length : Int) > 0)) then
   (at? f.Odd s1).bind fun x4 =>
   some (.inr (.ret (x4.Index, true)))
  else
   some (.inl (w64 (s1 + by'))))
 else
  some (.inr (.go ())))
def Zm.s1 (f : Form) (by' : Int) (s2 : Int) : Option ((Int) ⊕ (Jx (Unit) (Int × Bool))) :=
 (bif (Z0h s2) then
  (Z3Y f s2).bind fun x5 =>
  (bif x5 then
   some (.inr (.ret (s2, true)))
  else
   some (.inl (w64 (s2 + by'))))
 else
  some (.inr (.go ())))
def Zm (f : Form) (from' : Int) (by' : Int) : Option (Int × Bool) :=
 (Z22 f).bind fun x1 =>
 (bif x1 then
  (Z3a f from').bind fun x2 =>
  (
   (bif ((decide (by' < 0)) && (!x2.2)) then
    some (w64 (x2.1 - 1))
   else
    some x2.1)).bind fun (y1 : Int) =>
  (loopO (Zm.s0 f by') y1).bind fun (y2 : Jx (Unit) (Int × Bool)) =>
  y2.elim (fun r' =>
    some r') fun a2 =>
  some (0, false)
 else
  (loopO (Zm.s1 f by') from').bind fun (y3 : Jx (Unit) (Int × Bool)) =>
  y3.elim (fun r' =>
    some r') fun a4 =>
  some (0, false))
def Z0S (f : Form) (i : Int) : Option (Int × Bool) :=
 (bif (decide (i ≤ (-1099511627776))) then
  some (0, false)
 else
  (Zm f (iMin (w64 (i - 1)) 1099511627776) (-1)).bind fun x1 =>
  some (x1.1, x1.2))
def Z0i (f : Form) (i : Int) : Option (Int × Bool) :=
 (bif (decide (i ≥ 1099511627776)) then
  some (0, false)
 else
  (Zm f (iMax (w64 (i + 1)) (-1099511627776)) 1).bind fun x1 =>
  some (x1.1, x1.2))
def ZQ (a : (List Span)) (b : (List Span)) : Option (Bool) :=
 (
  (bif (((a.length : Int) == 0) || ((b.length : Int) == 0)) then
   some true
  else
   (at? a (w64 ((a.length : Int) - 1))).bind fun x1 =>
   (at? b 0).bind fun x2 =>
   some (decide (x1.To < x2.From)))).bind fun (y1 : Bool) =>
 some y1
def Z10 (f : Form) (i : Int) : Option (Bool) :=
 (ZX f i).bind fun x1 =>
 (bif (x1.2 != 0) then
  some false
 else
  (Z0S f i).bind fun x2 =>
  (Z0i f i).bind fun x3 =>
  (
   (bif x2.2 then
    (ZX f x2.1).bind fun x4 =>
    (bif (x4.2 != 0) then
     some (.ret false)
    else
     some (.go x4.1))
   else
    some (.go []))).bind fun (y1 : Jx ((List Span)) (Bool)) =>
  y1.elim (fun r' =>
    some r') fun a2 =>
  (
   (bif x3.2 then
    (ZX f x3.1).bind fun x5 =>
    (bif (x5.2 != 0) then
     some (.ret false)
    else
     some (.go x5.1))
   else
    some (.go []))).bind fun (y2 : Jx ((List Span)) (Bool)) =>
  y2.elim (fun r' =>
    some r') fun a4 =>
  (ZQ a2 x1.1).bind fun x6 =>
  (
   (bif x6 then
    (ZQ x1.1 a4).bind fun x7 =>
    some x7
   else
    some false)).bind fun (y3 : Bool) =>
  (
   (bif y3 then
    (ZQ a2 a4).bind fun x8 =>
    some x8
   else
    some false)).bind fun (y4 : Bool) =>
  some y4)
def Zk.s0 (f : Form) (s1 : Int) : Option ((Int) ⊕ (Jx (Unit) (Int))) :=
 (bif (decide (s1 < (f.Odd.length : Int))) then
  (at? f.Odd s1).bind fun x4 =>
  (Z10 f x4.Index).bind fun x5 =>
  (bif (!x5) then
   some (.inr (.ret 50))
  else
   some (.inl (w64 (s1 + 1))))
 else
  some (.inr (.go ())))
def Zk (f : Form) : Option (Int) :=
 (
  (bif ((decide ((f.Core.length : Int) > 6000)) || (decide ((f.Odd.length : Int) > 6000))) then
   some true
  else
   (Zv f).bind fun x1 =>
   some (decide (x1 > 60000)))).bind fun (y1 : Bool) =>
 (bif y1 then
  some 3
 else
  (Zf f).bind fun x2 =>
  (
   (bif (!x2) then
    some true
   else
    (Z00 f).bind fun x3 =>
    some (!x3))).bind fun (y2 : Bool) =>
  (bif y2 then
   some 50
  else
   (loopO (Zk.s0 f) 0).bind fun (y3 : Jx (Unit) (Int)) =>
   y3.elim (fun r' =>
     some r') fun a2 =>
   some 0))
def Z25 (f : Form) : Option (Bool) :=
 (Z0Z f).bind fun x1 =>
 (
  (bif x1 then
   (Zk f).bind fun x2 =>
   some (x2 == 0)
  else
   some false)).bind fun (y1 : Bool) =>
 some y1
def Z03 : Bool := true
def ZO.s0 (s1' : (List Span)) (s2' : (List Span)) (s1 : Int) : Option ((Int) ⊕ (Jx (Unit) (Bool))) :=
 (bif (decide (s1 < (s1'.length : Int))) then
  (at? s1' s1).bind fun x1 =>
  (at? s2' s1).bind fun x2 =>
  (bif (!((x1.From == x2.From) && ((x1.To == x2.To) && true))) then
   some (.inr (.ret false))
  else
   some (.inl (w64 (s1 + 1))))
 else
  some (.inr (.go ())))
def ZO (s1' : (List Span)) (s2' : (List Span)) : Option (Bool) :=
 (bif ((s1'.length : Int) != (s2'.length : Int)) then
  some false
 else
  (loopO (ZO.s0 s1' s2') 0).bind fun (y1 : Jx (Unit) (Bool)) =>
  y1.elim (fun r' =>
    some r') fun a2 =>
  some true)
def Z0C (a : (List Span)) (b : (List Span)) : Option (Bool) :=
 (ZO a b).bind fun x1 =>
 some x1
def epactlaw05_FormOrder (f : Form) (i : Int) (k : Int) : Option (Bool) :=
 (Z25 f).bind fun x1 =>
 (bif (!x1) then
  some Z03
 else
  (ZX f (iMin i k)).bind fun x2 =>
  (ZX f (iMax i k)).bind fun x3 =>
  (bif ((x2.2 != 0) || (x3.2 != 0)) then
   some ((((x2.2 == 0) || ((x2.2 == 20) && ((x2.1.length : Int) == 0))) && ((x3.2 == 0) || ((x3.2 == 20) && ((x3.1.length : Int) == 0)))) && Z03)
  else
   (Zw x2.1).bind fun x4 =>
   (
    (bif x4 then
     (Zw x3.1).bind fun x5 =>
     some x5
    else
     some false)).bind fun (y1 : Bool) =>
   (
    (bif y1 then
     (
      (bif ((iMin i k) == (iMax i k)) then
       (Z0C x2.1 x3.1).bind fun x6 =>
       some x6
      else
       some false)).bind fun (y3 : Bool) =>
     (
      (bif y3 then
       some true
      else
       (
        (bif (decide ((iMin i k) < (iMax i k))) then
         (ZQ x2.1 x3.1).bind fun x7 =>
         some x7
        else
         some false)).bind fun (y5 : Bool) =>
       some y5)).bind fun (y4 : Bool) =>
     some y4
    else
     some false)).bind fun (y2 : Bool) =>
   some (y2 && Z03)))
def Z1v.s0 (f : Form) (i : Int) (s1 : Int) : Option ((Int) ⊕ (Jx (Unit) (Bool))) :=
 (bif (decide (s1 < (f.Odd.length : Int))) then
  (at? f.Odd s1).bind fun x1 =>
  (bif (x1.Index == i) then
   some (.inr (.ret true))
  else
   some (.inl (w64 (s1 + 1))))
 else
  some (.inr (.go ())))
def Z1v (f : Form) (i : Int) : Option (Bool) :=
 (loopO (Z1v.s0 f i) 0).bind fun (y1 : Jx (Unit) (Bool)) =>
 y1.elim (fun r' =>
   some r') fun a2 =>
 some false
def epactlaw05_FormTurns (f : Form) (i : Int) : Option (Bool) :=
 (Z25 f).bind fun x1 =>
 (
  (bif ((!x1) || (f.Count == 0)) then
   some true
  else
   (Z1v f ((w64 i).tmod 1048576)).bind fun x2 =>
   some x2)).bind fun (y1 : Bool) =>
 (
  (bif y1 then
   some true
  else
   (Z1v f (w64 (((w64 i).tmod 1048576) + f.Count))).bind fun x3 =>
   some x3)).bind fun (y2 : Bool) =>
 (bif y2 then
  some Z03
 else
  (ZX f ((w64 i).tmod 1048576)).bind fun x4 =>
  (ZX f (w64 (((w64 i).tmod 1048576) + f.Count))).bind fun x5 =>
  (bif ((x4.2 != 0) || (x5.2 != 0)) then
   some Z03
  else
   (Zp x4.1 f.Period).bind fun x6 =>
   (
    (bif (x6.2 == 0) then
     (Z0C x6.1 x5.1).bind fun x7 =>
     some x7
    else
     some false)).bind fun (y3 : Bool) =>
   some (y3 && Z03)))
def Z0p.s0 (f : Form) (i : Int) (x2 : Int × Bool) (s1 : Int) : Option ((Int) ⊕ (Jx (Int) (Bool))) :=
 (bif ((x2.2 && (decide (s1 < x2.1))) && (decide (s1 < (w64 (((w64 i).fdiv (2 ^ 1)) + 40))))) then
  (ZX f s1).bind fun x4 =>
  (bif ((x4.2 == 0) && (decide ((x4.1.length : Int) > 0))) then
   some (.inr (.ret false))
  else
   some (.inl (w64 (s1 + 1))))
 else
  some (.inr (.go ((w64 i).fdiv (2 ^ 1)))))
def Z0p.s1 (f : Form) (x3 : Int × Bool) (a2 : Int) (s2 : Int) : Option ((Int) ⊕ (Jx (Unit) (Bool))) :=
 (bif ((x3.2 && (decide (s2 > x3.1))) && (decide (s2 > (w64 (a2 - 40))))) then
  (ZX f s2).bind fun x5 =>
  (bif ((x5.2 == 0) && (decide ((x5.1.length : Int) > 0))) then
   some (.inr (.ret false))
  else
   some (.inl (w64 (s2 - 1))))
 else
  some (.inr (.go ())))
def Z0p (f : Form) (i : Int) : Option (Bool) :=
 (Z25 f).bind fun x1 =>
 (bif (!x1) then
  some Z03
 else
  (Z0i f ((w64 i).fdiv (2 ^ 1))).bind fun x2 =>
  (Z0S f ((w64 i).fdiv (2 ^ 1))).bind fun x3 =>
  (bif ((x2.2 && (decide (x2.1 ≤ ((w64 i).fdiv (2 ^ 1))))) || (x3.2 && (decide (x3.1 ≥ ((w64 i).fdiv (2 ^ 1)))))) then
   some false
  else
   (loopO (Z0p.s0 f i x2) (w64 (((w64 i).fdiv (2 ^ 1)) + 1))).bind fun (y1 : Jx (Int) (Bool)) =>
   y1.elim (fun r' =>
     some r') fun a2 =>
   (loopO (Z0p.s1 f x3 a2) (w64 (a2 - 1))).bind fun (y2 : Jx (Unit) (Bool)) =>
   y2.elim (fun r' =>
     some r') fun a4 =>
   (
    (bif x2.2 then
     (Z0S f x2.1).bind fun x6 =>
     (bif ((x6.2 && (decide (x6.1 > a2))) || (x3.2 && ((!x6.2) || (decide (x6.1 < x3.1))))) then
      some (.ret false)
     else
      some (.go ()))
    else
     some (.go ()))).bind fun (y3 : Jx (Unit) (Bool)) =>
   y3.elim (fun r' =>
     some r') fun a6 =>
   some Z03))
def ZD.s0 (s1' : (List Span)) (s2' : (List Span)) (eq : Span → Span → Option Bool) (s1 : Int) : Option ((Int) ⊕ (Jx (Unit) (Bool))) :=
 (bif (decide (s1 < (s1'.length : Int))) then
  (at? s1' s1).bind fun x1 =>
  (at? s2' s1).bind fun x2 =>
  (eq x1 x2).bind fun x3 =>
  (bif (!x3) then
   some (.inr (.ret false))
  else
   some (.inl (w64 (s1 + 1))))
 else
  some (.inr (.go ())))
def ZD (s1' : (List Span)) (s2' : (List Span)) (eq : Span → Span → Option Bool) : Option (Bool) :=
 (bif ((s1'.length : Int) != (s2'.length : Int)) then
  some false
 else
  (loopO (ZD.s0 s1' s2' eq) 0).bind fun (y1 : Jx (Unit) (Bool)) =>
  y1.elim (fun r' =>
    some r') fun a2 =>
  some true)
def Z9.s0 (s1' : (List (List Span))) (s2' : (List (List Span))) (eq : (List Span) → (List Span) → Option Bool) (s1 : Int) : Option ((Int) ⊕ (Jx (Unit) (Bool))) :=
 (bif (decide (s1 < (s1'.length : Int))) then
  (at? s1' s1).bind fun x1 =>
  (at? s2' s1).bind fun x2 =>
  (eq x1 x2).bind fun x3 =>
  (bif (!x3) then
   some (.inr (.ret false))
  else
   some (.inl (w64 (s1 + 1))))
 else
  some (.inr (.go ())))
def Z9 (s1' : (List (List Span))) (s2' : (List (List Span))) (eq : (List Span) → (List Span) → Option Bool) : Option (Bool) :=
 (bif ((s1'.length : Int) != (s2'.length : Int)) then
  some false
 else
  (loopO (Z9.s0 s1' s2' eq) 0).bind fun (y1 : Jx (Unit) (Bool)) =>
  y1.elim (fun r' =>
    some r') fun a2 =>
  some true)
def Z1.s0 (s1' : (List Granule)) (s2' : (List Granule)) (eq : Granule → Granule → Option Bool) (s1 : Int) : Option ((Int) ⊕ (Jx (Unit) (Bool))) :=
 (bif (decide (s1 < (s1'.length : Int))) then
  (at? s1' s1).bind fun x1 =>
  (at? s2' s1).bind fun x2 =>
  (eq x1 x2).bind fun x3 =>
  (bif (!x3) then
   some (.inr (.ret false))
  else
   some (.inl (w64 (s1 + 1))))
 else
  some (.inr (.go ())))
def Z1 (s1' : (List Granule)) (s2' : (List Granule)) (eq : Granule → Granule → Option Bool) : Option (Bool) :=
 (bif ((s1'.length : Int) != (s2'.length : Int)) then
  some false
 else
  (loopO (Z1.s0 s1' s2' eq) 0).bind fun (y1 : Jx (Unit) (Bool)) =>
  y1.elim (fun r' =>
    some r') fun a2 =>
  some true)
def Zb.s0 (a : (List Span)) (b : (List Span)) (s1 : Int) : Option ((Int) ⊕ (Jx (Unit) (Bool))) :=
 (bif (decide (s1 < (a.length : Int))) then
  (at? a s1).bind fun x1 =>
  (at? b s1).bind fun x2 =>
  (bif (!((x2.From == x1.From) && ((x2.To == x1.To) && true))) then
   some (.inr (.ret false))
  else
   some (.inl (w64 (s1 + 1))))
 else
  some (.inr (.go ())))
def Zb (a : (List Span)) (b : (List Span)) : Option (Bool) :=
 (bif ((a.length : Int) != (b.length : Int)) then
  some false
 else
  (loopO (Zb.s0 a b) 0).bind fun (y1 : Jx (Unit) (Bool)) =>
  y1.elim (fun r' =>
    some r') fun a2 =>
  some true)
def Z5.s0 (a : Form) (b : Form) (s1 : Int) : Option ((Int) ⊕ (Jx (Unit) (Bool))) :=
 (bif (decide (s1 < (a.Core.length : Int))) then
  (at? a.Core s1).bind fun x1 =>
  (at? b.Core s1).bind fun x2 =>
  (Zb x1 x2).bind fun x3 =>
  (bif (!x3) then
   some (.inr (.ret false))
  else
   some (.inl (w64 (s1 + 1))))
 else
  some (.inr (.go ())))
def Z5.s1 (a : Form) (b : Form) (s2 : Int) : Option ((Int) ⊕ (Jx (Unit) (Bool))) :=
 (bif (decide (s2 < (a.Odd.length : Int))) then
  (at? a.Odd s2).bind fun x4 =>
  (at? b.Odd s2).bind fun x5 =>
  (
   (bif (x4.Index != x5.Index) then
    some true
   else
    (at? b.Odd s2).bind fun x6 =>
    (Zb x4.Ticks x6.Ticks).bind fun x7 =>
    some (!x7))).bind fun (y3 : Bool) =>
  (bif y3 then
   some (.inr (.ret false))
  else
   some (.inl (w64 (s2 + 1))))
 else
  some (.inr (.go ())))
def Z5 (a : Form) (b : Form) : Option (Bool) :=
 (bif ((((a.Period != b.Period) || (a.Count != b.Count)) || ((a.Core.length : Int) != (b.Core.length : Int))) || ((a.Odd.length : Int) != (b.Odd.length : Int))) then
  some false
 else
  (loopO (Z5.s0 a b) 0).bind fun (y1 : Jx (Unit) (Bool)) =>
  y1.elim (fun r' =>
    some r') fun a2 =>
  (loopO (Z5.s1 a b) 0).bind fun (y2 : Jx (Unit) (Bool)) =>
  y2.elim (fun r' =>
    some r') fun a4 =>
  some true)
def Zs (f : Form) : Option (Bool) :=
 (Z0Z f).bind fun x1 =>
 (
  (bif x1 then
   (Zk f).bind fun x2 =>
   some (x2 == 0)
  else
   some false)).bind fun (y1 : Bool) =>
 some y1
def Z1a.s0 (f : Form) (most : Int) (s1 : Int) : Option ((Int) ⊕ (Jx (Unit) (Bool))) :=
 (bif (decide (s1 < (f.Odd.length : Int))) then
  (at? f.Odd s1).bind fun x1 =>
  (bif ((decide (x1.Index < (w64 (0 - most)))) || (decide (x1.Index > most))) then
   some (.inr (.ret false))
  else
   some (.inl (w64 (s1 + 1))))
 else
  some (.inr (.go ())))
def Z1a (f : Form) (most : Int) : Option (Bool) :=
 (loopO (Z1a.s0 f most) 0).bind fun (y1 : Jx (Unit) (Bool)) =>
 y1.elim (fun r' =>
   some r') fun a2 =>
 some true
def ZE : Bool := true
def Z3j (l : (List Span)) : Bool :=
 (decide ((l.length : Int) > 0))
def Z2r (f : Form) : Option (Bool) :=
 (ZR f.Core (fun z0 => some (Z3j z0))).bind fun x1 =>
 some (!x1)
def Zz.s0 (p1' : Int) {S : Type} (yield : S → Int → Option (S × Bool)) (s1 : Int × S) : Option ((Int × S) ⊕ (Jx (S) (S))) :=
 (bif (decide (s1.1 ≤ p1')) then
  (nz? s1.1).bind fun u1 =>
  (
   (bif ((p1'.tmod s1.1) == 0) then
    (yield s1.2 s1.1).bind fun x1 =>
    some ((!x1.2), x1.1)
   else
    some (false, s1.2))).bind fun (y2 : Bool × S) =>
  (bif y2.1 then
   some (.inr (.ret y2.2))
  else
   some (.inl ((w64 (s1.1 + 1)), y2.2)))
 else
  some (.inr (.go s1.2)))
def Zz {S : Type} (p1' : Int) (yield : S → Int → Option (S × Bool)) (st' : S) : Option (S) :=
 (loopO (Zz.s0 p1' yield) (1, st')).bind fun (y1 : Jx (S) (S)) =>
 y1.elim (fun r' =>
   some r') fun a2 =>
 some a2
def Z0g (x' : Span) (y : Span) (p2' : Int) : Bool :=
 (((w64 (y.From - x'.From)) == p2') && ((w64 (y.To - x'.To)) == p2'))
def Z1T (a : (List Span)) (b : (List Span)) (by' : Int) : Option (Bool) :=
 (ZD a b (fun z0 z1 => some (Z0g z0 z1 by'))).bind fun x1 =>
 some x1
def Z0b.s0 (f : Form) (d : Int) (by' : Int) (s1 : Int) : Option ((Int) ⊕ (Jx (Unit) (Bool))) :=
 (bif (decide (s1 < (f.Core.length : Int))) then
  (
   (
    (at? f.Core s1).bind fun x1 =>
    (
     (bif (decide ((w64 (s1 + d)) ≥ f.Count)) then
      some ((w64 ((w64 (s1 + d)) - f.Count)), f.Period)
     else
      some ((w64 (s1 + d)), 0))).bind fun (y4 : Int × Int) =>
    (at? f.Core y4.1).bind fun x2 =>
    (Z1T x1 x2 (w64 (by' - y4.2))).bind fun x3 =>
    (bif (!x3) then
     some (.ret false)
    else
     some (.go ()))).bind fun (y3 : Jx (Unit) (Bool)) =>
   y3.elim (fun r' =>
     some (.ret r')) fun a4 =>
   some (.go ())).bind fun (y2 : Jx (Unit) (Bool)) =>
  y2.elim (fun r' =>
    some (.inr (.ret r'))) fun a5 =>
  some (.inl (w64 (s1 + 1)))
 else
  some (.inr (.go ())))
def Z0b (f : Form) (d : Int) (by' : Int) : Option (Bool) :=
 (loopO (Z0b.s0 f d by') 0).bind fun (y1 : Jx (Unit) (Bool)) =>
 y1.elim (fun r' =>
   some r') fun a6 =>
 some true
def Zj.s1 (x4 : (List (List Span))) (s3 : Int × (List (List Span))) : Option ((Int × (List (List Span))) ⊕ ((List (List Span)))) :=
 (bif (decide (s3.1 < (x4.length : Int))) then
  (at? x4 s3.1).bind fun x5 =>
  (clone? 16 x5).bind fun x6 =>
  (app? 24 s3.2 [x6]).bind fun x7 =>
  some (.inl ((w64 (s3.1 + 1)), x7))
 else
  some (.inr s3.2))
def Zj.b0 (f : Form) (s2 : (List (List Span)) × Int × Int) (z2 : Int) : Option (((List (List Span)) × Int × Int) × Nat) :=
 (nz? z2).bind fun u1 =>
 (Z1e f.Period (w64 (f.Count.tdiv z2))).bind fun x2 =>
 (
  (bif (x2.2.1 != 0) then
   some true
  else
   (Z0b f z2 x2.1).bind fun x3 =>
   some (!x3))).bind fun (y3 : Bool) =>
 (bif y3 then
  some ((s2.1, s2.2.1, s2.2.2), 0)
 else
  (cut? f.Core 0 z2).bind fun x4 =>
  (loopO (Zj.s1 x4) (0, s2.1)).bind fun (y4 : (List (List Span))) =>
  some ((y4, x2.1, z2), 1))
def Zj (f : Form) : Option (Form) :=
 (Z2r f).bind fun x1 =>
 (bif x1 then
  some (Form.mk 0 0 [] [])
 else
  (
   (Zz f.Count (Z56 (Zj.b0 f)) (([], 0, 0), 0)).bind fun (y2 : ((List (List Span)) × Int × Int) × Nat) =>
   (bif (y2.2 == 0) then
    some (y2.1.1, y2.1.2.1, y2.1.2.2)
   else
    some (y2.1.1, y2.1.2.1, y2.1.2.2))).bind fun (y1 : (List (List Span)) × Int × Int) =>
  some (Form.mk y1.2.1 y1.2.2 y1.1 []))
def Z2G (f : Form) (g : Granule) : Option (Bool) :=
 (ZX f g.Index).bind fun x1 =>
 (
  (bif (x1.2 == 0) then
   (Z0C x1.1 g.Ticks).bind fun x2 =>
   some x2
  else
   some false)).bind fun (y1 : Bool) =>
 some y1
def ZL.s0 (f : Form) (x1 : Form) (s2 : Int × (List Granule)) : Option ((Int × (List Granule)) ⊕ ((List Granule))) :=
 (bif (decide (s2.1 < (f.Odd.length : Int))) then
  (
   (
    (at? f.Odd s2.1).bind fun x2 =>
    (Z2G x1 x2).bind fun x3 =>
    (bif (!x3) then
     (clone? 16 x2.Ticks).bind fun x4 =>
     (app? 32 s2.2 [(Granule.mk x2.Index x4)]).bind fun x5 =>
     some x5
    else
     some s2.2)).bind fun (y3 : (List Granule)) =>
   some y3).bind fun (y2 : (List Granule)) =>
  some (.inl ((w64 (s2.1 + 1)), y2))
 else
  some (.inr s2.2))
def ZL (f : Form) : Option (Form) :=
 (Zj f).bind fun x1 =>
 (loopO (ZL.s0 f x1) (0, [])).bind fun (y1 : (List Granule)) =>
 some (Form.mk x1.Period x1.Count x1.Core y1)
def Z0V (x' : Granule) (y : Granule) : Option (Bool) :=
 (
  (bif (x'.Index == y.Index) then
   (Z0C x'.Ticks y.Ticks).bind fun x1 =>
   some x1
  else
   some false)).bind fun (y1 : Bool) =>
 some y1
def Z1n (a : Form) (b : Form) : Option (Bool) :=
 (
  (bif ((a.Period == b.Period) && (a.Count == b.Count)) then
   (Z9 a.Core b.Core (fun z0 z1 => Z0C z0 z1)).bind fun x1 =>
   some x1
  else
   some false)).bind fun (y1 : Bool) =>
 (
  (bif y1 then
   (Z1 a.Odd b.Odd (fun z0 z1 => Z0V z0 z1)).bind fun x2 =>
   some x2
  else
   some false)).bind fun (y2 : Bool) =>
 some y2
def Zi (f : Form) (g : Form) : Option (Bool) :=
 (ZL f).bind fun x1 =>
 (ZL g).bind fun x2 =>
 (Z1n x1 x2).bind fun x3 =>
 some x3
def Z2P.s0 (f : Form) (g : Form) (s1 : Int) : Option ((Int) ⊕ (Jx (Bool) (Bool))) :=
 (bif (decide (s1 ≤ 2000)) then
  (ZX f s1).bind fun x5 =>
  (ZX g s1).bind fun x6 =>
  (bif ((x5.2 != 0) || (x6.2 != 0)) then
   some (.inr (.ret ZE))
  else
   (Z0C x5.1 x6.1).bind fun x7 =>
   (bif (!x7) then
    some (.inr (.go false))
   else
    some (.inl (w64 (s1 + 1)))))
 else
  some (.inr (.go true)))
def Z2P (f : Form) (g : Form) : Option (Bool) :=
 (Zs f).bind fun x1 =>
 (
  (bif (!x1) then
   some true
  else
   (Zs g).bind fun x2 =>
   some (!x2))).bind fun (y1 : Bool) =>
 (
  (bif y1 then
   some true
  else
   (Z1a f 200).bind fun x3 =>
   some (!x3))).bind fun (y2 : Bool) =>
 (
  (bif y2 then
   some true
  else
   (Z1a g 200).bind fun x4 =>
   some (!x4))).bind fun (y3 : Bool) =>
 (bif ((y3 || (decide (f.Period > 32768))) || (decide (g.Period > 32768))) then
  some ZE
 else
  (loopO (Z2P.s0 f g) (-2000)).bind fun (y4 : Jx (Bool) (Bool)) =>
  y4.elim (fun r' =>
    some r') fun a2 =>
  (Zi f g).bind fun x8 =>
  (
   (bif (x8 == a2) then
    (ZL f).bind fun x9 =>
    (ZL g).bind fun x10 =>
    (Z5 x9 x10).bind fun x11 =>
    some (x11 == a2)
   else
    some false)).bind fun (y5 : Bool) =>
  some (y5 && ZE))
def canon_Is (f : Form) : Option (Bool) :=
 (ZL f).bind fun x1 =>
 (Z1n f x1).bind fun x2 =>
 some x2
def Z1z.s0 (f : Form) (i : Int) (x2 : Form) (s1 : Int) : Option ((Int) ⊕ (Jx (Unit) (Bool))) :=
 (bif (decide (s1 < ([i, 0, 1, (-1), (w64 ((i.tmod 50) - 25))].length : Int))) then
  (at? [i, 0, 1, (-1), (w64 ((i.tmod 50) - 25))] s1).bind fun x9 =>
  (ZX f x9).bind fun x10 =>
  (ZX x2 x9).bind fun x11 =>
  (
   (bif (x10.2 != x11.2) then
    some true
   else
    (Z0C x10.1 x11.1).bind fun x12 =>
    some (!x12))).bind fun (y5 : Bool) =>
  (bif y5 then
   some (.inr (.ret false))
  else
   some (.inl (w64 (s1 + 1))))
 else
  some (.inr (.go ())))
def Z1z (f : Form) (i : Int) : Option (Bool) :=
 (Zs f).bind fun x1 =>
 (bif (!x1) then
  some ZE
 else
  (ZL f).bind fun x2 =>
  (Zk x2).bind fun x3 =>
  (
   (bif (x3 != 0) then
    some true
   else
    (canon_Is x2).bind fun x4 =>
    some (!x4))).bind fun (y1 : Bool) =>
  (
   (bif y1 then
    some true
   else
    (ZL x2).bind fun x5 =>
    (Z5 x5 x2).bind fun x6 =>
    some (!x6))).bind fun (y2 : Bool) =>
  (
   (bif (((y2 || (decide (x2.Count > f.Count))) || (decide (x2.Period > f.Period))) || (decide ((x2.Odd.length : Int) > (f.Odd.length : Int)))) then
    some true
   else
    (Zv x2).bind fun x7 =>
    (Zv f).bind fun x8 =>
    some (decide (x7 > x8)))).bind fun (y3 : Bool) =>
  (bif y3 then
   some false
  else
   (loopO (Z1z.s0 f i x2) 0).bind fun (y4 : Jx (Unit) (Bool)) =>
   y4.elim (fun r' =>
     some r') fun a2 =>
   (Zi f x2).bind fun x13 =>
   some (x13 && ZE)))
def Z18 (l : (List Span)) : Option ((List Span)) :=
 (new? 16 (l.length : Int) (Span.mk 0 0)).bind fun x1 =>
 some (cpy x1 l)
def ZJ.s0 (f : Form) (s2 : Int × (List (List Span))) : Option ((Int × (List (List Span))) ⊕ ((List (List Span)))) :=
 (bif (decide (s2.1 < (f.Core.length : Int))) then
  (at? f.Core s2.1).bind fun x1 =>
  (Z18 x1).bind fun x2 =>
  (app? 24 s2.2 [x2]).bind fun x3 =>
  some (.inl ((w64 (s2.1 + 1)), x3))
 else
  some (.inr s2.2))
def ZJ.s1 (f : Form) (s4 : Int × (List Granule)) : Option ((Int × (List Granule)) ⊕ ((List Granule))) :=
 (bif (decide (s4.1 < (f.Odd.length : Int))) then
  (at? f.Odd s4.1).bind fun x4 =>
  (Z18 x4.Ticks).bind fun x5 =>
  (app? 32 s4.2 [(Granule.mk x4.Index x5)]).bind fun x6 =>
  some (.inl ((w64 (s4.1 + 1)), x6))
 else
  some (.inr s4.2))
def ZJ (f : Form) : Option (Form) :=
 (loopO (ZJ.s0 f) (0, [])).bind fun (y1 : (List (List Span))) =>
 (loopO (ZJ.s1 f) (0, [])).bind fun (y2 : (List Granule)) =>
 some (Form.mk f.Period f.Count y1 y2)
def Z2U.s0 (f : Form) (s1 : Int) : Option ((Int) ⊕ (Jx (Unit) (Bool))) :=
 (bif (decide (s1 < (f.Core.length : Int))) then
  (at? f.Core s1).bind fun x1 =>
  (bif (decide ((x1.length : Int) > 0)) then
   some (.inr (.ret false))
  else
   some (.inl (w64 (s1 + 1))))
 else
  some (.inr (.go ())))
def Z2U (f : Form) : Option (Bool) :=
 (loopO (Z2U.s0 f) 0).bind fun (y1 : Jx (Unit) (Bool)) =>
 y1.elim (fun r' =>
   some r') fun a2 =>
 some true
def Z6r (a : Int) (b : Int) : Option (Int × Int) :=
 (nz? b).bind fun u1 =>
 (nz? b).bind fun u2 =>
 (
  (bif (decide ((a.tmod b) < 0)) then
   some ((w64 ((w64 (a.tdiv b)) - 1)), (w64 ((a.tmod b) + b)))
  else
   some ((w64 (a.tdiv b)), (a.tmod b)))).bind fun (y1 : Int × Int) =>
 some (y1.1, y1.2)
def Z2j (f : Form) (i : Int) : Option ((List Span) × Int) :=
 (Z6r i f.Count).bind fun x1 =>
 (at? f.Core x1.2).bind fun x2 =>
 some (x2, (w64 (x1.1 * f.Period)))
def Z1Y.s0 (a : (List Span)) (x' : Int) (b : (List Span)) (y : Int) (s1 : Int) : Option ((Int) ⊕ (Jx (Unit) (Bool))) :=
 (bif (decide (s1 < (a.length : Int))) then
  (at? a s1).bind fun x1 =>
  (at? b s1).bind fun x2 =>
  (
   (bif ((w64 (x1.From + x')) != (w64 (x2.From + y))) then
    some true
   else
    (at? a s1).bind fun x3 =>
    (at? b s1).bind fun x4 =>
    some ((w64 (x3.To + x')) != (w64 (x4.To + y))))).bind fun (y2 : Bool) =>
  (bif y2 then
   some (.inr (.ret false))
  else
   some (.inl (w64 (s1 + 1))))
 else
  some (.inr (.go ())))
def Z1Y (a : (List Span)) (x' : Int) (b : (List Span)) (y : Int) : Option (Bool) :=
 (bif ((a.length : Int) != (b.length : Int)) then
  some false
 else
  (loopO (Z1Y.s0 a x' b y) 0).bind fun (y1 : Jx (Unit) (Bool)) =>
  y1.elim (fun r' =>
    some r') fun a2 =>
  some true)
def Z2A.s0 (f : Form) (d : Int) (s1 : Int) : Option ((Int) ⊕ (Jx (Unit) (Bool))) :=
 (bif (decide (s1 < f.Count)) then
  (Z2j f s1).bind fun x1 =>
  (Z2j f (w64 (s1 + d))).bind fun x2 =>
  (nz? f.Count).bind fun u3 =>
  (Z1Y x1.1 (w64 (x1.2 + (w64 ((w64 (f.Period * d)).tdiv f.Count)))) x2.1 x2.2).bind fun x3 =>
  (bif (!x3) then
   some (.inr (.ret false))
  else
   some (.inl (w64 (s1 + 1))))
 else
  some (.inr (.go ())))
def Z2A (f : Form) (d : Int) : Option (Bool) :=
 (nz? d).bind fun u1 =>
 (
  (bif ((f.Count.tmod d) != 0) then
   some true
  else
   (nz? f.Count).bind fun u2 =>
   some (((w64 (f.Period * d)).tmod f.Count) != 0))).bind fun (y1 : Bool) =>
 (bif y1 then
  some false
 else
  (loopO (Z2A.s0 f d) 0).bind fun (y2 : Jx (Unit) (Bool)) =>
  y2.elim (fun r' =>
    some r') fun a2 =>
  some true)
def Z0L.s0 (f : Form) (s1 : Int) : Option ((Int) ⊕ (Int)) :=
 (Z2A f s1).bind fun x2 =>
 (bif (!x2) then
  some (.inl (w64 (s1 + 1)))
 else
  some (.inr s1))
def Z0L.s1 (f : Form) (y2 : Int) (s2 : Int × (List (List Span))) : Option ((Int × (List (List Span))) ⊕ ((List (List Span)) × Int)) :=
 (bif (decide (s2.1 < y2)) then
  (at? f.Core s2.1).bind fun x3 =>
  (app? 16 [] x3).bind fun x4 =>
  (app? 24 s2.2 [x4]).bind fun x5 =>
  some (.inl ((w64 (s2.1 + 1)), x5))
 else
  some (.inr (s2.2, (w64 ((w64 (f.Period * y2)).tdiv f.Count)))))
def Z0L.s2 (f : Form) (y1 : (List (List Span)) × Int × Int) (s3 : Int × (List Granule)) : Option ((Int × (List Granule)) ⊕ ((List Granule))) :=
 (bif (decide (s3.1 < (f.Odd.length : Int))) then
  (
   (
    (
     (bif (decide (y1.2.2 > 0)) then
      (at? f.Odd s3.1).bind fun x6 =>
      (Z2j (Form.mk y1.2.1 y1.2.2 y1.1 []) x6.Index).bind fun x7 =>
      some (x7.1, x7.2)
     else
      some ([], 0))).bind fun (y7 : (List Span) × Int) =>
    (at? f.Odd s3.1).bind fun x8 =>
    (Z1Y y7.1 y7.2 x8.Ticks 0).bind fun x9 =>
    (bif (!x9) then
     (at? f.Odd s3.1).bind fun x10 =>
     (at? f.Odd s3.1).bind fun x11 =>
     (app? 16 [] x11.Ticks).bind fun x12 =>
     (app? 32 s3.2 [(Granule.mk x10.Index x12)]).bind fun x13 =>
     some x13
    else
     some s3.2)).bind fun (y6 : (List Granule)) =>
   some y6).bind fun (y5 : (List Granule)) =>
  some (.inl ((w64 (s3.1 + 1)), y5))
 else
  some (.inr s3.2))
def Z0L (f : Form) : Option (Form) :=
 (
  (Z2U f).bind fun x1 =>
  (bif (!x1) then
   (loopO (Z0L.s0 f) 1).bind fun (y2 : Int) =>
   (nz? f.Count).bind fun u1 =>
   (loopO (Z0L.s1 f y2) (0, [])).bind fun (y3 : (List (List Span)) × Int) =>
   some (y3.1, y3.2, y2)
  else
   some ([], 0, 0))).bind fun (y1 : (List (List Span)) × Int × Int) =>
 (loopO (Z0L.s2 f y1) (0, [])).bind fun (y4 : (List Granule)) =>
 some (Form.mk y1.2.1 y1.2.2 y1.1 y4)
def epactlaw06_CanonTells (f : Form) : Option (Bool) :=
 (Zs f).bind fun x1 =>
 (bif (!x1) then
  some ZE
 else
  (ZJ f).bind fun x2 =>
  (ZL x2).bind fun x3 =>
  (Z0L f).bind fun x4 =>
  (Z5 x3 x4).bind fun x5 =>
  (
   (bif x5 then
    (canon_Is x2).bind fun x6 =>
    (Z5 f x4).bind fun x7 =>
    some (x6 == x7)
   else
    some false)).bind fun (y1 : Bool) =>
  (
   (bif y1 then
    (Z5 x2 f).bind fun x8 =>
    some x8
   else
    some false)).bind fun (y2 : Bool) =>
  some (y2 && ZE))
def Z0x.s1 (f : Form) (s1 : Int × (List (List Span))) (s2 : Int × (List (List Span))) : Option ((Int × (List (List Span))) ⊕ (Jx ((List (List Span))) (Form × Bool))) :=
 (bif (decide (s2.1 < (f.Core.length : Int))) then
  (at? f.Core s2.1).bind fun x2 =>
  (Zp x2 (w64 (s1.1 * f.Period))).bind fun x3 =>
  (bif (x3.2 != 0) then
   some (.inr (.ret (f, false)))
  else
   (app? 24 s2.2 [x3.1]).bind fun x4 =>
   some (.inl ((w64 (s2.1 + 1)), x4)))
 else
  some (.inr (.go s2.2)))
def Z0x.s0 (f : Form) (times : Int) (s1 : Int × (List (List Span))) : Option ((Int × (List (List Span))) ⊕ (Jx ((List (List Span))) (Form × Bool))) :=
 (bif (decide (s1.1 < times)) then
  (loopO (Z0x.s1 f s1) (0, s1.2)).bind fun (y2 : Jx ((List (List Span))) (Form × Bool)) =>
  y2.elim (fun r' =>
    some (.inr (.ret r'))) fun a3 =>
  some (.inl ((w64 (s1.1 + 1)), a3))
 else
  some (.inr (.go s1.2)))
def Z0x (f : Form) (times : Int) : Option (Form × Bool) :=
 (ZJ f).bind fun x1 =>
 (loopO (Z0x.s0 f times) (1, x1.Core)).bind fun (y1 : Jx ((List (List Span))) (Form × Bool)) =>
 y1.elim (fun r' =>
   some r') fun a4 =>
 some ((Form.mk (w64 (f.Period * times)) (w64 (f.Count * times)) a4 x1.Odd), true)
def Z1y.s0 (at' : Int) (x2 : Form × Bool) (x4 : (List Span) × Int) (s2 : Bool × Int × (List Granule)) : Option ((Bool × Int × (List Granule)) ⊕ (Bool × (List Granule))) :=
 (bif (decide (s2.2.1 < (x2.1.Odd.length : Int))) then
  (
   (
    (at? x2.1.Odd s2.2.1).bind fun x5 =>
    (
     (bif (x5.Index == (w64 at')) then
      some true
     else
      some s2.1)).bind fun (y5 : Bool) =>
    (
     (bif ((!y5) && (decide (x5.Index > (w64 at')))) then
      (app? 32 s2.2.2 [(Granule.mk (w64 at') x4.1)]).bind fun x6 =>
      some (true, x6)
     else
      some (y5, s2.2.2))).bind fun (y6 : Bool × (List Granule)) =>
    (app? 32 y6.2 [x5]).bind fun x7 =>
    some (y6.1, x7)).bind fun (y4 : Bool × (List Granule)) =>
   some (y4.1, y4.2)).bind fun (y3 : Bool × (List Granule)) =>
  some (.inl (y3.1, (w64 (s2.2.1 + 1)), y3.2))
 else
  some (.inr (s2.1, s2.2.2)))
def Z1y (f : Form) (times : Int) (at' : Int) : Option (Bool) :=
 (Zs f).bind fun x1 =>
 (bif ((!x1) || (decide (f.Period > 1073741824))) then
  some ZE
 else
  (Z0x f (w64 (1 + (w64 (times.tmod 6))))).bind fun x2 =>
  (
   (bif (!x2.2) then
    some true
   else
    (Zk x2.1).bind fun x3 =>
    some (x3 != 0))).bind fun (y1 : Bool) =>
  (bif y1 then
   some ZE
  else
   (ZX f (w64 at')).bind fun x4 =>
   (loopO (Z1y.s0 at' x2 x4) ((x4.2 != 0), 0, [])).bind fun (y2 : Bool × (List Granule)) =>
   (
    (bif (!y2.1) then
     (app? 32 y2.2 [(Granule.mk (w64 at') x4.1)]).bind fun x8 =>
     some x8
    else
     some y2.2)).bind fun (y7 : (List Granule)) =>
   (Zk (Form.mk x2.1.Period x2.1.Count x2.1.Core y7)).bind fun x9 =>
   (bif (x9 != 0) then
    some ZE
   else
    (Zi f (Form.mk x2.1.Period x2.1.Count x2.1.Core y7)).bind fun x10 =>
    (
     (bif x10 then
      (ZL f).bind fun x11 =>
      (ZL (Form.mk x2.1.Period x2.1.Count x2.1.Core y7)).bind fun x12 =>
      (Z5 x11 x12).bind fun x13 =>
      some x13
     else
      some false)).bind fun (y8 : Bool) =>
    some (y8 && ZE))))
def ZB : Form :=
 (Form.mk 7 1 [[(Span.mk 0 4)]] [])
def Z0J.s0 (l : (List Span)) (by' : Int) (s2 : Int × (List Span)) : Option ((Int × (List Span)) ⊕ (Jx ((List Span)) (Unit))) :=
 (bif (decide (s2.1 < (l.length : Int))) then
  (at? l s2.1).bind fun x1 =>
  (bif ((((((ZH x1.From by').2) != 0) || (((ZH x1.To by').2) != 0)) || (!(Zn ((ZH x1.From by').1)))) || (!(Zn ((ZH x1.To by').1)))) then
   some (.inr (.ret ()))
  else
   (app? 16 s2.2 [(Span.mk ((ZH x1.From by').1) ((ZH x1.To by').1))]).bind fun x2 =>
   some (.inl ((w64 (s2.1 + 1)), x2)))
 else
  some (.inr (.go s2.2)))
def Z0J (l : (List Span)) (by' : Int) : Option ((List Span) × Int) :=
 (loopO (Z0J.s0 l by') (0, [])).bind fun (y1 : Jx ((List Span)) (Unit)) =>
 y1.elim (fun a4 =>
   some ([], 20)) fun a3 =>
 some (a3, 0)
def Z2E (f : Form) (i : Int) : Option (Bool) :=
 (ZX f i).bind fun x1 =>
 (bif (x1.2 != 0) then
  some false
 else
  (Z0S f i).bind fun x2 =>
  (Z0i f i).bind fun x3 =>
  (bif x2.2 then
   (ZX f x2.1).bind fun x4 =>
   (bif (x4.2 != 0) then
    some false
   else
    (bif x3.2 then
     (ZX f x3.1).bind fun x5 =>
     (bif (x5.2 != 0) then
      some false
     else
      (ZQ x4.1 x1.1).bind fun x6 =>
      (
       (bif x6 then
        (ZQ x1.1 x5.1).bind fun x7 =>
        some x7
       else
        some false)).bind fun (y1 : Bool) =>
      (
       (bif y1 then
        (ZQ x4.1 x5.1).bind fun x8 =>
        some x8
       else
        some false)).bind fun (y2 : Bool) =>
      some y2)
    else
     (ZQ x4.1 x1.1).bind fun x9 =>
     (
      (bif x9 then
       (ZQ x1.1 []).bind fun x10 =>
       some x10
      else
       some false)).bind fun (y3 : Bool) =>
     (
      (bif y3 then
       (ZQ x4.1 []).bind fun x11 =>
       some x11
      else
       some false)).bind fun (y4 : Bool) =>
     some y4))
  else
   (bif x3.2 then
    (ZX f x3.1).bind fun x12 =>
    (bif (x12.2 != 0) then
     some false
    else
     (ZQ [] x1.1).bind fun x13 =>
     (
      (bif x13 then
       (ZQ x1.1 x12.1).bind fun x14 =>
       some x14
      else
       some false)).bind fun (y5 : Bool) =>
     (
      (bif y5 then
       (ZQ [] x12.1).bind fun x15 =>
       some x15
      else
       some false)).bind fun (y6 : Bool) =>
     some y6)
   else
    (ZQ [] x1.1).bind fun x16 =>
    (
     (bif x16 then
      (ZQ x1.1 []).bind fun x17 =>
      some x17
     else
      some false)).bind fun (y7 : Bool) =>
    (
     (bif y7 then
      (ZQ [] []).bind fun x18 =>
      some x18
     else
      some false)).bind fun (y8 : Bool) =>
    some y8)))
def Z6.s0 (at' : Int) (x7 : (List Span)) (x8 : Form) (s2 : Bool × Int × (List Granule)) : Option ((Bool × Int × (List Granule)) ⊕ (Bool × (List Granule))) :=
 (bif (decide (s2.2.1 < (x8.Odd.length : Int))) then
  (
   (
    (at? x8.Odd s2.2.1).bind fun x9 =>
    (
     (bif ((!s2.1) && (decide (x9.Index ≥ (w64 at')))) then
      (app? 32 s2.2.2 [(Granule.mk (w64 at') x7)]).bind fun x10 =>
      some (true, x10)
     else
      some (s2.1, s2.2.2))).bind fun (y4 : Bool × (List Granule)) =>
    (bif (x9.Index != (w64 at')) then
     (app? 32 y4.2 [x9]).bind fun x11 =>
     some (x11, y4.1)
    else
     some (y4.2, y4.1))).bind fun (y3 : (List Granule) × Bool) =>
   some (y3.2, y3.1)).bind fun (y2 : Bool × (List Granule)) =>
  some (.inl (y2.1, (w64 (s2.2.1 + 1)), y2.2))
 else
  some (.inr (s2.1, s2.2.2)))
def Z6.s1 (at' : Int) (x22 : Form) (s4 : Bool × Int × (List Granule) × (List Span)) : Option ((Bool × Int × (List Granule) × (List Span)) ⊕ (Bool × (List Granule) × (List Span))) :=
 (bif (decide (s4.2.1 < (x22.Odd.length : Int))) then
  (
   (
    (at? x22.Odd s4.2.1).bind fun x23 =>
    (
     (bif ((!s4.1) && (decide (x23.Index ≥ (w64 at')))) then
      (app? 32 s4.2.2.1 [(Granule.mk (w64 at') s4.2.2.2)]).bind fun x24 =>
      some (true, x24)
     else
      some (s4.1, s4.2.2.1))).bind fun (y12 : Bool × (List Granule)) =>
    (bif (x23.Index != (w64 at')) then
     (app? 32 y12.2 [x23]).bind fun x25 =>
     some (x25, y12.1)
    else
     some (y12.2, y12.1))).bind fun (y11 : (List Granule) × Bool) =>
   some (y11.2, y11.1)).bind fun (y10 : Bool × (List Granule)) =>
  some (.inl (y10.1, (w64 (s4.2.1 + 1)), y10.2, s4.2.2.2))
 else
  some (.inr (s4.1, s4.2.2.1, s4.2.2.2)))
def Z6 (f : Form) (at' : Int) : Option (Bool) :=
 (Zs f).bind fun x1 =>
 (bif (!x1) then
  some ZE
 else
  (ZX f (w64 at')).bind fun x2 =>
  (bif (((x2.2 != 0) || ((x2.1.length : Int) == 0)) || ((f.Odd.length : Int) == 8)) then
   some ZE
  else
   (at? x2.1 (w64 ((x2.1.length : Int) - 1))).bind fun x3 =>
   (at? x2.1 (w64 ((x2.1.length : Int) - 1))).bind fun x4 =>
   (at? (x2.1.set ((w64 ((x2.1.length : Int) - 1))).toNat (Span.mk x4.From (w64 (x3.To - 1)))) (w64 ((x2.1.length : Int) - 1))).bind fun x5 =>
   (at? (x2.1.set ((w64 ((x2.1.length : Int) - 1))).toNat (Span.mk x4.From (w64 (x3.To - 1)))) (w64 ((x2.1.length : Int) - 1))).bind fun x6 =>
   (bif (decide (x5.From > x6.To)) then
    (cut? (x2.1.set ((w64 ((x2.1.length : Int) - 1))).toNat (Span.mk x4.From (w64 (x3.To - 1)))) 0 (w64 ((x2.1.length : Int) - 1))).bind fun x7 =>
    (ZJ f).bind fun x8 =>
    (loopO (Z6.s0 at' x7 x8) (false, 0, [])).bind fun (y1 : Bool × (List Granule)) =>
    (
     (bif (!y1.1) then
      (app? 32 y1.2 [(Granule.mk (w64 at') x7)]).bind fun x12 =>
      some x12
     else
      some y1.2)).bind fun (y5 : (List Granule)) =>
    (Zk (Form.mk x8.Period x8.Count x8.Core y5)).bind fun x13 =>
    (bif (x13 != 0) then
     some ZE
    else
     (Zi f (Form.mk x8.Period x8.Count x8.Core y5)).bind fun x14 =>
     (
      (bif (!x14) then
       (ZL f).bind fun x15 =>
       (ZL (Form.mk x8.Period x8.Count x8.Core y5)).bind fun x16 =>
       (Z5 x15 x16).bind fun x17 =>
       some (!x17)
      else
       some false)).bind fun (y6 : Bool) =>
     (
      (bif y6 then
       (Zi (Form.mk x8.Period x8.Count x8.Core y5) (Form.mk x8.Period x8.Count x8.Core y5)).bind fun x18 =>
       some x18
      else
       some false)).bind fun (y7 : Bool) =>
     (
      (bif y7 then
       (Zi (Form.mk x8.Period x8.Count x8.Core y5) ZB).bind fun x19 =>
       (ZL (Form.mk x8.Period x8.Count x8.Core y5)).bind fun x20 =>
       (Z5 x20 ZB).bind fun x21 =>
       some ((!x19) == (!x21))
      else
       some false)).bind fun (y8 : Bool) =>
     some (y8 && ZE))
   else
    (ZJ f).bind fun x22 =>
    (loopO (Z6.s1 at' x22) (false, 0, [], (x2.1.set ((w64 ((x2.1.length : Int) - 1))).toNat (Span.mk x4.From (w64 (x3.To - 1)))))).bind fun (y9 : Bool × (List Granule) × (List Span)) =>
    (
     (bif (!y9.1) then
      (app? 32 y9.2.1 [(Granule.mk (w64 at') y9.2.2)]).bind fun x26 =>
      some x26
     else
      some y9.2.1)).bind fun (y13 : (List Granule)) =>
    (Zk (Form.mk x22.Period x22.Count x22.Core y13)).bind fun x27 =>
    (bif (x27 != 0) then
     some ZE
    else
     (Zi f (Form.mk x22.Period x22.Count x22.Core y13)).bind fun x28 =>
     (
      (bif (!x28) then
       (ZL f).bind fun x29 =>
       (ZL (Form.mk x22.Period x22.Count x22.Core y13)).bind fun x30 =>
       (Z5 x29 x30).bind fun x31 =>
       some (!x31)
      else
       some false)).bind fun (y14 : Bool) =>
     (
      (bif y14 then
       (Zi (Form.mk x22.Period x22.Count x22.Core y13) (Form.mk x22.Period x22.Count x22.Core y13)).bind fun x32 =>
       some x32
      else
       some false)).bind fun (y15 : Bool) =>
     (
      (bif y15 then
       (Zi (Form.mk x22.Period x22.Count x22.Core y13) ZB).bind fun x33 =>
       (ZL (Form.mk x22.Period x22.Count x22.Core y13)).bind fun x34 =>
       (Z5 x34 ZB).bind fun x35 =>
       some ((!x33) == (!x35))
      else
       some false)).bind fun (y16 : Bool) =>
     some (y16 && ZE)))))
end
end Go.Dn

namespace Go.Dn
open Go
theorem loopO_ans {S R R' : Type} {step : S → Option (S ⊕ R)} {step' : S → Option (S ⊕ R')} (φ : R → R') (h : ∀ s, step' s = (step s).map fun z => match z with | .inl a => .inl a | .inr r => .inr (φ r)) (s : S) : loopO step' s = (loopO step s).map φ := by
 have key : ∀ k s, Z1q step' k s = (Z1q step k s).map φ := by
  intro k
  induction k with
  | zero => intro s; rfl
  | succ k ih =>
   intro s;simp only [Z1q, h s];cases step s with
   | none => rfl
   | some z => cases z with
    | inl a => exact ih a
    | inr r => rfl
 cases hl : loopO step s with
 | some r =>
  obtain ⟨k, hk⟩ := ZI.1 hl
  exact ZI.2 ⟨k, by rw [key, hk]; rfl⟩
 | none =>
  cases hl' : loopO step' s with
  | none => rfl
  | some r' =>
   obtain ⟨k, hk⟩ := ZI.1 hl'
   rw [key, Y1] at hk;obtain ⟨r, hr, _⟩ := hk
   rw [ZI.2 ⟨k, hr⟩] at hl;cases hl
theorem Z6p : Z0J = Zp := by
 funext l b
 unfold Z0J Zp
 rw [loopO_ans (step := Z0J.s0 l b) (step' := Zp.s0 l b) (fun z => match z with | .go a => .go a | .ret _ => .ret ([], 20)) ?_]
 ·cases loopO (Z0J.s0 l b) (0, []) with
  | none => rfl
  | some z => cases z <;> rfl
 ·intro s;unfold Z0J.s0 Zp.s0;cases decide (s.1 < (l.length : Int)) with
  | false => rfl
  | true =>
   simp only [cond_true];cases at? l s.1 with
   | none => rfl
   | some x =>
    simp only [Y0];cases ((((((ZH x.From b).2) != 0) || (((ZH x.To b).2) != 0)) || (!(Zn ((ZH x.From b).1)))) || (!(Zn ((ZH x.To b).1)))) with
    | true => rfl
    | false =>
     simp only [cond_false];cases app? 16 s.2 [(Span.mk ((ZH x.From b).1) ((ZH x.To b).1))] <;> rfl
theorem Z63 : Z2E = Z10 := by
 funext f i
 unfold Z2E Z10
 cases ZX f i with
 | none => rfl
 | some x1 =>
  simp only [Y0];cases x1.2 != 0 with
  | true => rfl
  | false =>
   simp only [cond_false];cases Z0S f i with
   | none => rfl
   | some x2 =>
    cases Z0i f i with
    | none => rfl
    | some x3 =>
     simp only [Y0];cases x2.2 with
     | true =>
      simp only [cond_true];cases ZX f x2.1 with
      | none => rfl
      | some x4 =>
       simp only [Y0];cases x4.2 != 0 with
       | true => rfl
       | false =>
        simp only [cond_false, Y0, Jx.elim];cases x3.2 with
        | true =>
         simp only [cond_true];cases ZX f x3.1 with
         | none => rfl
         | some x5 =>
          simp only [Y0];cases x5.2 != 0 <;> rfl
        | false => rfl
     | false =>
      simp only [cond_false, Y0, Jx.elim];cases x3.2 with
      | true =>
       simp only [cond_true];cases ZX f x3.1 with
       | none => rfl
       | some x5 =>
        simp only [Y0];cases x5.2 != 0 <;> rfl
      | false => rfl
end Go.Dn

namespace Go.Dn
open Go Go.Proofs
set_option maxRecDepth 100000
set_option maxHeartbeats 4000000
abbrev vl {α : Type} (c : α → List FV) (x : List α) : PV := .v (.sl (x.map c))
abbrev vi (x : Int) : PV := .v (.int .i64 x)
abbrev vu (x : Int) : PV := .v (.int .u64 x)
abbrev vb (x : Bool) : PV := .v (.bool x)
section
theorem Ops.wt {X : Ctx} {n : Nat} {dr : Bool} {ops : Array Oper} {base i : Nat} {l : List Oper} {e : Env} {σ : Heap} {K : Env → Heap → Prop} {op : Op} {t : TypeId} {p : String} {af : Array Edge} {j : Nat} {g : Tmp} {w : Bool} {dst : Option Tmp} (hg : (ops[j]?).bind (·.dst) = some g) (he : e g = .v (.bool w)) (hk : Ops X n dr ops base i (⟨dst, op, t, p, af, none⟩ :: l) e σ K) : Ops X n dr ops base i (⟨dst, op, t, p, af, some (j, w)⟩ :: l) e σ K := .wanted hg he hk
variable {X : Ctx} {n : Nat} {dr : Bool} {ops : Array Oper} {base i : Nat} {l : List Oper} {e : Env} {σ : Heap} {K : Env → Heap → Prop} {d : Nat} {t t1 t2 : TypeId} {p : String} {af : Array Edge} {x y : Operand} {lo hi : Nat} {L : List Res}
theorem Ops.mv (v : PV) (hx : Z0 X e x = some v) (hd : Nat.blt d n = true) (hk : Ops X n dr ops base (i + 1) l (set e d v) σ K) : Ops X n dr ops base i (⟨some d, .move x, t, p, af, none⟩ :: l) e σ K := .move hx hd hk
theorem Ops.av (v : PV) (hx : Z0 X e x = some v) (hd : Nat.blt d n = true) (hk : Ops X n dr ops base (i + 1) l (set e d v) σ K) : Ops X n dr ops base i (⟨some d, .assign x, t, p, af, none⟩ :: l) e σ K := .assign hx hd hk
theorem Ops.it {op : BinOp} {k : IntKind} (m m' : Int) (r : FV) (hx : Z0 X e x = some (.v (.int k m))) (hy : Z0 X e y = some (.v (.int k m'))) (hop : (op != .shl && op != .shr) = true) (hr : Z4Q op k m m' = some r) (hd : Nat.blt d n = true) (hk : Ops X n dr ops base (i + 1) l (set e d (.v r)) σ K) : Ops X n dr ops base i (⟨some d, .binOp op t1 x y t2, t, p, af, none⟩ :: l) e σ K := .int hx hy hop hr hd hk
theorem Ops.xt (v : PV) {vs : List PV} {j : Nat} (hx : Z0 X e x = some (.tup vs)) (hj : vs[j]? = some v) (hd : Nat.blt d n = true) (hk : Ops X n dr ops base (i + 1) l (set e d v) σ K) : Ops X n dr ops base i (⟨some d, .extract x j, t, p, af, none⟩ :: l) e σ K := .extract hx hj hd hk
theorem Ops.ld (v : PV) {id ver off : Nat} {te : TypeId} {cells : List PV} (H : Has σ lo hi L) (k : Nat) (hk : L[k]? = some (.blk id te cells)) (hv : cells.length = ver) (hx : Z0 X e x = some (.ptr id ver off)) (hg : tagg X.P t1 = some false) (hc : cells[off]? = some v) (ha : dr = true → Seen ops base i id false) (hd : Nat.blt d n = true) (hk' : Ops X n dr ops base (i + 1) l (set e d v) σ K) : Ops X n dr ops base i (⟨some d, .load t1 x, t, p, af, none⟩ :: l) e σ K := .loadH H k hk hv hx hg hc ha hd hk'
end
theorem sk {α : Type} {a b : α} (h : some a = some b) : b = a := (Option.some.inj h).symm
theorem V {α : Sort _} {a : α} : a = a := rfl
theorem U : True := trivial
theorem Has.wk {σ : Heap} {lo hi : Nat} {L : List Res} (H : Has σ lo hi L) {lo' : Nat} (h : lo ≤ lo') : Has σ lo' hi L := H.weak h (YB _)
theorem sj {α : Type} {a b : α} (h : some a = some b) : a = b := Option.some.inj h
abbrev vF (f : Form) : List PV := [vi f.Period, vi f.Count, vl (cL Span.cs) f.Core, vl Granule.cs f.Odd]
theorem Z5b {f : Form} {r : Int} (h : Zv f = some r) : Fn CX 33 [(.agg (vs (Form.cs f)))] (vi r) := by
 refine Fn.go Try.func33 V fun σ H => ?_; unfold Zv at h; refine .tR 2 V H fun b1 σ H => (.boxH (cs := (vF f)) H (by omega) (by omega) V V V fun σ H => (.aV V (.nila H fun H => (.tR 1 V H fun b2 σ H => (.aV V (.nila H fun H => (.then (.tR 4 V H fun b3 σ H => ?_)))))))); refine .fV H 0 V (.lV H 0 V (.nV V (.mV V (.nila H fun H => (.inBlock ?_))))); refine .lp h (fun s1 => [(1, (.ptr (b1 + 0) 4 0)), (3, (vi s1.1)), (9, (vl (cL Span.cs) f.Core)), (10, (vi (f.Core.length : Int))), (11, (vi s1.2))]) (fun s1 => [.blk (b1 + 0) 25 (vF f)]) (.exit 0) (fun y1 => [(1, (.ptr (b1 + 0) 4 0)), (3, (vi y1))]) (fun y1 => [.blk (b1 + 0) 25 (vF f)]) (EI V) H (fun s1 e σ H z h => ?_) fun y1 e σ H h => ?_
 ·unfold Zv.s0 at h; refine .tR 1 V H fun b4 σ H => (.iV V (.nila H fun H => (.then ?_))); refine .wh h V ?_ ?_ <;> intro h
  ·refine .skip (.then (.inBlock (.tR 3 V H fun b5 σ H => ?_))); obtain ⟨x1, q1, h⟩ := bs h; refine .jV q1 V (.pV V (.aV V (.nila H fun H => (.ZM 5 V H fun b6 σ H => (.mV V (.mV V (.nV V (.iV V ?_)))))))); refine .aV V (.nila H fun H => (.ZM 2 V H fun b7 σ H => (.iV V (.mV V (.nila H fun H => ?_))))); obtain rfl := sj h; exact ⟨V, EI V, H⟩
  refine .exit ?_; obtain rfl := sj h; exact ⟨nofun, ⟨V, EI V, H⟩⟩
 refine .then (.tR 4 V H fun b8 σ H => (.fV H 0 V (.lV H 0 V (.nV V (.mV V (.nila H fun H => (.inBlock ?_))))))); refine .lp h (fun s2 => [(3, (vi s2.1)), (21, (vl Granule.cs f.Odd)), (22, (vi (f.Odd.length : Int))), (23, (vi s2.2))]) (fun s2 => []) (.exit 2) (fun y2 => [(3, (vi y2))]) (fun y2 => []) (EI V) (H.erase 0) (fun s2 e σ H z h => ?_) fun y2 e σ H h => ?_
 ·unfold Zv.s1 at h; refine .tR 1 V H fun b9 σ H => (.iV V (.nila H fun H => (.then ?_))); refine .wh h V ?_ ?_ <;> intro h
  ·refine .skip (.then (.inBlock (.tR 4 V H fun b10 σ H => ?_))); obtain ⟨x2, q2, h⟩ := bs h; refine .jV q2 V (.qV [(.int .i64 x2.Index), (.sl (x2.Ticks.map Span.cs))] V (.Z0O (cs := [(vi 0), .nils]) H (by omega) (by omega) V V fun σ H => (.sV [(vi x2.Index), (vl Span.cs x2.Ticks)] H 0 V fun σ H => (.nila H fun H => (.ZM 6 V H fun b11 σ H => (.mV V (.fV H 0 V (.lV H 0 V ?_)))))))); refine .nV V (.iV V (.aV V (.nila H fun H => (.ZM 2 V H fun b12 σ H => (.iV V (.mV V (.nila H fun H => ?_))))))); obtain rfl := sj h; exact ⟨V, EI V, (H.erase 0)⟩
  refine .exit ?_; obtain rfl := sj h; exact ⟨nofun, ⟨V, EI V, H⟩⟩
 refine .tR 2 V H fun b13 σ H => (.mV V (.aV V (.nila H fun H => (.ret ?_)))); obtain rfl := sj h; exact Ends.eR V
theorem Z4e {f : Form} {r : Bool} (h : Z0Z f = some r) : Fn CX 36 [(.agg (vs (Form.cs f)))] (vb r) := by
 refine Fn.go Try.func36 V fun σ H => ?_; unfold Z0Z at h; refine .tR 2 V H fun b1 σ H => (.boxH (cs := (vF f)) H (by omega) (by omega) V V V fun σ H => (.aV V (.nila H fun H => (.tR 16 V H fun b2 σ H => (.fV H 0 V (.lV H 0 V (.nV V (.iV V ?_)))))))); refine .mV V ?_; refine .md H 5 [(12, (vb ((decide ((f.Core.length : Int) ≤ 12)) && (decide ((f.Odd.length : Int) ≤ 8))))), (1, (.ptr (b1 + 0) 4 0))] [.blk (b1 + 0) 25 (vF f)] V ?_ fun e σ H => ?_
 ·refine .split V V ?_ ?_ <;> intro hc1
  ·refine .fV H 0 V (.lV H 0 V (.nV V (.iV V (.kT V (.nil ?_))))); exact ⟨⟨Z2W hc1, V, U⟩, H.wk (by omega)⟩
  ·refine .ps 4 V (.kF V (.nil ?_)); exact ⟨⟨Z2X hc1, V, U⟩, H.wk (by omega)⟩
 refine .mV V ?_; obtain ⟨y1, hj1, h⟩ := bs h; refine .md H 4 [(17, (vb y1))] [] V ?_ fun e σ H => ?_
 ·refine .sp hj1 V ?_ ?_ <;> intro h
  ·refine .LV (vF f) H 0 V (.wt V V ?_); obtain ⟨x1, q1, h⟩ := bs h; refine .cV (Z5b q1) V (.iV V (.kT V (.nil ?_))); obtain rfl := sj h; exact ⟨EI V, (H.erase 0).wk (by omega)⟩
  refine .ps 3 V (.kF V (.nil ?_)); obtain rfl := sj h; exact ⟨EI V, (H.erase 0).wk (by omega)⟩
 refine .aV V (.nila H fun H => (.ret ?_)); obtain rfl := sj h; exact Ends.eR V
theorem Z2F {t : Int} {r : Bool} (h : Zn t = r) : Fn CX 41 [(vi t)] (vb r) := by
 refine Fn.go Try.func41 V fun σ H => ?_; unfold Zn at h; refine .tR 1 V H fun b1 σ H => (.aV V (.nila H fun H => (.tR 7 V H fun b2 σ H => (.mV V (.iV V (.mV V ?_)))))); refine .md H 3 [(8, (vb ((decide (t ≥ (-1099511627776))) && (decide (t ≤ 1099511627776)))))] [] V ?_ fun e σ H => ?_
 ·refine .split V V ?_ ?_ <;> intro hc1
  ·refine .mV V (.iV V (.kT V (.nil ?_))); exact ⟨⟨Z2W hc1, U⟩, H.wk (by omega)⟩
  ·refine .ps 2 V (.kF V (.nil ?_)); exact ⟨⟨Z2X hc1, U⟩, H.wk (by omega)⟩
 refine .aV V (.nila H fun H => (.ret ?_)); subst h; exact Ends.eR V
theorem Z4B {l : (List Span)} {r : Bool} (h : Zw l = some r) : Fn CX 17 [(vl Span.cs l)] (vb r) := by
 refine Fn.go Try.func17 V fun σ H => ?_; unfold Zw at h; refine .tR 1 V H fun b1 σ H => (.aV V (.nila H fun H => (.then (.tR 3 V H fun b2 σ H => (.mV V (.nV V (.mV V (.nila H fun H => ?_)))))))); refine .inBlock ?_; obtain ⟨y1, hj1, h⟩ := bs h; obtain ⟨n1, hj1⟩ := ZI.1 hj1; refine .mono (Runs.loopO hj1 (fun s1 e σ => ZA e [(0, (vl Span.cs l)), (5, (vl Span.cs l)), (6, (vi (l.length : Int))), (7, (vi s1))] ∧ Hs σ []) (fun y1 x e σ => (∃ a1, y1 = (.go a1) ∧ x = .exit 0 ∧ ZA e [] ∧ Hs σ []) ∨ (∃ r', y1 = (.ret r') ∧ x = .ret ∧ Ends CX Try.f17.results.toList (vb r') x e σ)) ⟨EI V, H⟩ ?_) ?_
 ·intro s1 e σ hI z h; obtain ⟨he, H⟩ := hI; obtain ⟨e, rfl⟩ := he.ex; unfold Zw.s0 at h; refine .tR 1 V H fun b3 σ H => (.iV V (.nila H fun H => (.then ?_))); refine .wh h V ?_ ?_ <;> intro h
  ·refine .skip (.then (.inBlock (.tR 6 V H fun b4 σ H => (.mV V ?_)))); obtain ⟨x1, q1, h⟩ := bs h; refine .jV q1 V (.qV [(.int .i64 x1.From), (.int .i64 x1.To)] V (.Z0O (cs := [(vi 0), (vi 0)]) H (by omega) (by omega) V V fun σ H => (.aV V (.sV [(vi x1.From), (vi x1.To)] H 0 V fun σ H => (.nila H fun H => (.then (.Z1B 33 V (by kernel_rfl) H fun b5 σ H B5 => (.ZN H 0 V V V V V (fun _ => .inl ⟨B5 0 _ V _ V, nofun, (fun _ => by kernel_rfl)⟩) V ?_)))))))); refine .ld (vi x1.From) H 0 V V V V V (fun _ => .inl ⟨B5 0 _ V _ V, nofun, (fun _ => by kernel_rfl)⟩) V (.cV (Z2F V) V (.tV V (.mV V ?_))); refine .md H 5 [(21, (vb ((!(Zn x1.From)) || (!(Zn x1.To))))), (0, (vl Span.cs l)), (3, (vi s1)), (4, (.ptr (b4 + 3) 2 0)), (5, (vl Span.cs l)), (6, (vi (l.length : Int))), (7, (vi s1))] [.blk (b4 + 3) 43 [(vi x1.From), (vi x1.To)]] rfl ?_ fun e σ H => ?_
   ·refine .split V V ?_ ?_ <;> intro hc2
    ·refine .ps 4 V (.kT V (.nil ?_)); exact ⟨⟨or_T hc2, V, V, V, V, V, V, U⟩, H.wk (by omega)⟩
    ·refine .wt V V (.ZN H 0 V V V V V (fun _ => .inl ⟨B5 0 _ V _ V, nofun, (fun _ => by kernel_rfl)⟩) V (.wt V V (.ld (vi x1.To) H 0 V V V V V (fun _ => .inl ⟨B5 0 _ V _ V, nofun, (fun _ => by kernel_rfl)⟩) V (.cV (Z2F V) V (.tV V (.kF V (.nil ?_))))))); exact ⟨⟨or_F hc2, V, V, V, V, V, V, U⟩, H.wk (by omega)⟩
   refine .mV V ?_; refine .md H 6 [(28, (vb (((!(Zn x1.From)) || (!(Zn x1.To))) || (decide (x1.From > x1.To))))), (0, (vl Span.cs l)), (3, (vi s1)), (4, (.ptr (b4 + 3) 2 0)), (5, (vl Span.cs l)), (6, (vi (l.length : Int))), (7, (vi s1))] [.blk (b4 + 3) 43 [(vi x1.From), (vi x1.To)]] rfl ?_ fun e σ H => ?_
   ·refine .split V V ?_ ?_ <;> intro hc3
    ·refine .ps 5 V (.kT V (.nil ?_)); exact ⟨⟨or_T hc3, V, V, V, V, V, V, U⟩, H.wk (by omega)⟩
    ·refine .wt V V (.ZN H 0 V V V V V (fun _ => .inl ⟨B5 0 _ V _ V, nofun, (fun _ => by kernel_rfl)⟩) V (.wt V V (.ld (vi x1.From) H 0 V V V V V (fun _ => .inl ⟨B5 0 _ V _ V, nofun, (fun _ => by kernel_rfl)⟩) V (.wt V V (.ZN H 0 V V V V V (fun _ => .inl ⟨B5 0 _ V _ V, nofun, (fun _ => by kernel_rfl)⟩) V (.wt V V (.ld (vi x1.To) H 0 V V V V V (fun _ => .inl ⟨B5 0 _ V _ V, nofun, (fun _ => by kernel_rfl)⟩) V (.iV V ?_)))))))); refine .kF V (.nil ?_); exact ⟨⟨or_F hc3, V, V, V, V, V, V, U⟩, H.wk (by omega)⟩
   refine .mV V ?_; obtain ⟨y2, hj2, h⟩ := bs h; refine .md H 15 [(44, (vb y2)), (0, (vl Span.cs l)), (5, (vl Span.cs l)), (6, (vi (l.length : Int))), (7, (vi s1))] [] V ?_ fun e σ H => ?_
   ·refine .sp hj2 V ?_ ?_ <;> intro h
    ·refine .ps 14 V (.kT V (.nil ?_)); obtain rfl := sj h; exact ⟨EI V, (H.erase 0).wk (by omega)⟩
    refine .mV V (.iV V (.mV V ?_)); obtain ⟨y3, hj3, h⟩ := bs h; refine .md H 11 [(43, (vb y3)), (0, (vl Span.cs l)), (5, (vl Span.cs l)), (6, (vi (l.length : Int))), (7, (vi s1)), (29, (vb false))] [] V ?_ fun e σ H => ?_
    ·refine .sp hj3 V ?_ ?_ <;> intro h
     ·refine .wt V V (.ZN H 0 V V V V V (fun _ => .inl ⟨B5 0 _ V _ V, nofun, (fun _ => by kernel_rfl)⟩) V (.wt V V (.ld (vi x1.From) H 0 V V V V V (fun _ => .inl ⟨B5 0 _ V _ V, nofun, (fun _ => by kernel_rfl)⟩) V (.mV V (.mV V (.iV V (.wt V V ?_))))))); obtain ⟨x2, q2, h⟩ := bs h; refine .jV q2 V (.wt V V (.Z0d V V V V (.pV V (.iV V (.iV V (.kT V (.nil ?_))))))); obtain rfl := sj h; exact ⟨EI V, (H.erase 0).wk (by omega)⟩
     refine .ps 10 V (.kF V (.nil ?_)); obtain rfl := sj h; exact ⟨EI V, (H.erase 0).wk (by omega)⟩
    refine .kF V (.nil ?_); obtain rfl := sj h; exact ⟨EI V, H.wk (by omega)⟩
   refine .nila H fun H => ?_; refine .wh h V ?_ ?_ <;> intro h
   ·refine .tR 1 V H fun b6 σ H => (.aV V (.nila H fun H => (.ret ?_))); obtain rfl := sj h; exact ⟨nofun, (.inr ⟨_, V, V, (Ends.H (xs := [(vb false)]) (.inr V) H (.tmp (v := (vb false)) V .nil) (.one (.c (.v _))))⟩)⟩
   refine .skip (.ZM 2 V H fun b7 σ H => (.iV V (.mV V (.nila H fun H => ?_)))); obtain rfl := sj h; exact ⟨V, EI V, H⟩
  refine .exit ?_; obtain rfl := sj h; exact ⟨nofun, (.inl ⟨_, V, V, U, H⟩)⟩
 ·rintro x e σ (⟨a2, rfl, rfl, he, H⟩ | ⟨r', rfl, rfl, hE⟩)
  ·replace h := jgo h; obtain ⟨e, rfl⟩ := he.ex; refine .tR 1 V H fun b8 σ H => (.aV V (.nila H fun H => (.ret ?_))); obtain rfl := sj h; exact Ends.eR V
  ·replace h := jret h; obtain rfl := sj h; exact hE
theorem Z2S {i : Int} {r : Bool} (h : Z0h i = r) : Fn CX 39 [(vi i)] (vb r) := by
 refine Fn.go Try.func39 V fun σ H => ?_; unfold Z0h at h; refine .tR 1 V H fun b1 σ H => (.aV V (.nila H fun H => (.tR 7 V H fun b2 σ H => (.mV V (.iV V (.mV V ?_)))))); refine .md H 3 [(8, (vb ((decide (i ≥ (-1099511627776))) && (decide (i ≤ 1099511627776)))))] [] V ?_ fun e σ H => ?_
 ·refine .split V V ?_ ?_ <;> intro hc1
  ·refine .mV V (.iV V (.kT V (.nil ?_))); exact ⟨⟨Z2W hc1, U⟩, H.wk (by omega)⟩
  ·refine .ps 2 V (.kF V (.nil ?_)); exact ⟨⟨Z2X hc1, U⟩, H.wk (by omega)⟩
 refine .aV V (.nila H fun H => (.ret ?_)); subst h; exact Ends.eR V
theorem gran_shape_fn {f : Form} {r : Bool} (h : Zf f = some r) : Fn CX 56 [(.agg (vs (Form.cs f)))] (vb r) := by
 refine Fn.go Try.func56 V fun σ H => ?_; unfold Zf at h; refine .tR 2 V H fun b1 σ H => (.boxH (cs := (vF f)) H (by omega) (by omega) V V V fun σ H => (.aV V (.nila H fun H => (.then (.tR 25 V H fun b2 σ H => (.fV H 0 V (.lV H 0 V (.fV H 0 V ?_)))))))); refine .lV H 0 V (.nV V (.iV V (.mV V ?_))); refine .md H 8 [(21, (vb ((f.Count != (f.Core.length : Int)) || ((f.Count == 0) != (f.Period == 0))))), (1, (.ptr (b1 + 0) 4 0))] [.blk (b1 + 0) 25 (vF f)] rfl ?_ fun e σ H => ?_
 ·refine .split V V ?_ ?_ <;> intro hc1
  ·refine .ps 7 V (.kT V (.nil ?_)); exact ⟨⟨or_T hc1, V, U⟩, H.wk (by omega)⟩
  ·refine .fV H 0 V (.lV H 0 V (.iV V (.fV H 0 V (.lV H 0 V (.iV V (.wt V V (.neB (b := (f.Count == 0)) (b' := (f.Period == 0)) V V V V (.kF V ?_)))))))); refine .nil ?_; exact ⟨⟨or_F hc1, V, U⟩, H.wk (by omega)⟩
 refine .mV V ?_; refine .md H 4 [(26, (vb (((f.Count != (f.Core.length : Int)) || ((f.Count == 0) != (f.Period == 0))) || (decide (f.Period < 0))))), (1, (.ptr (b1 + 0) 4 0))] [.blk (b1 + 0) 25 (vF f)] rfl ?_ fun e σ H => ?_
 ·refine .split V V ?_ ?_ <;> intro hc2
  ·refine .ps 3 V (.kT V (.nil ?_)); exact ⟨⟨or_T hc2, V, U⟩, H.wk (by omega)⟩
  ·refine .fV H 0 V (.lV H 0 V (.iV V (.kF V (.nil ?_)))); exact ⟨⟨or_F hc2, V, U⟩, H.wk (by omega)⟩
 refine .mV V ?_; refine .md H 4 [(31, (vb ((((f.Count != (f.Core.length : Int)) || ((f.Count == 0) != (f.Period == 0))) || (decide (f.Period < 0))) || (decide (f.Period > 1099511627776))))), (1, (.ptr (b1 + 0) 4 0))] [.blk (b1 + 0) 25 (vF f)] rfl ?_ fun e σ H => ?_
 ·refine .split V V ?_ ?_ <;> intro hc3
  ·refine .ps 3 V (.kT V (.nil ?_)); exact ⟨⟨or_T hc3, V, U⟩, H.wk (by omega)⟩
  ·refine .fV H 0 V (.lV H 0 V (.iV V (.kF V (.nil ?_)))); exact ⟨⟨or_F hc3, V, U⟩, H.wk (by omega)⟩
 refine .nila H fun H => ?_; refine .wh h V ?_ ?_ <;> intro h
 ·refine .tR 1 V H fun b3 σ H => (.aV V (.nila H fun H => (.ret ?_))); obtain rfl := sj h; exact Ends.eR V
 refine .skip (.then (.tR 4 V H fun b4 σ H => (.fV H 0 V (.lV H 0 V (.nV V (.mV V (.nila H fun H => (.inBlock ?_)))))))); obtain ⟨y1, hj1, h⟩ := bs h; obtain ⟨n1, hj1⟩ := ZI.1 hj1; refine .mono (Runs.loopO hj1 (fun s1 e σ => ZA e [(1, (.ptr (b1 + 0) 4 0)), (33, (vl (cL Span.cs) f.Core)), (34, (vi (f.Core.length : Int))), (35, (vi s1))] ∧ Hs σ [.blk (b1 + 0) 25 (vF f)]) (fun y1 x e σ => (∃ a1, y1 = (.go a1) ∧ x = .exit 0 ∧ ZA e [(1, (.ptr (b1 + 0) 4 0))] ∧ Hs σ [.blk (b1 + 0) 25 (vF f)]) ∨ (∃ r', y1 = (.ret r') ∧ x = .ret ∧ Ends CX Try.f56.results.toList (vb r') x e σ)) ⟨EI V, H⟩ ?_) ?_
 ·intro s1 e σ hI z h; obtain ⟨he, H⟩ := hI; obtain ⟨e, rfl⟩ := he.ex; unfold Zf.s0 at h; refine .tR 1 V H fun b5 σ H => (.iV V (.nila H fun H => (.then ?_))); refine .wh h V ?_ ?_ <;> intro h
  ·refine .skip (.then (.inBlock (.tR 3 V H fun b6 σ H => ?_))); obtain ⟨x1, q1, h⟩ := bs h; refine .jV q1 V (.pV V (.aV V (.nila H fun H => (.tR 3 V H fun b7 σ H => (.mV V ?_))))); obtain ⟨x2, q2, h⟩ := bs h; refine .cV (Z4B q2) V (.tV V (.nila H fun H => ?_)); refine .wh h V ?_ ?_ <;> intro h
   ·refine .tR 1 V H fun b8 σ H => (.aV V (.nila H fun H => (.ret ?_))); obtain rfl := sj h; exact ⟨nofun, (.inr ⟨_, V, V, (Ends.H (xs := [(vb false)]) (.inr V) H (.tmp (v := (vb false)) V .nil) (.one (.c (.v _))))⟩)⟩
   refine .skip (.ZM 2 V H fun b9 σ H => (.iV V (.mV V (.nila H fun H => ?_)))); obtain rfl := sj h; exact ⟨V, EI V, H⟩
  refine .exit ?_; obtain rfl := sj h; exact ⟨nofun, (.inl ⟨_, V, V, EI V, H⟩)⟩
 ·rintro x e σ (⟨a2, rfl, rfl, he, H⟩ | ⟨r', rfl, rfl, hE⟩)
  ·replace h := jgo h; obtain ⟨e, rfl⟩ := he.ex; refine .then (.tR 4 V H fun b10 σ H => (.fV H 0 V (.lV H 0 V (.nV V (.mV V (.nila H fun H => (.inBlock ?_))))))); obtain ⟨y2, hj2, h⟩ := bs h; obtain ⟨n2, hj2⟩ := ZI.1 hj2; refine .mono (Runs.loopO hj2 (fun s2 e σ => ZA e [(1, (.ptr (b1 + 0) 4 0)), (44, (vl Granule.cs f.Odd)), (45, (vi (f.Odd.length : Int))), (46, (vi s2))] ∧ Hs σ [.blk (b1 + 0) 25 (vF f)]) (fun y2 x e σ => (∃ a3, y2 = (.go a3) ∧ x = .exit 2 ∧ ZA e [] ∧ Hs σ []) ∨ (∃ r', y2 = (.ret r') ∧ x = .ret ∧ Ends CX Try.f56.results.toList (vb r') x e σ)) ⟨EI V, H⟩ ?_) ?_
   ·intro s2 e σ hI z h; obtain ⟨he, H⟩ := hI; obtain ⟨e, rfl⟩ := he.ex; unfold Zf.s1 at h; refine .tR 1 V H fun b11 σ H => (.iV V (.nila H fun H => (.then ?_))); refine .wh h V ?_ ?_ <;> intro h
    ·refine .skip (.then (.inBlock (.tR 6 V H fun b12 σ H => (.mV V ?_)))); obtain ⟨x3, q3, h⟩ := bs h; refine .jV q3 V (.qV [(.int .i64 x3.Index), (.sl (x3.Ticks.map Span.cs))] V (.Z0O (cs := [(vi 0), .nils]) H (by omega) (by omega) V V fun σ H => (.aV V (.sV [(vi x3.Index), (vl Span.cs x3.Ticks)] H 0 V fun σ H => (.nila H fun H => (.then (.Z1B 26 V (by kernel_rfl) H fun b13 σ H B13 => (.ZN H 0 V V V V V (fun _ => .inl ⟨B13 0 _ V _ V, nofun, (fun _ => by kernel_rfl)⟩) V ?_)))))))); refine .ld (vl Span.cs x3.Ticks) H 0 V V V V V (fun _ => .inl ⟨B13 0 _ V _ V, nofun, (fun _ => by kernel_rfl)⟩) V ?_; obtain ⟨x4, q4, h⟩ := bs h; refine .cV (Z4B q4) V (.tV V (.mV V ?_)); refine .md H 5 [(60, (vb ((!x4) || (!(Z0h x3.Index))))), (1, (.ptr (b1 + 0) 4 0)), (5, (vi s2)), (6, (.ptr (b12 + 3) 2 0)), (44, (vl Granule.cs f.Odd)), (45, (vi (f.Odd.length : Int))), (46, (vi s2))] [.blk (b12 + 3) 45 [(vi x3.Index), (vl Span.cs x3.Ticks)], .blk (b1 + 0) 25 (vF f)] rfl ?_ fun e σ H => ?_
     ·refine .split V V ?_ ?_ <;> intro hc8
      ·refine .ps 4 V (.kT V (.nil ?_)); exact ⟨⟨or_T hc8, V, V, V, V, V, V, U⟩, H.wk (by omega)⟩
      ·refine .wt V V (.ZN H 0 V V V V V (fun _ => .inl ⟨B13 0 _ V _ V, nofun, (fun _ => by kernel_rfl)⟩) V (.wt V V (.ld (vi x3.Index) H 0 V V V V V (fun _ => .inl ⟨B13 0 _ V _ V, nofun, (fun _ => by kernel_rfl)⟩) V (.cV (Z2S V) V (.tV V (.kF V (.nil ?_))))))); exact ⟨⟨or_F hc8, V, V, V, V, V, V, U⟩, H.wk (by omega)⟩
     refine .mV V ?_; obtain ⟨y3, hj3, h⟩ := bs h; refine .md H 15 [(76, (vb y3)), (1, (.ptr (b1 + 0) 4 0)), (44, (vl Granule.cs f.Odd)), (45, (vi (f.Odd.length : Int))), (46, (vi s2))] [.blk (b1 + 0) 25 (vF f)] V ?_ fun e σ H => ?_
     ·refine .sp hj3 V ?_ ?_ <;> intro h
      ·refine .ps 14 V (.kT V (.nil ?_)); obtain rfl := sj h; exact ⟨EI V, (H.erase 0).wk (by omega)⟩
      refine .mV V (.iV V (.mV V ?_)); obtain ⟨y4, hj4, h⟩ := bs h; refine .md H 11 [(75, (vb y4)), (1, (.ptr (b1 + 0) 4 0)), (44, (vl Granule.cs f.Odd)), (45, (vi (f.Odd.length : Int))), (46, (vi s2)), (61, (vb false))] [.blk (b1 + 0) 25 (vF f)] V ?_ fun e σ H => ?_
      ·refine .sp hj4 V ?_ ?_ <;> intro h
       ·refine .wt V V (.ZN H 0 V V V V V (fun _ => .inl ⟨B13 0 _ V _ V, nofun, (fun _ => by kernel_rfl)⟩) V (.wt V V (.ld (vi x3.Index) H 0 V V V V V (fun _ => .inl ⟨B13 0 _ V _ V, nofun, (fun _ => by kernel_rfl)⟩) V (.wt V V (.ZN H 1 V V V V V (fun _ => .inl ⟨B13 1 _ V _ V, nofun, (fun _ => by kernel_rfl)⟩) V (.wt V V (.ld (vl Granule.cs f.Odd) H 1 V V V V V (fun _ => .inl ⟨B13 1 _ V _ V, nofun, (fun _ => by kernel_rfl)⟩) V (.mV V ?_)))))))); refine .iV V (.wt V V ?_); obtain ⟨x5, q5, h⟩ := bs h; refine .jV q5 V (.wt V V (.Z0d V V V V (.pV V (.iV V (.kT V (.nil ?_)))))); obtain rfl := sj h; exact ⟨EI V, (H.erase 0).wk (by omega)⟩
       refine .ps 10 V (.kF V (.nil ?_)); obtain rfl := sj h; exact ⟨EI V, (H.erase 0).wk (by omega)⟩
      refine .kF V (.nil ?_); obtain rfl := sj h; exact ⟨EI V, H.wk (by omega)⟩
     refine .nila H fun H => ?_; refine .wh h V ?_ ?_ <;> intro h
     ·refine .tR 1 V H fun b14 σ H => (.aV V (.nila H fun H => (.ret ?_))); obtain rfl := sj h; exact ⟨nofun, (.inr ⟨_, V, V, (Ends.H (xs := [(vb false)]) (.inr V) H (.tmp (v := (vb false)) V .nil) (.one (.c (.v _))))⟩)⟩
     refine .skip (.ZM 2 V H fun b15 σ H => (.iV V (.mV V (.nila H fun H => ?_)))); obtain rfl := sj h; exact ⟨V, EI V, H⟩
    refine .exit ?_; obtain rfl := sj h; exact ⟨nofun, (.inl ⟨_, V, V, U, (H.erase 0)⟩)⟩
   ·rintro x e σ (⟨a4, rfl, rfl, he, H⟩ | ⟨r', rfl, rfl, hE⟩)
    ·replace h := jgo h; obtain ⟨e, rfl⟩ := he.ex; refine .tR 1 V H fun b16 σ H => (.aV V (.nila H fun H => (.ret ?_))); obtain rfl := sj h; exact Ends.eR V
    ·replace h := jret h; obtain rfl := sj h; exact hE
  ·replace h := jret h; obtain rfl := sj h; exact hE
theorem gran_turns_fn {f : Form} {r : Bool} (h : Z00 f = some r) : Fn CX 57 [(.agg (vs (Form.cs f)))] (vb r) := by
 refine Fn.go Try.func57 V fun σ H => ?_; unfold Z00 at h; refine .tR 2 V H fun b1 σ H => (.boxH (cs := (vF f)) H (by omega) (by omega) V V V fun σ H => (.aV V (.nila H fun H => (.tR 1 V H fun b2 σ H => (.a1 .nils V V (.nila H fun H => (.then (.tR 4 V H fun b3 σ H => ?_)))))))); refine .fV H 0 V (.lV H 0 V (.nV V (.mV V (.nila H fun H => (.inBlock ?_))))); replace H := H.pushNil 31 1 true; obtain ⟨y1, hj1, h⟩ := bs h; obtain ⟨n1, hj1⟩ := ZI.1 hj1; refine .mono (Runs.loopO hj1 (fun s2 e σ => ∃ (w3 : PV), ZA e [(1, (.ptr (b1 + 0) 4 0)), (3, w3), (11, (vl (cL Span.cs) f.Core)), (12, (vi (f.Core.length : Int))), (13, (vi s2.1))] ∧ Hs σ [.sl w3 31 1 (s2.2.map (cL Span.cs)) true, .blk (b1 + 0) 25 (vF f)]) (fun y1 x e σ => ∃ (w4 : PV), x = .exit 0 ∧ ZA e [(1, (.ptr (b1 + 0) 4 0)), (3, w4)] ∧ Hs σ [.sl w4 31 1 (y1.map (cL Span.cs)) true, .blk (b1 + 0) 25 (vF f)]) ⟨.nils, EI V, H⟩ ?_) ?_
 ·intro s2 e σ hI z h; obtain ⟨w3, he, H⟩ := hI; obtain ⟨e, rfl⟩ := he.ex; unfold Z00.s0 at h; refine .tR 1 V H fun b4 σ H => (.iV V (.nila H fun H => (.then ?_))); refine .wh h V ?_ ?_ <;> intro h
  ·refine .skip (.then ?_); obtain ⟨y2, hj2, h⟩ := bs h; refine .mono (Q := fun x e σ => ∃ (w5 : PV), x = .normal ∧ ZA e [(1, (.ptr (b1 + 0) 4 0)), (3, w5), (11, (vl (cL Span.cs) f.Core)), (12, (vi (f.Core.length : Int))), (13, (vi s2.1))] ∧ Hs σ [.sl w5 31 1 (y2.map (cL Span.cs)) true, .blk (b1 + 0) 25 (vF f)]) ?_ ?_
   ·replace h := hj2; refine .inBlock ?_; obtain ⟨y3, hj3, h⟩ := bs h; refine .mono (Q := fun x e σ => ∃ (w6 : PV), x = .normal ∧ ZA e [(1, (.ptr (b1 + 0) 4 0)), (3, w6), (11, (vl (cL Span.cs) f.Core)), (12, (vi (f.Core.length : Int))), (13, (vi s2.1))] ∧ Hs σ [.sl w6 31 1 (y3.map (cL Span.cs)) true, .blk (b1 + 0) 25 (vF f)]) ?_ ?_
    ·replace h := hj3; refine .tR 3 V H fun b5 σ H => ?_; obtain ⟨x1, q1, h⟩ := bs h; refine .jV q1 V (.pV V (.aV V (.nila H fun H => (.tR 3 V H fun b6 σ H => (.mV V (.nV V (.iV V (.nila H fun H => ?_)))))))); refine .wh h V ?_ ?_ <;> intro h
     ·refine .ZM 5 V H fun b7 σ H => (.m1 w3 V V (.mV V (.Z2R (sz := 1) ([x1].map (cL Span.cs)) H (by omega) (by omega) V V V V V V V V V fun σ H => ?_))); obtain ⟨x2, q2, h⟩ := bs h; refine .Z17 (c := (cL Span.cs)) (v := w3) (w := (.buf (b7 + 2) 1 1)) (xs := s2.2) (ys := [x1]) H (by omega) (by omega) 1 V V V (.s 0 V) q2 V V V V V nofun V fun w7 σ H => (.a1 w7 V V (.nila H fun H => ?_)); obtain rfl := sj h; exact ⟨w7, V, EI V, (H.erase 0)⟩
     refine .skip ?_; obtain rfl := sj h; exact ⟨w3, V, EI V, H⟩
    ·rintro x e σ ⟨w8, rfl, he, H⟩; obtain ⟨e, rfl⟩ := he.ex; obtain rfl := sj h; exact ⟨w8, V, EI V, H⟩
   ·rintro x e σ ⟨w9, rfl, he, H⟩; obtain ⟨e, rfl⟩ := he.ex; refine .ZM 2 V H fun b8 σ H => (.iV V (.mV V (.nila H fun H => ?_))); obtain rfl := sj h; exact ⟨V, w9, EI V, H⟩
  refine .exit ?_; obtain rfl := sj h; exact ⟨nofun, ⟨w3, V, EI V, H⟩⟩
 ·rintro x e σ ⟨w10, rfl, he, H⟩; obtain ⟨e, rfl⟩ := he.ex; refine .then (.tR 3 V H fun b9 σ H => (.m1 w10 V V (.lenSt (c := (cL Span.cs)) (xs := y1) H 0 V V V nofun V (.mV V (.nila H fun H => (.inBlock ?_)))))); obtain ⟨y4, hj4, h⟩ := bs h; obtain ⟨n2, hj4⟩ := ZI.1 hj4; refine .mono (Runs.loopO hj4 (fun s3 e σ => ∃ (w13 : PV), ZA e [(1, (.ptr (b1 + 0) 4 0)), (3, w13), (25, w13), (26, (vi (y1.length : Int))), (27, (vi s3))] ∧ Hs σ [.sl w13 31 1 (y1.map (cL Span.cs)) true, .blk (b1 + 0) 25 (vF f)]) (fun y4 x e σ => (∃ a1, y4 = (.go a1) ∧ x = .exit 2 ∧ ZA e [] ∧ Hs σ []) ∨ (∃ r', y4 = (.ret r') ∧ x = .ret ∧ Ends CX Try.f57.results.toList (vb r') x e σ)) ⟨w10, EI V, H⟩ ?_) ?_
  ·intro s3 e σ hI z h; obtain ⟨w13, he, H⟩ := hI; obtain ⟨e, rfl⟩ := he.ex; unfold Z00.s1 at h; refine .tR 1 V H fun b10 σ H => (.iV V (.nila H fun H => (.then ?_))); refine .wh h V ?_ ?_ <;> intro h
   ·refine .skip (.then ?_); obtain ⟨y5, hj5, h⟩ := bs h; refine .mono (Q := fun x e σ => (∃ a2, ∃ (w14 : PV), y5 = (.go a2) ∧ x = .normal ∧ ZA e [(1, (.ptr (b1 + 0) 4 0)), (3, w14), (25, w14), (26, (vi (y1.length : Int))), (27, (vi s3))] ∧ Hs σ [.sl w14 31 1 (y1.map (cL Span.cs)) true, .blk (b1 + 0) 25 (vF f)]) ∨ (∃ r', y5 = (.ret r') ∧ x = .ret ∧ Ends CX Try.f57.results.toList (vb r') x e σ)) ?_ ?_
    ·replace h := hj5; refine .inBlock ?_; obtain ⟨y6, hj6, h⟩ := bs h; refine .mono (Q := fun x e σ => (∃ a3, ∃ (w15 : PV), y6 = (.go a3) ∧ x = .normal ∧ ZA e [(1, (.ptr (b1 + 0) 4 0)), (3, w15), (25, w15), (26, (vi (y1.length : Int))), (27, (vi s3))] ∧ Hs σ [.sl w15 31 1 (y1.map (cL Span.cs)) true, .blk (b1 + 0) 25 (vF f)]) ∨ (∃ r', y6 = (.ret r') ∧ x = .ret ∧ Ends CX Try.f57.results.toList (vb r') x e σ)) ?_ ?_
     ·replace h := hj6; refine .tR 5 V H fun b11 σ H => (.mV V ?_); obtain ⟨x3, q3, h⟩ := bs h; refine .Z6J H 0 V V V (at?_map q3) V V nofun V ?_; intro id1 hv1; subst hv1; refine .loadS (id := id1) (j := 0) (w := (.sl (x3.map Span.cs))) H 0 V V (by simp) (at?_map q3) V (by simp) V V V nofun V ?_; refine .aV V (.aV V (.nila H fun H => (.tR 10 V H fun b12 σ H => (.mB V (.mV V (.iV V (.mB V (.lenSt (c := (cL Span.cs)) (xs := y1) H 0 V V V nofun V ?_)))))))); obtain ⟨u1, q4, h⟩ := bs h; refine .rem (m := (w64 (s3 + 1))) (m' := (y1.length : Int)) V V (nz_ne q4) V ?_; obtain ⟨x4, q5, h⟩ := bs h; refine .Z6J H 0 V V V (at?_map q5) V V nofun V ?_; intro id2 hv2; refine .loadS (id := id2) (j := 0) (w := (.sl (x4.map Span.cs))) H 0 V hv2 (by simp) (at?_map q5) V (by simp) V V V nofun V ?_; refine .aV V (.aV V (.nila H fun H => (.then ?_))); refine .jn h .normal (fun y7 => [(1, (.ptr (b1 + 0) 4 0)), (3, (.buf id1 (y1.map (cL Span.cs)).length 1)), (7, (vl Span.cs x3)), (8, (vl Span.cs x4)), (9, (vi y7)), (25, (.buf id1 (y1.map (cL Span.cs)).length 1)), (26, (vi (y1.length : Int))), (27, (vi s3))]) (fun y7 => [.sl (.buf id1 (y1.map (cL Span.cs)).length 1) 31 1 (y1.map (cL Span.cs)) true, .blk (b1 + 0) 25 (vF f)]) (fun y7 h => ?_) fun y7 e σ H h => ?_
      ·refine .tR 5 V H fun b13 σ H => (.mV V (.iV V (.mB V (.lenSt (c := (cL Span.cs)) (xs := y1) H 0 V V V nofun V (.iV V (.nila H fun H => ?_)))))); refine .wh h V ?_ ?_ <;> intro h
       ·refine .ZM 3 V H fun b14 σ H => (.fV H 1 V (.lV H 1 V (.aV V (.nila H fun H => ?_)))); obtain rfl := sj h; exact ⟨V, EI V, H⟩
       refine .skip ?_; obtain rfl := sj h; exact ⟨V, EI V, H⟩
      refine .then (.Z1B 14 V (by kernel_rfl) H fun b15 σ H B15 => (.mV V (.mV V (.nV V (.iV V ?_))))); obtain ⟨x5, q6, h⟩ := bs h; refine .jV q6 V (.Z0d V V V V (.pV V (.mV V ?_))); obtain ⟨x6, q7, h⟩ := bs h; refine .jV q7 V (.Z0d V V V V (.pV V (.mV V (.iV V (.iV V (.nila H fun H => ?_)))))); refine .wh h V ?_ ?_ <;> intro h
      ·refine .tR 1 V H fun b16 σ H => (.aV V (.nila H fun H => (.ret ?_))); obtain rfl := sj h; exact (.inr ⟨_, V, V, (Ends.H (xs := [(vb false)]) (.inr V) H (.tmp (v := (vb false)) V .nil) (.one (.c (.v _))))⟩)
      refine .skip ?_; obtain rfl := sj h; exact (.inl ⟨_, (.buf id1 (y1.map (cL Span.cs)).length 1), V, V, EI V, H⟩)
     ·rintro x e σ (⟨a4, w16, rfl, rfl, he, H⟩ | ⟨r', rfl, rfl, hE⟩)
      ·replace h := jgo h; obtain ⟨e, rfl⟩ := he.ex; obtain rfl := sj h; exact (.inl ⟨_, w16, V, V, EI V, H⟩)
      ·replace h := jret h; obtain rfl := sj h; exact (.inr ⟨_, V, V, hE⟩)
    ·rintro x e σ (⟨a5, w17, rfl, rfl, he, H⟩ | ⟨r', rfl, rfl, hE⟩)
     ·replace h := jgo h; obtain ⟨e, rfl⟩ := he.ex; refine .ZM 2 V H fun b17 σ H => (.iV V (.mV V (.nila H fun H => ?_))); obtain rfl := sj h; exact ⟨V, w17, EI V, H⟩
     ·replace h := jret h; obtain rfl := sj h; exact ⟨nofun, (.inr ⟨_, V, V, hE⟩)⟩
   refine .exit ?_; obtain rfl := sj h; exact ⟨nofun, (.inl ⟨_, V, V, U, ((H.erase 1).erase 0)⟩)⟩
  ·rintro x e σ (⟨a6, rfl, rfl, he, H⟩ | ⟨r', rfl, rfl, hE⟩)
   ·replace h := jgo h; obtain ⟨e, rfl⟩ := he.ex; refine .tR 1 V H fun b18 σ H => (.aV V (.nila H fun H => (.ret ?_))); obtain rfl := sj h; exact Ends.eR V
   ·replace h := jret h; obtain rfl := sj h; exact hE
theorem Z0j {x' : (List Granule)} {target : Int} {cmp : Granule → Int → Option Int} {C : List Res} {cv0 : PV} (hs0 : cv0.one = true) (hp0 : cv0.pure = true → C = []) (hf0 : ∀ z0 z1 y, cmp z0 z1 = some y → CloH CX cv0 [(.agg (vs (Granule.cs z0))), (vi z1)] (vi y) C) {r : Int × Bool} (h : Z2 x' target cmp = some r) : FnH CX 73 [(vl Granule.cs x'), (vi target), cv0] (.tup [(vi r.1), (vb r.2)]) C := by
 refine FnH.of Try.func73 V V V V (Z2V V (Z2V V (Z2V (Z2i hs0) all_nil))) V (fun h => hp0 (Z3y h 2 V)) ?_; intro σ L hC H; unfold Z2 at h; refine .tR 2 V H fun b1 σ H => (.aV V (.aV V (.nila H fun H => (.tR 3 V H fun b2 σ H => (.mV V (.nV V (.aV V (.nila H fun H => ?_)))))))); refine .tR 3 V H fun b3 σ H => (.mV V (.aV V (.aV V (.nila H fun H => (.then (.inBlock ?_)))))); refine .lp h (fun s1 => [(0, (vl Granule.cs x')), (1, (vi target)), (2, cv0), (8, (vi (x'.length : Int))), (9, (vi s1.1)), (10, (vi s1.2))]) (fun s1 => (L)) (.exit 0) (fun y1 => [(0, (vl Granule.cs x')), (1, (vi target)), (2, cv0), (8, (vi (x'.length : Int))), (9, (vi y1))]) (fun y1 => (L)) (EI V) H (fun s1 e σ H z h => ?_) fun y1 e σ H h => ?_
 ·unfold Z2.s0 at h; refine .then (.tR 3 V H fun b4 σ H => (.mV V (.mV V (.iV V (.nila H fun H => ?_))))); refine .wh h V ?_ ?_ <;> intro h
  ·refine .skip (.inBlock ?_); refine .jn h .normal (fun y2 => [(0, (vl Granule.cs x')), (1, (vi target)), (2, cv0), (8, (vi (x'.length : Int))), (9, (vi y2.1)), (10, (vi y2.2))]) (fun y2 => (L)) (fun y2 h => ?_) fun y2 e σ H h => ?_
   ·refine .tR 7 V H fun b5 σ H => (.mV V (.mV V (.iV V (.conv (m := (w64 (s1.1 + s1.2))) V V V V (.shr (m := (IntKind.u64.wrap (w64 (s1.1 + s1.2)))) (m' := 1) V V (by decide) V (.conv (m := ((IntKind.u64.wrap (w64 (s1.1 + s1.2))).fdiv (2 ^ 1))) V V V V (.aV V (.nila H fun H => ?_)))))))); refine .tR 8 V H fun b6 σ H => (.m1 cv0 V V (.mV V (.mV V ?_))); obtain ⟨x1, q1, h⟩ := bs h; refine .jV q1 V (.qV [(.int .i64 x1.Index), (.sl (x1.Ticks.map Span.cs))] V (.mV V ?_)); obtain ⟨x2, q2, h⟩ := bs h; refine .callV (cv := cv0) (ys := [(.agg (vs (Granule.cs x1))), (vi target)]) (r := (vi x2)) H V V (hf0 x1 target _ q2) hC nofun V fun σ H => (.iV V (.nila H fun H => ?_)); refine .wh h V ?_ ?_ <;> intro h
    ·refine .ZM 3 V H fun b7 σ H => (.mV V (.iV V (.aV V (.nila H fun H => ?_)))); obtain rfl := sj h; exact ⟨V, EI V, H⟩
    refine .ZM 2 V H fun b8 σ H => (.mV V (.aV V (.nila H fun H => ?_))); obtain rfl := sj h; exact ⟨V, EI V, H⟩
   obtain rfl := sj h; exact ⟨V, EI V, H⟩
  refine .exit ?_; obtain rfl := sj h; exact ⟨nofun, ⟨V, EI V, H⟩⟩
 refine .tR 16 V H fun b9 σ H => (.mV V (.mV V (.mV V (.iV V (.mV V ?_))))); obtain ⟨y3, hj3, h⟩ := bs h; refine .md H 9 [(48, (vb y3)), (35, (vi y1))] (L) V ?_ fun e σ H => ?_
 ·refine .sp hj3 V ?_ ?_ <;> intro h
  ·refine .m1 cv0 V V (.mV V (.mV V (.wt V V ?_))); obtain ⟨x3, q3, h⟩ := bs h; refine .jV q3 V (.qV [(.int .i64 x3.Index), (.sl (x3.Ticks.map Span.cs))] V (.mV V (.wt V V ?_))); obtain ⟨x4, q4, h⟩ := bs h; refine .callV (cv := cv0) (ys := [(.agg (vs (Granule.cs x3))), (vi target)]) (r := (vi x4)) H V V (hf0 x3 target _ q4) hC nofun V fun σ H => (.iV V (.kT V (.nil ?_))); obtain rfl := sj h; exact ⟨EI V, H.wk (by omega)⟩
  refine .ps 8 V (.kF V (.nil ?_)); obtain rfl := sj h; exact ⟨EI V, H.wk (by omega)⟩
 refine .aV V (.aV V (.nila H fun H => (.ret ?_))); obtain rfl := sj h; exact (EndsH.H (xs := [(vi y1), (vb y3)]) (.inr V) H (.tmp (v := (vi y1)) V (.tmp (v := (vb y3)) V .nil)) (.two (.cons (.c (.v _)) (.cons (.c (.v _)) .nil))) 0 V)
theorem Z3Z {x' : Int} {r : Bool} (h : Z1A x' = r) : Fn CX 83 [(vi x')] (vb r) := by
 refine Fn.go Try.func83 V fun σ H => ?_; unfold Z1A at h; refine .tR 1 V H fun b1 σ H => (.aV V (.nila H fun H => (.tR 4 V H fun b2 σ H => (.mV V (.mV V (.iV V (.aV V (.nila H fun H => ?_)))))))); refine .ret ?_; subst h; exact Ends.eR V
theorem Z59 {x' : Int} {y : Int} {r : Int} (h : Z16 x' y = r) : Fn CX 75 [(vi x'), (vi y)] (vi r) := by
 refine Fn.go Try.func75 V fun σ H => ?_; unfold Z16 at h; refine .tR 1 V H fun b1 σ H => (.aV V (.nila H fun H => (.tR 3 V H fun b2 σ H => (.mV V (.cV (Z3Z V) V (.aV V (.nila H fun H => (.tR 3 V H fun b3 σ H => ?_)))))))); refine .mV V (.cV (Z3Z V) V (.aV V (.nila H fun H => (.then (.tR 1 V H fun b4 σ H => (.mV V (.nila H fun H => ?_))))))); refine .wh h V ?_ ?_ <;> intro h
 ·refine .then (.tR 1 V H fun b5 σ H => (.mV V (.nila H fun H => ?_))); refine .wh h V ?_ ?_ <;> intro h
  ·refine .tR 1 V H fun b6 σ H => (.aV V (.nila H fun H => (.ret ?_))); subst h; exact Ends.eR V
  refine .skip (.tR 1 V H fun b7 σ H => (.aV V (.nila H fun H => (.ret ?_)))); subst h; exact Ends.eR V
 refine .skip (.then (.tR 1 V H fun b8 σ H => (.mV V (.nila H fun H => ?_)))); refine .wh h V ?_ ?_ <;> intro h
 ·refine .tR 1 V H fun b9 σ H => (.aV V (.nila H fun H => (.ret ?_))); subst h; exact Ends.eR V
 refine .skip (.then (.tR 3 V H fun b10 σ H => (.mV V (.mV V (.iV V (.nila H fun H => ?_)))))); refine .wh h V ?_ ?_ <;> intro h
 ·refine .tR 1 V H fun b11 σ H => (.aV V (.nila H fun H => (.ret ?_))); subst h; exact Ends.eR V
 refine .skip (.then (.tR 3 V H fun b12 σ H => (.mV V (.mV V (.iV V (.nila H fun H => ?_)))))); refine .wh h V ?_ ?_ <;> intro h
 ·refine .tR 1 V H fun b13 σ H => (.aV V (.nila H fun H => (.ret ?_))); subst h; exact Ends.eR V
 refine .skip (.tR 1 V H fun b14 σ H => (.aV V (.nila H fun H => (.ret ?_)))); subst h; exact Ends.eR V
theorem gran_odd_1_fn {g : Granule} {i : Int} {r : Int} (h : Z28 g i = r) : Fn CX 74 [(.agg (vs (Granule.cs g))), (vi i)] (vi r) := by
 refine Fn.go Try.func74 V fun σ H => ?_; unfold Z28 at h; refine .tR 2 V H fun b1 σ H => (.boxH (cs := [(vi g.Index), (vl Span.cs g.Ticks)]) H (by omega) (by omega) V V V fun σ H => (.aV V (.nila H fun H => (.tR 5 V H fun b2 σ H => (.fV H 0 V (.lV H 0 V (.mV V (.cV (Z59 V) V ?_)))))))); refine .aV V (.nila H fun H => (.ret ?_)); subst h; exact Ends.eR V
theorem Z6Z {f : Form} {i : Int} {r : Int × Bool} (h : Z3a f i = some r) : Fn CX 60 [(.agg (vs (Form.cs f))), (vi i)] (.tup [(vi r.1), (vb r.2)]) := by
 refine Fn.go Try.func60 V fun σ H => ?_; unfold Z3a at h; refine .tR 3 V H fun b1 σ H => (.boxH (cs := (vF f)) H (by omega) (by omega) V V V fun σ H => (.aV V (.aV V (.nila H fun H => (.tR 8 V H fun b2 σ H => (.fV H 0 V (.lV H 0 V (.mV V ?_)))))))); obtain ⟨x1, q1, h⟩ := bs h; refine .callH (ys := [(vl Granule.cs f.Odd), (vi i), (.v (.fn 74))]) (r := (.tup [(vi x1.1), (vb x1.2)])) H V (Z0j (C := []) V (fun _ => V) (fun z0 z1 y hz => (CloH.fn (Fn.toH (gran_odd_1_fn (Option.some.inj hz)) _))) q1) .nil nofun V fun σ H => (.xV V (.xV V (.aV V (.aV V (.nila H fun H => (.ret ?_)))))); obtain rfl := sj h; exact Ends.eR V
theorem Z4t {a : Int} {b : Int} {r : Int × Int × Int} (h : Z1e a b = some r) : Fn CX 62 [(vi a), (vi b)] (.tup [(vi r.1), (vi r.2.1), (vi r.2.2)]) := by
 refine Fn.go Try.func62 V fun σ H => ?_; unfold Z1e at h; refine .tR 3 V H fun b1 σ H => (.aV V (.aV V (.aV V (.nila H fun H => (.then (.inBlock (.tR 3 V H fun b2 σ H => (.mV V ?_)))))))); refine .iV V (.aV V (.nila H fun H => ?_)); refine .wh h V ?_ ?_ <;> intro h
 ·refine .tR 3 V H fun b3 σ H => (.aV V (.aV V (.aV V (.nila H fun H => (.ret ?_))))); obtain rfl := sj h; exact Ends.eR V
 refine .tR 7 V H fun b4 σ H => (.mV V (.iV V (.mV V ?_))); refine .md H 3 [(18, (vb ((b == (-1)) && (a == (-9223372036854775808))))), (0, (vi a)), (1, (vi b))] [] V ?_ fun e σ H => ?_
 ·refine .split V V ?_ ?_ <;> intro hc2
  ·refine .mV V (.iV V (.kT V (.nil ?_))); exact ⟨⟨Z2W hc2, V, V, U⟩, H.wk (by omega)⟩
  ·refine .ps 2 V (.kF V (.nil ?_)); exact ⟨⟨Z2X hc2, V, V, U⟩, H.wk (by omega)⟩
 refine .aV V (.nila H fun H => ?_); refine .wh h V ?_ ?_ <;> intro h
 ·refine .tR 3 V H fun b5 σ H => (.aV V (.aV V (.aV V (.nila H fun H => (.ret ?_))))); obtain rfl := sj h; exact Ends.eR V
 refine .skip (.then (.Z1B 8 V (by kernel_rfl) H fun b6 σ H B6 => (.mV V (.mV V ?_)))); obtain ⟨u1, q1, h⟩ := bs h; refine .quo (m := a) (m' := b) V V (nz_ne q1) V (.mV V (.mV V ?_)); obtain ⟨u2, q2, h⟩ := bs h; refine .rem (m := a) (m' := b) V V (nz_ne q2) V (.aV V (.aV V (.nila H fun H => (.then ?_)))); refine .jn h .normal (fun y1 => [(7, (vi y1.1)), (8, (vi y1.2))]) (fun y1 => []) (fun y1 h => ?_) fun y1 e σ H h => ?_
 ·refine .tR 9 V H fun b7 σ H => (.mV V (.iV V (.mV V ?_))); refine .md H 6 [(33, (vb (((a.tmod b) != 0) && ((decide ((a.tmod b) < 0)) != (decide (b < 0)))))), (1, (vi b)), (7, (vi (w64 (a.tdiv b)))), (8, (vi (a.tmod b)))] [] V ?_ fun e σ H => ?_
  ·refine .split V V ?_ ?_ <;> intro hc4
   ·refine .mV V (.iV V (.mV V (.iV V (.wt V V (.neB (b := (decide ((a.tmod b) < 0))) (b' := (decide (b < 0))) V V V V (.kT V (.nil ?_))))))); exact ⟨⟨Z2W hc4, V, V, V, U⟩, H.wk (by omega)⟩
   ·refine .ps 5 V (.kF V (.nil ?_)); exact ⟨⟨Z2X hc4, V, V, V, U⟩, H.wk (by omega)⟩
  refine .nila H fun H => ?_; refine .wh h V ?_ ?_ <;> intro h
  ·refine .ZM 7 V H fun b8 σ H => (.mV V (.iV V (.mV V (.mV V (.iV V (.aV V (.aV V (.nila H fun H => ?_)))))))); obtain rfl := sj h; exact ⟨V, EI V, H⟩
  refine .skip ?_; obtain rfl := sj h; exact ⟨V, EI V, H⟩
 refine .tR 5 V H fun b9 σ H => (.mV V (.mV V (.aV V (.aV V (.aV V (.nila H fun H => (.ret ?_))))))); obtain rfl := sj h; exact Ends.eR V
theorem Z5h {a : Int} {r : Int} (h : Z0K a = r) : Fn CX 77 [(vi a)] (vu r) := by
 refine Fn.go Try.func77 V fun σ H => ?_; unfold Z0K at h; refine .tR 1 V H fun b1 σ H => (.aV V (.nila H fun H => (.then (.tR 2 V H fun b2 σ H => (.mV V (.iV V (.nila H fun H => ?_))))))); refine .wh h V ?_ ?_ <;> intro h
 ·refine .tR 4 V H fun b3 σ H => (.mV V (.conv (m := a) V V V V (.neg (m := (IntKind.u64.wrap a)) V V (.aV V (.nila H fun H => (.ret ?_)))))); subst h; exact Ends.eR V
 refine .skip (.tR 3 V H fun b4 σ H => (.mV V (.conv (m := a) V V V V (.aV V (.nila H fun H => (.ret ?_)))))); subst h; exact Ends.eR V
theorem Z53 {x' : Int} {y : Int} {r : Int × Int} (h : Z02 x' y = r) : Fn CX 76 [(vu x'), (vu y)] (.tup [(vu r.1), (vu r.2)]) := by
 refine Fn.go Try.func76 V fun σ H => ?_; unfold Z02 at h; refine .tR 2 V H fun b1 σ H => (.aV V (.aV V (.nila H fun H => (.tR 3 V H fun b2 σ H => (.mV V (.iV V (.aV V (.nila H fun H => ?_)))))))); refine .tR 3 V H fun b3 σ H => (.mV V (.shr (m := x') (m' := 32) V V (by decide) V (.aV V (.nila H fun H => (.tR 3 V H fun b4 σ H => (.mV V (.iV V (.aV V ?_)))))))); refine .nila H fun H => (.tR 3 V H fun b5 σ H => (.mV V (.shr (m := y) (m' := 32) V V (by decide) V (.aV V (.nila H fun H => (.tR 4 V H fun b6 σ H => (.mV V (.mV V ?_)))))))); refine .iV V (.aV V (.nila H fun H => (.tR 7 V H fun b7 σ H => (.mV V (.mV V (.iV V (.mV V (.shr (m := (IntKind.u64.wrap ((iAnd .u64 x' 4294967295) * (iAnd .u64 y 4294967295)))) (m' := 32) V V (by decide) V ?_)))))))); refine .iV V (.aV V (.nila H fun H => (.tR 3 V H fun b8 σ H => (.mV V (.iV V (.aV V (.nila H fun H => (.tR 3 V H fun b9 σ H => ?_)))))))); refine .mV V (.shr (m := (IntKind.u64.wrap ((IntKind.u64.wrap ((x'.fdiv (2 ^ 32)) * (iAnd .u64 y 4294967295))) + ((IntKind.u64.wrap ((iAnd .u64 x' 4294967295) * (iAnd .u64 y 4294967295))).fdiv (2 ^ 32))))) (m' := 32) V V (by decide) V (.aV V (.nila H fun H => (.tR 6 V H fun b10 σ H => (.mV V (.mV V (.mV V (.iV V ?_)))))))); refine .iV V (.aV V (.nila H fun H => (.tR 9 V H fun b11 σ H => (.mV V (.mV V (.iV V (.mV V (.iV V ?_)))))))); refine .mV V (.shr (m := (IntKind.u64.wrap ((iAnd .u64 (IntKind.u64.wrap ((IntKind.u64.wrap ((x'.fdiv (2 ^ 32)) * (iAnd .u64 y 4294967295))) + ((IntKind.u64.wrap ((iAnd .u64 x' 4294967295) * (iAnd .u64 y 4294967295))).fdiv (2 ^ 32)))) 4294967295) + (IntKind.u64.wrap ((iAnd .u64 x' 4294967295) * (y.fdiv (2 ^ 32))))))) (m' := 32) V V (by decide) V (.iV V (.aV V (.nila H fun H => (.tR 4 V H fun b12 σ H => (.mV V (.mV V (.iV V ?_))))))))
 refine .aV V (.nila H fun H => (.ret ?_)); subst h; exact Ends.eR V
theorem Z7U {n : Int} {minus : Bool} {r : Int × Int} (h : Z1k n minus = r) : Fn CX 78 [(vu n), (vb minus)] (.tup [(vi r.1), (vi r.2)]) := by
 refine Fn.go Try.func78 V fun σ H => ?_; unfold Z1k at h; refine .tR 2 V H fun b1 σ H => (.aV V (.aV V (.nila H fun H => (.then (.inBlock (.tR 6 V H fun b2 σ H => (.mV V (.mV V ?_)))))))); refine .md H 3 [(11, (vb (minus && (decide (n ≤ 9223372036854775808))))), (0, (vu n)), (1, (vb minus))] [] V ?_ fun e σ H => ?_
 ·refine .split V V ?_ ?_ <;> intro hc1
  ·refine .mV V (.iV V (.kT V (.nil ?_))); exact ⟨⟨Z2W hc1, V, V, U⟩, H.wk (by omega)⟩
  ·refine .ps 2 V (.kF V (.nil ?_)); exact ⟨⟨Z2X hc1, V, V, U⟩, H.wk (by omega)⟩
 refine .aV V (.nila H fun H => ?_); refine .wh h V ?_ ?_ <;> intro h
 ·refine .tR 5 V H fun b3 σ H => (.mV V (.neg (m := n) V V (.conv (m := (IntKind.u64.wrap (0 - n))) V V V V (.aV V (.aV V (.nila H fun H => (.ret ?_))))))); subst h; exact Ends.eR V
 refine .tR 7 V H fun b4 σ H => (.mV V (.tV V (.mV V ?_))); refine .md H 3 [(21, (vb ((!minus) && (decide (n ≤ 9223372036854775807))))), (0, (vu n))] [] V ?_ fun e σ H => ?_
 ·refine .split V V ?_ ?_ <;> intro hc3
  ·refine .mV V (.iV V (.kT V (.nil ?_))); exact ⟨⟨Z2W hc3, V, U⟩, H.wk (by omega)⟩
  ·refine .ps 2 V (.kF V (.nil ?_)); exact ⟨⟨Z2X hc3, V, U⟩, H.wk (by omega)⟩
 refine .aV V (.nila H fun H => ?_); refine .wh h V ?_ ?_ <;> intro h
 ·refine .tR 4 V H fun b5 σ H => (.mV V (.conv (m := n) V V V V (.aV V (.aV V (.nila H fun H => (.ret ?_)))))); subst h; exact Ends.eR V
 refine .skip (.tR 2 V H fun b6 σ H => (.aV V (.aV V (.nila H fun H => (.ret ?_))))); subst h; exact Ends.eR V
theorem safe_Mul_fn {a : Int} {b : Int} {r : Int × Int} (h : Z2K a b = r) : Fn CX 63 [(vi a), (vi b)] (.tup [(vi r.1), (vi r.2)]) := by
 refine Fn.go Try.func63 V fun σ H => ?_; unfold Z2K at h; refine .tR 2 V H fun b1 σ H => (.aV V (.aV V (.nila H fun H => (.tR 10 V H fun b2 σ H => (.mV V (.cV (Z5h V) V (.mV V (.cV (Z5h V) V ?_)))))))); refine .cV (Z53 V) V (.m1 (.tup [(vu (Z02 (Z0K a) (Z0K b)).1), (vu (Z02 (Z0K a) (Z0K b)).2)]) V V (.xV V (.xV V (.aV V (.aV V (.nila H fun H => (.then (.tR 2 V H fun b3 σ H => ?_)))))))); refine .mV V (.iV V (.nila H fun H => ?_)); refine .wh h V ?_ ?_ <;> intro h
 ·refine .tR 2 V H fun b4 σ H => (.aV V (.aV V (.nila H fun H => (.ret ?_)))); subst h; exact Ends.eR V
 refine .skip (.tR 11 V H fun b5 σ H => (.mV V (.mV V (.iV V (.mV V (.iV V (.neB (b := (decide (a < 0))) (b' := (decide (b < 0))) V V V V (.cV (Z7U V) V ?_)))))))); refine .xV V (.xV V (.aV V (.aV V (.nila H fun H => (.ret ?_))))); subst h; exact Ends.eR V
theorem Z5o {f : Form} {i : Int} {r : (List Span) × Int × Int} (h : Z1j f i = some r) : Fn CX 40 [(.agg (vs (Form.cs f))), (vi i)] (.tup [(vl Span.cs r.1), (vi r.2.1), (vi r.2.2)]) := by
 refine Fn.go Try.func40 V fun σ H => ?_; unfold Z1j at h; refine .tR 4 V H fun b1 σ H => (.boxH (cs := (vF f)) H (by omega) (by omega) V V V fun σ H => (.a1 .nils V V (.aV V (.aV V (.nila H fun H => (.then (.tR 8 V H fun b2 σ H => (.LV (vF f) H 0 V ?_)))))))); refine .mV V ?_; obtain ⟨x1, q1, h⟩ := bs h; refine .cV (Z6Z q1) V (.m1 (.tup [(vi x1.1), (vb x1.2)]) V V (.xV V (.xV V (.aV V (.aV V (.nila H fun H => (.tR 1 V H fun b3 σ H => (.mV V ?_)))))))); refine .nila H fun H => ?_; refine .wh h V ?_ ?_ <;> intro h
 ·refine .tR 9 V H fun b4 σ H => (.fV H 0 V (.lV H 0 V (.mV V ?_))); obtain ⟨x2, q2, h⟩ := bs h; refine .jV q2 V (.Z0d V V V V (.pV V (.aV V (.aV V (.aV V (.nila H fun H => (.ret ?_))))))); obtain rfl := sj h; exact Ends.eR V
 refine .skip (.then (.tR 3 V H fun b5 σ H => (.fV H 0 V (.lV H 0 V (.iV V (.nila H fun H => ?_)))))); refine .wh h V ?_ ?_ <;> intro h
 ·refine .tR 3 V H fun b6 σ H => (.a1 .nils V V (.aV V (.aV V (.nila H fun H => (.ret ?_))))); obtain rfl := sj h; exact (Ends.H (xs := [.nils, (vi 0), (vi 0)]) (.inr V) H (.tmp (v := .nils) V (.tmp (v := (vi 0)) V (.tmp (v := (vi 0)) V .nil))) (.two (.cons (.c .n) (.cons (.c (.v _)) (.cons (.c (.v _)) .nil)))))
 refine .skip (.tR 11 V H fun b7 σ H => (.mV V (.fV H 0 V (.lV H 0 V ?_)))); obtain ⟨x3, q3, h⟩ := bs h; refine .cV (Z4t q3) V (.m1 (.tup [(vi x3.1), (vi x3.2.1), (vi x3.2.2)]) V V (.xV V (.xV V (.xV V (.aV V (.aV V (.aV V (.nila H fun H => ?_)))))))); refine .tR 9 V H fun b8 σ H => (.mV V (.fV H 0 V (.lV H 0 V (.cV (safe_Mul_fn V) V (.m1 (.tup [(vi (Z2K x3.1 f.Period).1), (vi (Z2K x3.1 f.Period).2)]) V V (.xV V (.xV V (.aV V ?_)))))))); refine .aV V (.nila H fun H => (.tR 10 V H fun b9 σ H => (.fV H 0 V (.lV H 0 V (.mV V ?_))))); obtain ⟨x4, q4, h⟩ := bs h; refine .jV q4 V (.pV V (.mV V (.mV V (.aV V (.aV V (.aV V (.nila H fun H => (.ret ?_)))))))); obtain rfl := sj h; exact Ends.eR V
theorem Z6S {a : Int} {b : Int} {r : Int × Int} (h : ZH a b = r) : Fn CX 43 [(vi a), (vi b)] (.tup [(vi r.1), (vi r.2)]) := by
 refine Fn.go Try.func43 V fun σ H => ?_; unfold ZH at h; refine .tR 2 V H fun b1 σ H => (.aV V (.aV V (.nila H fun H => (.tR 4 V H fun b2 σ H => (.mV V (.mV V (.iV V (.aV V ?_)))))))); refine .nila H fun H => (.then (.tR 10 V H fun b3 σ H => (.mV V (.mV V (.iV V (.mV V (.iV V (.neB (b := (decide ((w64 (a + b)) > a))) (b' := (decide (b > 0))) V V V V ?_)))))))); refine .mV V ?_; refine .md H 3 [(19, (vb (((decide ((w64 (a + b)) > a)) != (decide (b > 0))) && (b != 0)))), (6, (vi (w64 (a + b))))] [] V ?_ fun e σ H => ?_
 ·refine .split V V ?_ ?_ <;> intro hc1
  ·refine .mV V (.iV V (.kT V (.nil ?_))); exact ⟨⟨Z2W hc1, V, U⟩, H.wk (by omega)⟩
  ·refine .ps 2 V (.kF V (.nil ?_)); exact ⟨⟨Z2X hc1, V, U⟩, H.wk (by omega)⟩
 refine .nila H fun H => ?_; refine .wh h V ?_ ?_ <;> intro h
 ·refine .tR 2 V H fun b4 σ H => (.aV V (.aV V (.nila H fun H => (.ret ?_)))); subst h; exact Ends.eR V
 refine .skip (.tR 3 V H fun b5 σ H => (.mV V (.aV V (.aV V (.nila H fun H => (.ret ?_)))))); subst h; exact Ends.eR V
end Go.Dn

namespace Go.Dn
open Go Go.Proofs
set_option maxRecDepth 100000
set_option maxHeartbeats 4000000
theorem Z6o {l : (List Span)} {by' : Int} {r : (List Span) × Int} (h : Z0J l by' = some r) : FnO CX 21 [(vl Span.cs l), (vi by')] (fun q A => ∃ (w7 : PV), q = (.tup [w7, (vi r.2)]) ∧ A = [.sl w7 43 2 (r.1.map Span.cs) true]) := by
 refine FnO.of Try.func21 V V V V V V ?_; intro σ T H; unfold Z0J at h; refine .tR 2 V H fun b1 σ H => (.a1 .nils V V (.aV V (.nila H fun H => (.tR 1 V H fun b2 σ H => (.a1 .nils V V (.nila H fun H => (.then (.tR 3 V H fun b3 σ H => ?_)))))))); refine .mV V (.nV V (.mV V (.nila H fun H => (.inBlock ?_)))); replace H := H.pushNil 43 2 true; obtain ⟨y1, hj1, h⟩ := bs h; obtain ⟨n1, hj1⟩ := ZI.1 hj1; refine .mono (Runs.loopO hj1 (fun s2 e σ => ∃ (w3 : PV), ZA e [(1, (vi by')), (6, w3), (13, (vl Span.cs l)), (14, (vi (l.length : Int))), (15, (vi s2.1))] ∧ Hs σ (.sl w3 43 2 (s2.2.map Span.cs) true :: T)) (fun y1 x e σ => (∃ a1, ∃ (w4 : PV), y1 = (.go a1) ∧ x = .exit 0 ∧ ZA e [(6, w4)] ∧ Hs σ (.sl w4 43 2 (a1.map Span.cs) true :: T)) ∨ (∃ a2, y1 = (.ret a2) ∧ x = .ret ∧ ZA e [(4, .nils), (5, (vi 20))] ∧ Hs σ (T))) ⟨.nils, EI V, H⟩ ?_) ?_
 ·intro s2 e σ hI z h; obtain ⟨w3, he, H⟩ := hI; obtain ⟨e, rfl⟩ := he.ex; unfold Z0J.s0 at h; refine .tR 1 V H fun b4 σ H => (.iV V (.nila H fun H => (.then ?_))); refine .wh h V ?_ ?_ <;> intro h
  ·refine .skip (.then (.inBlock (.tR 4 V H fun b5 σ H => ?_))); obtain ⟨x1, q1, h⟩ := bs h; refine .jV q1 V (.qV [(.int .i64 x1.From), (.int .i64 x1.To)] V (.Z0O (cs := [(vi 0), (vi 0)]) H (by omega) (by omega) V V fun σ H => (.sV [(vi x1.From), (vi x1.To)] H 0 V fun σ H => (.nila H fun H => (.tR 9 V H fun b6 σ H => (.fV H 0 V (.lV H 0 V (.mV V ?_)))))))); refine .cV (Z6S V) V (.m1 (.tup [(vi (ZH x1.From by').1), (vi (ZH x1.From by').2)]) V V (.xV V (.xV V (.aV V (.aV V (.nila H fun H => (.tR 9 V H fun b7 σ H => (.fV H 0 V ?_)))))))); refine .lV H 0 V (.mV V (.cV (Z6S V) V (.m1 (.tup [(vi (ZH x1.To by').1), (vi (ZH x1.To by').2)]) V V (.xV V (.xV V (.aV V (.aV V (.nila H fun H => ?_)))))))); refine .then (.tR 16 V H fun b8 σ H => (.mV V (.iV V (.mV V ?_)))); refine .md H 3 [(38, (vb ((((ZH x1.From by').2) != 0) || (((ZH x1.To by').2) != 0)))), (1, (vi by')), (6, w3), (9, (vi (ZH x1.From by').1)), (11, (vi (ZH x1.To by').1)), (13, (vl Span.cs l)), (14, (vi (l.length : Int))), (15, (vi s2.1))] (.sl w3 43 2 (s2.2.map Span.cs) true :: T) rfl ?_ fun e σ H => ?_
   ·refine .split V V ?_ ?_ <;> intro hc2
    ·refine .ps 2 V (.kT V (.nil ?_)); exact ⟨⟨or_T hc2, V, V, V, V, V, V, V, U⟩, (H.erase 0).wk (by omega)⟩
    ·refine .mV V (.iV V (.kF V (.nil ?_))); exact ⟨⟨or_F hc2, V, V, V, V, V, V, V, U⟩, (H.erase 0).wk (by omega)⟩
   refine .mV V ?_; refine .md H 4 [(43, (vb (((((ZH x1.From by').2) != 0) || (((ZH x1.To by').2) != 0)) || (!(Zn ((ZH x1.From by').1)))))), (1, (vi by')), (6, w3), (9, (vi (ZH x1.From by').1)), (11, (vi (ZH x1.To by').1)), (13, (vl Span.cs l)), (14, (vi (l.length : Int))), (15, (vi s2.1))] (.sl w3 43 2 (s2.2.map Span.cs) true :: T) rfl ?_ fun e σ H => ?_
   ·refine .split V V ?_ ?_ <;> intro hc3
    ·refine .ps 3 V (.kT V (.nil ?_)); exact ⟨⟨or_T hc3, V, V, V, V, V, V, V, U⟩, H.wk (by omega)⟩
    ·refine .mV V (.cV (Z2F V) V (.tV V (.kF V (.nil ?_)))); exact ⟨⟨or_F hc3, V, V, V, V, V, V, V, U⟩, H.wk (by omega)⟩
   refine .mV V ?_; refine .md H 4 [(48, (vb ((((((ZH x1.From by').2) != 0) || (((ZH x1.To by').2) != 0)) || (!(Zn ((ZH x1.From by').1)))) || (!(Zn ((ZH x1.To by').1)))))), (1, (vi by')), (6, w3), (9, (vi (ZH x1.From by').1)), (11, (vi (ZH x1.To by').1)), (13, (vl Span.cs l)), (14, (vi (l.length : Int))), (15, (vi s2.1))] (.sl w3 43 2 (s2.2.map Span.cs) true :: T) rfl ?_ fun e σ H => ?_
   ·refine .split V V ?_ ?_ <;> intro hc4
    ·refine .ps 3 V (.kT V (.nil ?_)); exact ⟨⟨or_T hc4, V, V, V, V, V, V, V, U⟩, H.wk (by omega)⟩
    ·refine .mV V (.cV (Z2F V) V (.tV V (.kF V (.nil ?_)))); exact ⟨⟨or_F hc4, V, V, V, V, V, V, V, U⟩, H.wk (by omega)⟩
   refine .nila H fun H => ?_; refine .wh h V ?_ ?_ <;> intro h
   ·refine .tR 2 V H fun b9 σ H => (.a1 .nils V V (.aV V (.nila H fun H => (.ret ?_)))); obtain rfl := sj h; exact ⟨nofun, (.inr ⟨_, V, V, EI V, (H.erase 0)⟩)⟩
   refine .skip (.ZM 7 V H fun b10 σ H => (.m1 w3 V V (.mV V (.mV V (.bV [(vi (ZH x1.From by').1), (vi (ZH x1.To by').1)] V (.Z2R (sz := 2) ([(Span.mk ((ZH x1.From by').1) ((ZH x1.To by').1))].map Span.cs) H (by omega) (by omega) V V V V V V V V V fun σ H => ?_)))))); obtain ⟨x2, q2, h⟩ := bs h; refine .Z17 (c := Span.cs) (v := w3) (w := (.buf (b10 + 4) 1 2)) (xs := s2.2) (ys := [(Span.mk ((ZH x1.From by').1) ((ZH x1.To by').1))]) H (by omega) (by omega) 1 V V V (.s 0 V) q2 V V V V V nofun V fun w5 σ H => (.a1 w5 V V (.nila H fun H => (.ZM 2 V H fun b11 σ H => (.iV V (.mV V (.nila H fun H => ?_)))))); obtain rfl := sj h; exact ⟨V, w5, EI V, (H.erase 0)⟩
  refine .exit ?_; obtain rfl := sj h; exact ⟨nofun, (.inl ⟨_, w3, V, V, EI V, H⟩)⟩
 ·rintro x e σ (⟨a3, w6, rfl, rfl, he, H⟩ | ⟨a4, rfl, rfl, he, H⟩)
  ·replace h := jgo h; obtain ⟨e, rfl⟩ := he.ex; refine .tR 3 V H fun b12 σ H => (.m1 w6 V V (.a1 w6 V V (.aV V (.nila H fun H => (.ret ?_))))); obtain rfl := sj h; exact ⟨.inr V, _, Z2Y H (.tmp (v := w6) V (.tmp (v := (vi 0)) V .nil)), _, ⟨w6, V, V⟩, H⟩
  ·replace h := jret h; obtain ⟨e, rfl⟩ := he.ex; replace H := H.pushNil 43 2 true; obtain rfl := sj h; exact ⟨.inr V, _, Z2Y H (.tmp (v := .nils) V (.tmp (v := (vi 20)) V .nil)), _, ⟨.nils, V, V⟩, H⟩
theorem spans_Move_fn {l : (List Span)} {by' : Int} {r : (List Span) × Int} (h : Zp l by' = some r) : FnO CX 21 [(vl Span.cs l), (vi by')] (fun q A => ∃ (w7 : PV), q = (.tup [w7, (vi r.2)]) ∧ A = [.sl w7 43 2 (r.1.map Span.cs) true]) := Z6o (by rw [Z6p]; exact h)
theorem Z1m {f : Form} {i : Int} {r : (List Span) × Int} (h : ZX f i = some r) : FnO CX 16 [(.agg (vs (Form.cs f))), (vi i)] (fun q A => ∃ (w2 : PV), q = (.tup [w2, (vi r.2)]) ∧ A = [.sl w2 43 2 (r.1.map Span.cs) true]) := by
 refine FnO.of Try.func16 V V V V V V ?_; intro σ T H; unfold ZX at h; refine .tR 3 V H fun b1 σ H => (.boxH (cs := (vF f)) H (by omega) (by omega) V V V fun σ H => (.a1 .nils V V (.aV V (.nila H fun H => (.then (.tR 3 V H fun b2 σ H => (.mV V (.cV (Z2S V) V ?_)))))))); refine .tV V (.nila H fun H => ?_); refine .wh h V ?_ ?_ <;> intro h
 ·refine .tR 2 V H fun b3 σ H => (.a1 .nils V V (.aV V (.nila H fun H => (.ret ?_)))); replace H := H.pushNil 43 2 true; obtain rfl := sj h; exact ⟨.inr V, _, Z2Y H (.tmp (v := .nils) V (.tmp (v := (vi 20)) V .nil)), _, ⟨.nils, V, V⟩, (H.erase 1)⟩
 refine .skip (.tR 10 V H fun b4 σ H => (.LV (vF f) H 0 V (.mV V ?_))); obtain ⟨x1, q1, h⟩ := bs h; refine .cV (Z5o q1) V (.m1 (.tup [(vl Span.cs x1.1), (vi x1.2.1), (vi x1.2.2)]) V V (.xV V (.xV V (.xV V (.aV V (.aV V (.aV V (.nila H fun H => ?_)))))))); refine .then (.tR 3 V H fun b5 σ H => (.mV V (.nV V (.iV V (.nila H fun H => ?_))))); refine .wh h V ?_ ?_ <;> intro h
 ·refine .tR 2 V H fun b6 σ H => (.a1 .nils V V (.aV V (.nila H fun H => (.ret ?_)))); replace H := H.pushNil 43 2 true; obtain rfl := sj h; exact ⟨.inr V, _, Z2Y H (.tmp (v := .nils) V (.tmp (v := (vi 0)) V .nil)), _, ⟨.nils, V, V⟩, (H.erase 1)⟩
 refine .skip (.then (.tR 2 V H fun b7 σ H => (.mV V (.iV V (.nila H fun H => ?_))))); refine .wh h V ?_ ?_ <;> intro h
 ·refine .tR 2 V H fun b8 σ H => (.a1 .nils V V (.aV V (.nila H fun H => (.ret ?_)))); replace H := H.pushNil 43 2 true; obtain rfl := sj h; exact ⟨.inr V, _, Z2Y H (.tmp (v := .nils) V (.tmp (v := (vi 20)) V .nil)), _, ⟨.nils, V, V⟩, (H.erase 1)⟩
 refine .skip (.tR 7 V H fun b9 σ H => (.mV V (.mV V ?_))); obtain ⟨x2, q2, h⟩ := bs h; refine .Z4w (ys := [(vl Span.cs x1.1), (vi x1.2.1)]) H rfl (spans_Move_fn q2) nofun rfl ?_; rintro _ _ σ ⟨w1, rfl, rfl⟩ H; refine .xV V (.xV V (.a1 w1 V V (.aV V (.nila H fun H => (.ret ?_))))); obtain rfl := sj h; exact ⟨.inr V, _, Z2Y H (.tmp (v := w1) V (.tmp (v := (vi x2.2)) V .nil)), _, ⟨w1, V, V⟩, (H.erase 1)⟩
theorem Z1t {s : (List (List Span))} {f : (List Span) → Option Bool} {C : List Res} {cv0 : PV} (hs0 : cv0.one = true) (hp0 : cv0.pure = true → C = []) (hf0 : ∀ z0 y, f z0 = some y → CloH CX cv0 [(vl Span.cs z0)] (vb y) C) {r : Int} (h : ZC s f = some r) : FnH CX 82 [(vl (cL Span.cs) s), cv0] (vi r) C := by
 refine FnH.of Try.func82 V V V V (Z2V V (Z2V (Z2i hs0) all_nil)) V (fun h => hp0 (Z3y h 1 V)) ?_; intro σ L hC H; unfold ZC at h; refine .tR 1 V H fun b1 σ H => (.aV V (.nila H fun H => (.then (.tR 3 V H fun b2 σ H => (.mV V (.nV V (.mV V (.nila H fun H => ?_)))))))); refine .inBlock ?_; obtain ⟨y1, hj1, h⟩ := bs h; obtain ⟨n1, hj1⟩ := ZI.1 hj1; refine .mono (Runs.loopO hj1 (fun s1 e σ => ZA e [(0, (vl (cL Span.cs) s)), (1, cv0), (7, (vi (s.length : Int))), (8, (vi s1))] ∧ Hs σ (L)) (fun y1 x e σ => (∃ a1, y1 = (.go a1) ∧ x = .exit 0 ∧ ZA e [] ∧ Hs σ (L)) ∨ (∃ r', y1 = (.ret r') ∧ x = .ret ∧ EndsH CX Try.f82.results.toList (vi r') L x e σ)) ⟨EI V, H⟩ ?_) ?_
 ·intro s1 e σ hI z h; obtain ⟨he, H⟩ := hI; obtain ⟨e, rfl⟩ := he.ex; unfold ZC.s0 at h; refine .tR 1 V H fun b3 σ H => (.iV V (.nila H fun H => (.then ?_))); refine .wh h V ?_ ?_ <;> intro h
  ·refine .skip (.then (.inBlock (.tR 2 V H fun b4 σ H => (.mV V (.aV V (.nila H fun H => (.tR 6 V H fun b5 σ H => (.m1 cv0 V V ?_)))))))); refine .mV V (.mV V ?_); obtain ⟨x1, q1, h⟩ := bs h; refine .jV q1 V (.pV V ?_); obtain ⟨x2, q2, h⟩ := bs h; refine .callV (cv := cv0) (ys := [(vl Span.cs x1)]) (r := (vb x2)) H V V (hf0 x1 _ q2) hC nofun V fun σ H => (.nila H fun H => ?_); refine .wh h V ?_ ?_ <;> intro h
   ·refine .tR 2 V H fun b6 σ H => (.mV V (.aV V (.nila H fun H => (.ret ?_)))); obtain rfl := sj h; exact ⟨nofun, (.inr ⟨_, V, V, (EndsH.H (xs := [(vi s1)]) (.inr V) H (.tmp (v := (vi s1)) V .nil) (.one (.c (.v _))) 0 V)⟩)⟩
   refine .skip (.ZM 2 V H fun b7 σ H => (.iV V (.mV V (.nila H fun H => ?_)))); obtain rfl := sj h; exact ⟨V, EI V, H⟩
  refine .exit ?_; obtain rfl := sj h; exact ⟨nofun, (.inl ⟨_, V, V, U, H⟩)⟩
 ·rintro x e σ (⟨a2, rfl, rfl, he, H⟩ | ⟨r', rfl, rfl, hE⟩)
  ·replace h := jgo h; obtain ⟨e, rfl⟩ := he.ex; refine .tR 1 V H fun b8 σ H => (.aV V (.nila H fun H => (.ret ?_))); obtain rfl := sj h; exact (EndsH.H (xs := [(vi (-1))]) (.inr V) H (.tmp (v := (vi (-1))) V .nil) (.one (.c (.v _))) 0 V)
  ·replace h := jret h; obtain rfl := sj h; exact hE
theorem Z0W {s : (List (List Span))} {f : (List Span) → Option Bool} {C : List Res} {cv0 : PV} (hs0 : cv0.one = true) (hp0 : cv0.pure = true → C = []) (hf0 : ∀ z0 y, f z0 = some y → CloH CX cv0 [(vl Span.cs z0)] (vb y) C) {r : Bool} (h : ZR s f = some r) : FnH CX 71 [(vl (cL Span.cs) s), cv0] (vb r) C := by
 refine FnH.of Try.func71 V V V V (Z2V V (Z2V (Z2i hs0) all_nil)) V (fun h => hp0 (Z3y h 1 V)) ?_; intro σ L hC H; unfold ZR at h; refine .tR 1 V H fun b1 σ H => (.aV V (.nila H fun H => (.tR 5 V H fun b2 σ H => (.mV V (.m1 cv0 V V ?_))))); obtain ⟨x1, q1, h⟩ := bs h; refine .callH (ys := [(vl (cL Span.cs) s), cv0]) (r := (vi x1)) H V (Z1t (C := C) hs0 hp0 hf0 q1) hC nofun V fun σ H => (.iV V (.aV V (.nila H fun H => (.ret ?_)))); obtain rfl := sj h; exact (EndsH.H (xs := [(vb (decide (x1 ≥ 0)))]) (.inr V) H (.tmp (v := (vb (decide (x1 ≥ 0)))) V .nil) (.one (.c (.v _))) 0 V)
theorem Z73 {l : (List Span)} {r : Bool} (h : Z2x l = r) : Fn CX 72 [(vl Span.cs l)] (vb r) := by
 refine Fn.go Try.func72 V fun σ H => ?_; unfold Z2x at h; refine .tR 1 V H fun b1 σ H => (.aV V (.nila H fun H => (.tR 4 V H fun b2 σ H => (.mV V (.nV V (.iV V (.aV V (.nila H fun H => ?_)))))))); refine .ret ?_; subst h; exact Ends.eR V
theorem gran_bare_fn {f : Form} {r : Bool} (h : Z22 f = some r) : Fn CX 59 [(.agg (vs (Form.cs f)))] (vb r) := by
 refine Fn.go Try.func59 V fun σ H => ?_; unfold Z22 at h; refine .tR 2 V H fun b1 σ H => (.boxH (cs := (vF f)) H (by omega) (by omega) V V V fun σ H => (.aV V (.nila H fun H => (.tR 5 V H fun b2 σ H => (.fV H 0 V (.lV H 0 V ?_)))))); obtain ⟨x1, q1, h⟩ := bs h; refine .callH (ys := [(vl (cL Span.cs) f.Core), (.v (.fn 72))]) (r := (vb x1)) H V (Z0W (C := []) V (fun _ => V) (fun z0 y hz => (CloH.fn (Fn.toH (Z73 (Option.some.inj hz)) _))) q1) .nil nofun V fun σ H => (.tV V (.aV V (.nila H fun H => (.ret ?_)))); obtain rfl := sj h; exact Ends.eR V
theorem gran_some_fn {f : Form} {i : Int} {r : Bool} (h : Z3Y f i = some r) : Fn CX 61 [(.agg (vs (Form.cs f))), (vi i)] (vb r) := by
 refine Fn.go Try.func61 V fun σ H => ?_; unfold Z3Y at h; refine .tR 2 V H fun b1 σ H => (.boxH (cs := (vF f)) H (by omega) (by omega) V V V fun σ H => (.aV V (.nila H fun H => (.tR 10 V H fun b2 σ H => (.LV (vF f) H 0 V (.mV V ?_)))))); obtain ⟨x1, q1, h⟩ := bs h; refine .cV (Z5o q1) V (.m1 (.tup [(vl Span.cs x1.1), (vi x1.2.1), (vi x1.2.2)]) V V (.xV V (.xV V (.xV V (.aV V (.aV V (.aV V (.nila H fun H => ?_)))))))); refine .tR 4 V H fun b3 σ H => (.mV V (.nV V (.iV V (.aV V (.nila H fun H => (.ret ?_)))))); obtain rfl := sj h; exact Ends.eR V
theorem Z5O {f : Form} {from' : Int} {by' : Int} {r : Int × Bool} (h : Zm f from' by' = some r) : Fn CX 38 [(.agg (vs (Form.cs f))), (vi from'), (vi by')] (.tup [(vi r.1), (vb r.2)]) := by
 refine Fn.go Try.func38 V fun σ H => ?_; unfold Zm at h; refine .tR 3 V H fun b1 σ H => (.boxH (cs := (vF f)) H (by omega) (by omega) V V V fun σ H => (.aV V (.aV V (.nila H fun H => (.then (.tR 2 V H fun b2 σ H => (.LV (vF f) H 0 V ?_))))))); obtain ⟨x1, q1, h⟩ := bs h; refine .cV (gran_bare_fn q1) V (.nila H fun H => ?_); refine .wh h V ?_ ?_ <;> intro h
 ·refine .tR 8 V H fun b3 σ H => (.LV (vF f) H 0 V (.mV V ?_)); obtain ⟨x2, q2, h⟩ := bs h; refine .cV (Z6Z q2) V (.m1 (.tup [(vi x2.1), (vb x2.2)]) V V (.xV V (.xV V (.aV V (.aV V (.nila H fun H => (.then ?_))))))); refine .jn h .normal (fun y1 => [(2, (vi by')), (3, (.ptr (b1 + 0) 4 0)), (8, (vi y1))]) (fun y1 => [.blk (b1 + 0) 25 (vF f)]) (fun y1 h => ?_) fun y1 e σ H h => ?_
  ·refine .tR 6 V H fun b4 σ H => (.mV V (.iV V (.mV V ?_))); refine .md H 3 [(24, (vb ((decide (by' < 0)) && (!x2.2)))), (2, (vi by')), (3, (.ptr (b1 + 0) 4 0)), (8, (vi x2.1))] [.blk (b1 + 0) 25 (vF f)] V ?_ fun e σ H => ?_
   ·refine .split V V ?_ ?_ <;> intro hc2
    ·refine .mV V (.tV V (.kT V (.nil ?_))); exact ⟨⟨Z2W hc2, V, V, V, U⟩, H.wk (by omega)⟩
    ·refine .ps 2 V (.kF V (.nil ?_)); exact ⟨⟨Z2X hc2, V, V, V, U⟩, H.wk (by omega)⟩
   refine .nila H fun H => ?_; refine .wh h V ?_ ?_ <;> intro h
   ·refine .ZM 3 V H fun b5 σ H => (.mV V (.iV V (.aV V (.nila H fun H => ?_)))); obtain rfl := sj h; exact ⟨V, EI V, H⟩
   refine .skip ?_; obtain rfl := sj h; exact ⟨V, EI V, H⟩
  refine .then (.inBlock ?_); obtain ⟨y2, hj2, h⟩ := bs h; obtain ⟨n1, hj2⟩ := ZI.1 hj2; refine .mono (Runs.loopO hj2 (fun s1 e σ => ZA e [(2, (vi by')), (3, (.ptr (b1 + 0) 4 0)), (8, (vi s1))] ∧ Hs σ [.blk (b1 + 0) 25 (vF f)]) (fun y2 x e σ => (∃ a1, y2 = (.go a1) ∧ x = .exit 0 ∧ ZA e [] ∧ Hs σ []) ∨ (∃ r', y2 = (.ret r') ∧ x = .ret ∧ Ends CX Try.f38.results.toList (.tup [(vi r'.1), (vb r'.2)]) x e σ)) ⟨EI V, H⟩ ?_) ?_
  ·intro s1 e σ hI z h; obtain ⟨he, H⟩ := hI; obtain ⟨e, rfl⟩ := he.ex; unfold Zm.s0 at h; refine .then (.tR 9 V H fun b6 σ H => (.mV V (.iV V (.mV V ?_)))); refine .md H 6 [(35, (vb ((decide (s1 ≥ 0)) && (decide (s1 < (f.Odd.length : Int)))))), (2, (vi by')), (3, (.ptr (b1 + 0) 4 0)), (8, (vi s1))] [.blk (b1 + 0) 25 (vF f)] V ?_ fun e σ H => ?_
   ·refine .split V V ?_ ?_ <;> intro hc4
    ·refine .mV V (.fV H 0 V (.lV H 0 V (.nV V (.iV V (.kT V (.nil ?_)))))); exact ⟨⟨Z2W hc4, V, V, V, U⟩, H.wk (by omega)⟩
    ·refine .ps 5 V (.kF V (.nil ?_)); exact ⟨⟨Z2X hc4, V, V, V, U⟩, H.wk (by omega)⟩
   refine .nila H fun H => ?_; refine .wh h V ?_ ?_ <;> intro h
   ·refine .skip (.then (.inBlock (.tR 8 V H fun b7 σ H => (.fV H 0 V (.lV H 0 V (.mV V ?_)))))); obtain ⟨x3, q3, h⟩ := bs h; refine .jV q3 V (.Z0d V V V V (.pV V (.nV V (.iV V (.nila H fun H => ?_))))); refine .wh h V ?_ ?_ <;> intro h
    ·refine .tR 8 V H fun b8 σ H => (.fV H 0 V (.lV H 0 V (.mV V ?_))); obtain ⟨x4, q4, h⟩ := bs h; refine .jV q4 V (.Z0d V V V V (.pV V (.aV V (.aV V (.nila H fun H => (.ret ?_)))))); obtain rfl := sj h; exact ⟨nofun, (.inr ⟨_, V, V, (Ends.H (xs := [(vi x4.Index), (vb true)]) (.inr V) H (.tmp (v := (vi x4.Index)) V (.tmp (v := (vb true)) V .nil)) (.two (.cons (.c (.v _)) (.cons (.c (.v _)) .nil))))⟩)⟩
    refine .skip (.ZM 4 V H fun b9 σ H => (.mV V (.mV V (.iV V (.aV V (.nila H fun H => ?_)))))); obtain rfl := sj h; exact ⟨V, EI V, H⟩
   refine .exit ?_; obtain rfl := sj h; exact ⟨nofun, (.inl ⟨_, V, V, U, (H.erase 0)⟩)⟩
  ·rintro x e σ (⟨a2, rfl, rfl, he, H⟩ | ⟨r', rfl, rfl, hE⟩)
   ·replace h := jgo h; obtain ⟨e, rfl⟩ := he.ex; refine .tR 2 V H fun b10 σ H => (.aV V (.aV V (.nila H fun H => (.ret ?_)))); obtain rfl := sj h; exact Ends.eR V
   ·replace h := jret h; obtain rfl := sj h; exact hE
 refine .skip (.then (.tR 2 V H fun b11 σ H => (.mV V (.aV V (.nila H fun H => (.inBlock ?_)))))); obtain ⟨y3, hj3, h⟩ := bs h; obtain ⟨n2, hj3⟩ := ZI.1 hj3; refine .mono (Runs.loopO hj3 (fun s2 e σ => ZA e [(2, (vi by')), (3, (.ptr (b1 + 0) 4 0)), (10, (vi s2))] ∧ Hs σ [.blk (b1 + 0) 25 (vF f)]) (fun y3 x e σ => (∃ a3, y3 = (.go a3) ∧ x = .exit 2 ∧ ZA e [] ∧ Hs σ []) ∨ (∃ r', y3 = (.ret r') ∧ x = .ret ∧ Ends CX Try.f38.results.toList (.tup [(vi r'.1), (vb r'.2)]) x e σ)) ⟨EI V, H⟩ ?_) ?_
 ·intro s2 e σ hI z h; obtain ⟨he, H⟩ := hI; obtain ⟨e, rfl⟩ := he.ex; unfold Zm.s1 at h; refine .then (.tR 2 V H fun b12 σ H => (.mV V (.cV (Z2S V) V (.nila H fun H => ?_)))); refine .wh h V ?_ ?_ <;> intro h
  ·refine .skip (.then (.inBlock (.tR 3 V H fun b13 σ H => (.LV (vF f) H 0 V (.mV V ?_))))); obtain ⟨x5, q5, h⟩ := bs h; refine .cV (gran_some_fn q5) V (.nila H fun H => ?_); refine .wh h V ?_ ?_ <;> intro h
   ·refine .tR 3 V H fun b14 σ H => (.mV V (.aV V (.aV V (.nila H fun H => (.ret ?_))))); obtain rfl := sj h; exact ⟨nofun, (.inr ⟨_, V, V, (Ends.H (xs := [(vi s2), (vb true)]) (.inr V) H (.tmp (v := (vi s2)) V (.tmp (v := (vb true)) V .nil)) (.two (.cons (.c (.v _)) (.cons (.c (.v _)) .nil))))⟩)⟩
   refine .skip (.ZM 4 V H fun b15 σ H => (.mV V (.mV V (.iV V (.aV V (.nila H fun H => ?_)))))); obtain rfl := sj h; exact ⟨V, EI V, H⟩
  refine .exit ?_; obtain rfl := sj h; exact ⟨nofun, (.inl ⟨_, V, V, U, (H.erase 0)⟩)⟩
 ·rintro x e σ (⟨a4, rfl, rfl, he, H⟩ | ⟨r', rfl, rfl, hE⟩)
  ·replace h := jgo h; obtain ⟨e, rfl⟩ := he.ex; refine .tR 2 V H fun b16 σ H => (.aV V (.aV V (.nila H fun H => (.ret ?_)))); obtain rfl := sj h; exact Ends.eR V
  ·replace h := jret h; obtain rfl := sj h; exact hE
theorem Z7P {f : Form} {i : Int} {r : Int × Bool} (h : Z0S f i = some r) : Fn CX 15 [(.agg (vs (Form.cs f))), (vi i)] (.tup [(vi r.1), (vb r.2)]) := by
 refine Fn.go Try.func15 V fun σ H => ?_; unfold Z0S at h; refine .tR 3 V H fun b1 σ H => (.boxH (cs := (vF f)) H (by omega) (by omega) V V V fun σ H => (.aV V (.aV V (.nila H fun H => (.then (.tR 2 V H fun b2 σ H => (.mV V (.iV V ?_)))))))); refine .nila H fun H => ?_; refine .wh h V ?_ ?_ <;> intro h
 ·refine .tR 2 V H fun b3 σ H => (.aV V (.aV V (.nila H fun H => (.ret ?_)))); obtain rfl := sj h; exact Ends.eR V
 refine .skip (.tR 9 V H fun b4 σ H => (.LV (vF f) H 0 V (.mV V (.iV V (.min2 V V V ?_))))); obtain ⟨x1, q1, h⟩ := bs h; refine .cV (Z5O q1) V (.xV V (.xV V (.aV V (.aV V (.nila H fun H => (.ret ?_)))))); obtain rfl := sj h; exact Ends.eR V
theorem Z7O {f : Form} {i : Int} {r : Int × Bool} (h : Z0i f i = some r) : Fn CX 14 [(.agg (vs (Form.cs f))), (vi i)] (.tup [(vi r.1), (vb r.2)]) := by
 refine Fn.go Try.func14 V fun σ H => ?_; unfold Z0i at h; refine .tR 3 V H fun b1 σ H => (.boxH (cs := (vF f)) H (by omega) (by omega) V V V fun σ H => (.aV V (.aV V (.nila H fun H => (.then (.tR 2 V H fun b2 σ H => (.mV V (.iV V ?_)))))))); refine .nila H fun H => ?_; refine .wh h V ?_ ?_ <;> intro h
 ·refine .tR 2 V H fun b3 σ H => (.aV V (.aV V (.nila H fun H => (.ret ?_)))); obtain rfl := sj h; exact Ends.eR V
 refine .skip (.tR 9 V H fun b4 σ H => (.LV (vF f) H 0 V (.mV V (.iV V (.max2 V V V ?_))))); obtain ⟨x1, q1, h⟩ := bs h; refine .cV (Z5O q1) V (.xV V (.xV V (.aV V (.aV V (.nila H fun H => (.ret ?_)))))); obtain rfl := sj h; exact Ends.eR V
theorem Zr {a : (List Span)} {b : (List Span)} {r : Bool} (h : ZQ a b = some r) : Fn CX 19 [(vl Span.cs a), (vl Span.cs b)] (vb r) := by
 refine Fn.go Try.func19 V fun σ H => ?_; unfold ZQ at h; refine .tR 1 V H fun b1 σ H => (.aV V (.nila H fun H => (.then (.Z1B 23 V (by kernel_rfl) H fun b2 σ H B2 => (.mV V (.nV V (.iV V (.mV V ?_)))))))); refine .md H 4 [(12, (vb (((a.length : Int) == 0) || ((b.length : Int) == 0)))), (0, (vl Span.cs a)), (1, (vl Span.cs b))] [] rfl ?_ fun e σ H => ?_
 ·refine .split V V ?_ ?_ <;> intro hc1
  ·refine .ps 3 V (.kT V (.nil ?_)); exact ⟨⟨or_T hc1, V, V, U⟩, H.wk (by omega)⟩
  ·refine .mV V (.nV V (.iV V (.kF V (.nil ?_)))); exact ⟨⟨or_F hc1, V, V, U⟩, H.wk (by omega)⟩
 refine .mV V ?_; obtain ⟨y1, hj1, h⟩ := bs h; refine .md H 13 [(26, (vb y1))] [] V ?_ fun e σ H => ?_
 ·refine .sp hj1 V ?_ ?_ <;> intro h
  ·refine .ps 12 V (.kT V (.nil ?_)); obtain rfl := sj h; exact ⟨EI V, H.wk (by omega)⟩
  refine .mV V (.mV V (.nV V (.iV V (.wt V V ?_)))); obtain ⟨x1, q1, h⟩ := bs h; refine .jV q1 V (.wt V V (.Z0d V V V V (.pV V (.mV V (.wt V V ?_))))); obtain ⟨x2, q2, h⟩ := bs h; refine .jV q2 V (.wt V V (.Z0d V V V V (.pV V (.iV V (.kF V (.nil ?_)))))); obtain rfl := sj h; exact ⟨EI V, H.wk (by omega)⟩
 refine .aV V (.nila H fun H => (.ret ?_)); obtain rfl := sj h; exact Ends.eR V
theorem Z6C {f : Form} {i : Int} {r : Bool} (h : Z2E f i = some r) : Fn CX 58 [(.agg (vs (Form.cs f))), (vi i)] (vb r) := by
 refine Fn.go Try.func58 V fun σ H => ?_; unfold Z2E at h; refine .tR 2 V H fun b1 σ H => (.boxH (cs := (vF f)) H (by omega) (by omega) V V V fun σ H => (.aV V (.nila H fun H => (.tR 8 V H fun b2 σ H => (.LV (vF f) H 0 V (.mV V ?_)))))); obtain ⟨x1, q1, h⟩ := bs h; refine .Z4w (ys := [(.agg (vs (Form.cs f))), (vi i)]) H rfl (Z1m q1) nofun rfl ?_; rintro _ _ σ ⟨w1, rfl, rfl⟩ H; refine .m1 (.tup [w1, (vi x1.2)]) V V (.xV V (.xV V (.a1 w1 V V (.aV V (.nila H fun H => (.then (.tR 2 V H fun b3 σ H => (.mV V ?_)))))))); refine .iV V (.nila H fun H => ?_); refine .wh h V ?_ ?_ <;> intro h
 ·refine .tR 1 V H fun b4 σ H => (.aV V (.nila H fun H => (.ret ?_))); obtain rfl := sj h; exact Ends.eR V
 refine .skip (.tR 8 V H fun b5 σ H => (.LV (vF f) H 1 V (.mV V ?_))); obtain ⟨x2, q2, h⟩ := bs h; refine .cV (Z7P q2) V (.m1 (.tup [(vi x2.1), (vb x2.2)]) V V (.xV V (.xV V (.aV V (.aV V (.nila H fun H => (.tR 8 V H fun b6 σ H => (.LV (vF f) H 1 V ?_)))))))); refine .mV V ?_; obtain ⟨x3, q3, h⟩ := bs h; refine .cV (Z7O q3) V (.m1 (.tup [(vi x3.1), (vb x3.2)]) V V (.xV V (.xV V (.aV V (.aV V (.nila H fun H => (.tR 2 V H fun b7 σ H => (.a1 .nils V V ?_)))))))); refine .a1 .nils V V (.nila H fun H => (.then ?_)); replace H := H.pushNil 43 2 true; refine .tR 1 V H fun b8 σ H => (.mV V (.nila H fun H => ?_)); refine .wh h V ?_ ?_ <;> intro h
 ·refine .tR 8 V H fun b9 σ H => (.LV (vF f) H 2 V (.mV V ?_)); obtain ⟨x4, q4, h⟩ := bs h; refine .Z4w (ys := [(.agg (vs (Form.cs f))), (vi x2.1)]) H rfl (Z1m q4) nofun rfl ?_; rintro _ _ σ ⟨w2, rfl, rfl⟩ H; refine .m1 (.tup [w2, (vi x4.2)]) V V (.xV V (.xV V (.a1 w2 V V (.aV V (.nila H fun H => (.tR 2 V H fun b10 σ H => (.mV V (.iV V ?_)))))))); refine .nila H fun H => ?_; refine .wh h V ?_ ?_ <;> intro h
  ·refine .tR 1 V H fun b11 σ H => (.aV V (.nila H fun H => (.ret ?_))); obtain rfl := sj h; exact Ends.eR V
  refine .skip (.then ?_); replace H := H.pushNil 43 2 true; refine .tR 1 V H fun b12 σ H => (.mV V (.nila H fun H => ?_)); refine .wh h V ?_ ?_ <;> intro h
  ·refine .tR 8 V H fun b13 σ H => (.LV (vF f) H 4 V (.mV V ?_)); obtain ⟨x5, q5, h⟩ := bs h; refine .Z4w (ys := [(.agg (vs (Form.cs f))), (vi x3.1)]) H rfl (Z1m q5) nofun rfl ?_; rintro _ _ σ ⟨w3, rfl, rfl⟩ H; refine .m1 (.tup [w3, (vi x5.2)]) V V (.xV V (.xV V (.a1 w3 V V (.aV V (.nila H fun H => (.tR 2 V H fun b14 σ H => (.mV V (.iV V ?_)))))))); refine .nila H fun H => ?_; refine .wh h V ?_ ?_ <;> intro h
   ·refine .tR 1 V H fun b15 σ H => (.aV V (.nila H fun H => (.ret ?_))); obtain rfl := sj h; exact Ends.eR V
   refine .skip (.tR 14 V H fun b16 σ H => (.m1 w2 V V (.m1 w1 V V ?_))); obtain ⟨x6, q6, h⟩ := bs h; refine .Z1X (xs := [w2, w1]) (ys := [(vl Span.cs x4.1), (vl Span.cs x1.1)]) H V (.cons (.c (.s 2 V)) (.cons (.c (.s 4 V)) .nil)) (Zr q6) V V nofun V fun σ H => (.mV V ?_); obtain ⟨y1, hj1, h⟩ := bs h; refine .mid 4 (K1 := fun e σ => ∃ (lb1 : Bool), ZA e [(58, (vb y1)), (11, w2), (12, w3)] ∧ Has σ (b16 + 8) (b16 + 14) [.sl w3 43 2 (x5.1.map Span.cs) lb1, .sl w2 43 2 (x4.1.map Span.cs) false]) V ?_ ?_
   ·refine .sp hj1 V ?_ ?_ <;> intro h
    ·refine .m1 w1 V V (.m1 w3 V V (.wt V V ?_)); obtain ⟨x7, q7, h⟩ := bs h; refine .Z1X (xs := [w1, w3]) (ys := [(vl Span.cs x1.1), (vl Span.cs x5.1)]) H V (.cons (.c (.s 4 V)) (.cons (.c (.s 0 V)) .nil)) (Zr q7) V V nofun V fun σ H => (.kT V (.nil ?_)); obtain rfl := sj h; exact ⟨false, EI V, ((((H.erase 5).erase 4).erase 3).erase 1).wk (by omega)⟩
    refine .ps 3 V (.kF V (.nil ?_)); obtain rfl := sj h; exact ⟨true, EI V, ((((H.erase 5).erase 4).erase 3).erase 1).wk (by omega)⟩
   ·rintro e σ ⟨lb1, he, H⟩; obtain ⟨e, rfl⟩ := he.ex; refine .mV V ?_; obtain ⟨y2, hj2, h⟩ := bs h; refine .md H 4 [(63, (vb y2))] [] V ?_ fun e σ H => ?_
    ·refine .sp hj2 V ?_ ?_ <;> intro h
     ·refine .m1 w2 V V (.m1 w3 V V (.wt V V ?_)); obtain ⟨x8, q8, h⟩ := bs h; refine .Z1X (xs := [w2, w3]) (ys := [(vl Span.cs x4.1), (vl Span.cs x5.1)]) H V (.cons (.c (.s 1 V)) (.cons (.c (.s 0 V)) .nil)) (Zr q8) V V nofun V fun σ H => (.kT V (.nil ?_)); obtain rfl := sj h; exact ⟨EI V, ((H.erase 1).erase 0).wk (by omega)⟩
     refine .ps 3 V (.kF V (.nil ?_)); obtain rfl := sj h; exact ⟨EI V, ((H.erase 1).erase 0).wk (by omega)⟩
    refine .aV V (.nila H fun H => (.ret ?_)); obtain rfl := sj h; exact Ends.eR V
  refine .skip (.tR 14 V H fun b17 σ H => (.m1 w2 V V (.m1 w1 V V ?_))); obtain ⟨x9, q9, h⟩ := bs h; refine .Z1X (xs := [w2, w1]) (ys := [(vl Span.cs x4.1), (vl Span.cs x1.1)]) H V (.cons (.c (.s 1 V)) (.cons (.c (.s 3 V)) .nil)) (Zr q9) V V nofun V fun σ H => (.mV V ?_); obtain ⟨y3, hj3, h⟩ := bs h; refine .mid 4 (K1 := fun e σ => ∃ (lb2 : Bool), ZA e [(58, (vb y3)), (11, w2), (12, .nils)] ∧ Has σ (b17 + 8) (b17 + 14) [.sl .nils 43 2 ([].map Span.cs) lb2, .sl w2 43 2 (x4.1.map Span.cs) false]) V ?_ ?_
  ·refine .sp hj3 V ?_ ?_ <;> intro h
   ·refine .m1 w1 V V (.m1 .nils V V (.wt V V ?_)); obtain ⟨x10, q10, h⟩ := bs h; refine .Z1X (xs := [w1, .nils]) (ys := [(vl Span.cs x1.1), (vl Span.cs [])]) H V (.cons (.c (.s 3 V)) (.cons (.c (.s 0 V)) .nil)) (Zr q10) V V nofun V fun σ H => (.kT V (.nil ?_)); obtain rfl := sj h; exact ⟨false, EI V, (((H.erase 4).erase 3).erase 2).wk (by omega)⟩
   refine .ps 3 V (.kF V (.nil ?_)); obtain rfl := sj h; exact ⟨true, EI V, (((H.erase 4).erase 3).erase 2).wk (by omega)⟩
  ·rintro e σ ⟨lb2, he, H⟩; obtain ⟨e, rfl⟩ := he.ex; refine .mV V ?_; obtain ⟨y4, hj4, h⟩ := bs h; refine .md H 4 [(63, (vb y4))] [] V ?_ fun e σ H => ?_
   ·refine .sp hj4 V ?_ ?_ <;> intro h
    ·refine .m1 w2 V V (.m1 .nils V V (.wt V V ?_)); obtain ⟨x11, q11, h⟩ := bs h; refine .Z1X (xs := [w2, .nils]) (ys := [(vl Span.cs x4.1), (vl Span.cs [])]) H V (.cons (.c (.s 1 V)) (.cons (.c (.s 0 V)) .nil)) (Zr q11) V V nofun V fun σ H => (.kT V (.nil ?_)); obtain rfl := sj h; exact ⟨EI V, ((H.erase 1).erase 0).wk (by omega)⟩
    refine .ps 3 V (.kF V (.nil ?_)); obtain rfl := sj h; exact ⟨EI V, ((H.erase 1).erase 0).wk (by omega)⟩
   refine .aV V (.nila H fun H => (.ret ?_)); obtain rfl := sj h; exact Ends.eR V
 refine .skip (.then ?_); replace H := H.pushNil 43 2 true; refine .tR 1 V H fun b18 σ H => (.mV V (.nila H fun H => ?_)); refine .wh h V ?_ ?_ <;> intro h
 ·refine .tR 8 V H fun b19 σ H => (.LV (vF f) H 3 V (.mV V ?_)); obtain ⟨x12, q12, h⟩ := bs h; refine .Z4w (ys := [(.agg (vs (Form.cs f))), (vi x3.1)]) H rfl (Z1m q12) nofun rfl ?_; rintro _ _ σ ⟨w4, rfl, rfl⟩ H; refine .m1 (.tup [w4, (vi x12.2)]) V V (.xV V (.xV V (.a1 w4 V V (.aV V (.nila H fun H => (.tR 2 V H fun b20 σ H => (.mV V (.iV V ?_)))))))); refine .nila H fun H => ?_; refine .wh h V ?_ ?_ <;> intro h
  ·refine .tR 1 V H fun b21 σ H => (.aV V (.nila H fun H => (.ret ?_))); obtain rfl := sj h; exact Ends.eR V
  refine .skip (.tR 14 V H fun b22 σ H => (.m1 .nils V V (.m1 w1 V V ?_))); obtain ⟨x13, q13, h⟩ := bs h; refine .Z1X (xs := [.nils, w1]) (ys := [(vl Span.cs []), (vl Span.cs x1.1)]) H V (.cons (.c (.s 2 V)) (.cons (.c (.s 3 V)) .nil)) (Zr q13) V V nofun V fun σ H => (.mV V ?_); obtain ⟨y5, hj5, h⟩ := bs h; refine .mid 4 (K1 := fun e σ => ∃ (lb3 : Bool), ZA e [(58, (vb y5)), (11, .nils), (12, w4)] ∧ Has σ (b22 + 8) (b22 + 14) [.sl w4 43 2 (x12.1.map Span.cs) lb3, .sl .nils 43 2 ([].map Span.cs) false]) V ?_ ?_
  ·refine .sp hj5 V ?_ ?_ <;> intro h
   ·refine .m1 w1 V V (.m1 w4 V V (.wt V V ?_)); obtain ⟨x14, q14, h⟩ := bs h; refine .Z1X (xs := [w1, w4]) (ys := [(vl Span.cs x1.1), (vl Span.cs x12.1)]) H V (.cons (.c (.s 3 V)) (.cons (.c (.s 0 V)) .nil)) (Zr q14) V V nofun V fun σ H => (.kT V (.nil ?_)); obtain rfl := sj h; exact ⟨false, EI V, (((H.erase 4).erase 3).erase 1).wk (by omega)⟩
   refine .ps 3 V (.kF V (.nil ?_)); obtain rfl := sj h; exact ⟨true, EI V, (((H.erase 4).erase 3).erase 1).wk (by omega)⟩
  ·rintro e σ ⟨lb3, he, H⟩; obtain ⟨e, rfl⟩ := he.ex; refine .mV V ?_; obtain ⟨y6, hj6, h⟩ := bs h; refine .md H 4 [(63, (vb y6))] [] V ?_ fun e σ H => ?_
   ·refine .sp hj6 V ?_ ?_ <;> intro h
    ·refine .m1 .nils V V (.m1 w4 V V (.wt V V ?_)); obtain ⟨x15, q15, h⟩ := bs h; refine .Z1X (xs := [.nils, w4]) (ys := [(vl Span.cs []), (vl Span.cs x12.1)]) H V (.cons (.c (.s 1 V)) (.cons (.c (.s 0 V)) .nil)) (Zr q15) V V nofun V fun σ H => (.kT V (.nil ?_)); obtain rfl := sj h; exact ⟨EI V, ((H.erase 1).erase 0).wk (by omega)⟩
    refine .ps 3 V (.kF V (.nil ?_)); obtain rfl := sj h; exact ⟨EI V, ((H.erase 1).erase 0).wk (by omega)⟩
   refine .aV V (.nila H fun H => (.ret ?_)); obtain rfl := sj h; exact Ends.eR V
 refine .skip (.tR 14 V H fun b23 σ H => (.m1 .nils V V (.m1 w1 V V ?_))); obtain ⟨x16, q16, h⟩ := bs h; refine .Z1X (xs := [.nils, w1]) (ys := [(vl Span.cs []), (vl Span.cs x1.1)]) H V (.cons (.c (.s 1 V)) (.cons (.c (.s 2 V)) .nil)) (Zr q16) V V nofun V fun σ H => (.mV V ?_); obtain ⟨y7, hj7, h⟩ := bs h; refine .mid 4 (K1 := fun e σ => ∃ (lb4 : Bool), ZA e [(58, (vb y7)), (11, .nils), (12, .nils)] ∧ Has σ (b23 + 8) (b23 + 14) [.sl .nils 43 2 ([].map Span.cs) lb4, .sl .nils 43 2 ([].map Span.cs) false]) V ?_ ?_
 ·refine .sp hj7 V ?_ ?_ <;> intro h
  ·refine .m1 w1 V V (.m1 .nils V V (.wt V V ?_)); obtain ⟨x17, q17, h⟩ := bs h; refine .Z1X (xs := [w1, .nils]) (ys := [(vl Span.cs x1.1), (vl Span.cs [])]) H V (.cons (.c (.s 2 V)) (.cons (.c (.s 0 V)) .nil)) (Zr q17) V V nofun V fun σ H => (.kT V (.nil ?_)); obtain rfl := sj h; exact ⟨false, EI V, ((H.erase 3).erase 2).wk (by omega)⟩
  refine .ps 3 V (.kF V (.nil ?_)); obtain rfl := sj h; exact ⟨true, EI V, ((H.erase 3).erase 2).wk (by omega)⟩
 ·rintro e σ ⟨lb4, he, H⟩; obtain ⟨e, rfl⟩ := he.ex; refine .mV V ?_; obtain ⟨y8, hj8, h⟩ := bs h; refine .md H 4 [(63, (vb y8))] [] V ?_ fun e σ H => ?_
  ·refine .sp hj8 V ?_ ?_ <;> intro h
   ·refine .m1 .nils V V (.m1 .nils V V (.wt V V ?_)); obtain ⟨x18, q18, h⟩ := bs h; refine .Z1X (xs := [.nils, .nils]) (ys := [(vl Span.cs []), (vl Span.cs [])]) H V (.cons (.c (.s 1 V)) (.cons (.c (.s 0 V)) .nil)) (Zr q18) V V nofun V fun σ H => (.kT V (.nil ?_)); obtain rfl := sj h; exact ⟨EI V, ((H.erase 1).erase 0).wk (by omega)⟩
   refine .ps 3 V (.kF V (.nil ?_)); obtain rfl := sj h; exact ⟨EI V, ((H.erase 1).erase 0).wk (by omega)⟩
  refine .aV V (.nila H fun H => (.ret ?_)); obtain rfl := sj h; exact Ends.eR V
theorem Z7c {f : Form} {i : Int} {r : Bool} (h : Z10 f i = some r) : Fn CX 58 [(.agg (vs (Form.cs f))), (vi i)] (vb r) := Z6C (by rw [Z63]; exact h)
theorem Z3E {f : Form} {r : Int} (h : Zk f = some r) : Fn CX 32 [(.agg (vs (Form.cs f)))] (vi r) := by
 refine Fn.go Try.func32 V fun σ H => ?_; unfold Zk at h; refine .tR 2 V H fun b1 σ H => (.boxH (cs := (vF f)) H (by omega) (by omega) V V V fun σ H => (.aV V (.nila H fun H => (.then (.tR 15 V H fun b2 σ H => (.fV H 0 V (.lV H 0 V (.nV V ?_)))))))); refine .iV V (.mV V ?_); refine .md H 5 [(14, (vb ((decide ((f.Core.length : Int) > 6000)) || (decide ((f.Odd.length : Int) > 6000))))), (1, (.ptr (b1 + 0) 4 0))] [.blk (b1 + 0) 25 (vF f)] rfl ?_ fun e σ H => ?_
 ·refine .split V V ?_ ?_ <;> intro hc1
  ·refine .ps 4 V (.kT V (.nil ?_)); exact ⟨⟨or_T hc1, V, U⟩, H.wk (by omega)⟩
  ·refine .fV H 0 V (.lV H 0 V (.nV V (.iV V (.kF V (.nil ?_))))); exact ⟨⟨or_F hc1, V, U⟩, H.wk (by omega)⟩
 refine .mV V ?_; obtain ⟨y1, hj1, h⟩ := bs h; refine .md H 4 [(19, (vb y1)), (1, (.ptr (b1 + 0) 4 0))] [.blk (b1 + 0) 25 (vF f)] V ?_ fun e σ H => ?_
 ·refine .sp hj1 V ?_ ?_ <;> intro h
  ·refine .ps 3 V (.kT V (.nil ?_)); obtain rfl := sj h; exact ⟨EI V, H.wk (by omega)⟩
  refine .LV (vF f) H 0 V (.wt V V ?_); obtain ⟨x1, q1, h⟩ := bs h; refine .cV (Z5b q1) V (.iV V (.kF V (.nil ?_))); obtain rfl := sj h; exact ⟨EI V, H.wk (by omega)⟩
 refine .nila H fun H => ?_; refine .wh h V ?_ ?_ <;> intro h
 ·refine .tR 1 V H fun b3 σ H => (.aV V (.nila H fun H => (.ret ?_))); obtain rfl := sj h; exact Ends.eR V
 refine .skip (.then (.tR 8 V H fun b4 σ H => (.LV (vF f) H 0 V ?_))); obtain ⟨x2, q2, h⟩ := bs h; refine .cV (gran_shape_fn q2) V (.tV V (.mV V ?_)); obtain ⟨y2, hj2, h⟩ := bs h; refine .md H 4 [(27, (vb y2)), (1, (.ptr (b1 + 0) 4 0))] [.blk (b1 + 0) 25 (vF f)] V ?_ fun e σ H => ?_
 ·refine .sp hj2 V ?_ ?_ <;> intro h
  ·refine .ps 3 V (.kT V (.nil ?_)); obtain rfl := sj h; exact ⟨EI V, H.wk (by omega)⟩
  refine .LV (vF f) H 0 V (.wt V V ?_); obtain ⟨x3, q3, h⟩ := bs h; refine .cV (gran_turns_fn q3) V (.tV V (.kF V (.nil ?_))); obtain rfl := sj h; exact ⟨EI V, H.wk (by omega)⟩
 refine .nila H fun H => ?_; refine .wh h V ?_ ?_ <;> intro h
 ·refine .tR 1 V H fun b5 σ H => (.aV V (.nila H fun H => (.ret ?_))); obtain rfl := sj h; exact Ends.eR V
 refine .skip (.then (.tR 4 V H fun b6 σ H => (.fV H 0 V (.lV H 0 V (.nV V (.mV V (.nila H fun H => (.inBlock ?_)))))))); obtain ⟨y3, hj3, h⟩ := bs h; obtain ⟨n1, hj3⟩ := ZI.1 hj3; refine .mono (Runs.loopO hj3 (fun s1 e σ => ZA e [(1, (.ptr (b1 + 0) 4 0)), (29, (vl Granule.cs f.Odd)), (30, (vi (f.Odd.length : Int))), (31, (vi s1))] ∧ Hs σ [.blk (b1 + 0) 25 (vF f)]) (fun y3 x e σ => (∃ a1, y3 = (.go a1) ∧ x = .exit 0 ∧ ZA e [] ∧ Hs σ []) ∨ (∃ r', y3 = (.ret r') ∧ x = .ret ∧ Ends CX Try.f32.results.toList (vi r') x e σ)) ⟨EI V, H⟩ ?_) ?_
 ·intro s1 e σ hI z h; obtain ⟨he, H⟩ := hI; obtain ⟨e, rfl⟩ := he.ex; unfold Zk.s0 at h; refine .tR 1 V H fun b7 σ H => (.iV V (.nila H fun H => (.then ?_))); refine .wh h V ?_ ?_ <;> intro h
  ·refine .skip (.then (.inBlock (.tR 4 V H fun b8 σ H => ?_))); obtain ⟨x4, q4, h⟩ := bs h; refine .jV q4 V (.qV [(.int .i64 x4.Index), (.sl (x4.Ticks.map Span.cs))] V (.Z0O (cs := [(vi 0), .nils]) H (by omega) (by omega) V V fun σ H => (.sV [(vi x4.Index), (vl Span.cs x4.Ticks)] H 0 V fun σ H => (.nila H fun H => (.tR 5 V H fun b9 σ H => (.LV (vF f) H 1 V (.fV H 0 V (.lV H 0 V ?_)))))))); obtain ⟨x5, q5, h⟩ := bs h; refine .cV (Z7c q5) V (.tV V (.nila H fun H => ?_)); refine .wh h V ?_ ?_ <;> intro h
   ·refine .tR 1 V H fun b10 σ H => (.aV V (.nila H fun H => (.ret ?_))); obtain rfl := sj h; exact ⟨nofun, (.inr ⟨_, V, V, (Ends.H (xs := [(vi 50)]) (.inr V) H (.tmp (v := (vi 50)) V .nil) (.one (.c (.v _))))⟩)⟩
   refine .skip (.ZM 2 V H fun b11 σ H => (.iV V (.mV V (.nila H fun H => ?_)))); obtain rfl := sj h; exact ⟨V, EI V, (H.erase 0)⟩
  refine .exit ?_; obtain rfl := sj h; exact ⟨nofun, (.inl ⟨_, V, V, U, (H.erase 0)⟩)⟩
 ·rintro x e σ (⟨a2, rfl, rfl, he, H⟩ | ⟨r', rfl, rfl, hE⟩)
  ·replace h := jgo h; obtain ⟨e, rfl⟩ := he.ex; refine .tR 1 V H fun b12 σ H => (.aV V (.nila H fun H => (.ret ?_))); obtain rfl := sj h; exact Ends.eR V
  ·replace h := jret h; obtain rfl := sj h; exact hE
theorem Z4d {f : Form} {r : Bool} (h : Zs f = some r) : Fn CX 25 [(.agg (vs (Form.cs f)))] (vb r) := by
 refine Fn.go Try.func25 V fun σ H => ?_; unfold Zs at h; refine .tR 2 V H fun b1 σ H => (.boxH (cs := (vF f)) H (by omega) (by omega) V V V fun σ H => (.aV V (.nila H fun H => (.tR 8 V H fun b2 σ H => (.LV (vF f) H 0 V ?_))))); obtain ⟨x1, q1, h⟩ := bs h; refine .cV (Z4e q1) V (.mV V ?_); obtain ⟨y1, hj1, h⟩ := bs h; refine .md H 4 [(9, (vb y1))] [] V ?_ fun e σ H => ?_
 ·refine .sp hj1 V ?_ ?_ <;> intro h
  ·refine .LV (vF f) H 0 V (.wt V V ?_); obtain ⟨x2, q2, h⟩ := bs h; refine .cV (Z3E q2) V (.iV V (.kT V (.nil ?_))); obtain rfl := sj h; exact ⟨EI V, (H.erase 0).wk (by omega)⟩
  refine .ps 3 V (.kF V (.nil ?_)); obtain rfl := sj h; exact ⟨EI V, (H.erase 0).wk (by omega)⟩
 refine .aV V (.nila H fun H => (.ret ?_)); obtain rfl := sj h; exact Ends.eR V
theorem Z0F {r : Bool} (h : ZE = r) : Fn CX 26 [] (vb r) := by
 subst h; exact Fn.intr (by rfl) V V V
theorem Z3T {l : (List Span)} {r : (List Span)} (h : Z18 l = some r) : Fn CX 44 [(vl Span.cs l)] (vl Span.cs r) := by
 refine Fn.go Try.func44 V fun σ H => ?_; unfold Z18 at h; refine .tR 1 V H fun b1 σ H => (.a1 .nils V V (.nila H fun H => (.tR 4 V H fun b2 σ H => (.mV V (.nV V ?_))))); obtain ⟨x1, q1, h⟩ := bs h; refine .makeS (zs := [(.int .i64 0), (.int .i64 0)]) (cc := Span.cs) H (by omega) (by omega) V V q1 V V V V V V V fun σ H => (.aB V (.nila H fun H => (.tR 3 V H fun b3 σ H => (.mB V (.mV V (.copyS (c := Span.cs) (w := (vl Span.cs l)) (xs := x1) (ys := l) H 0 V V V V (.m (fun _ => V)) V V nofun V fun σ H => (.nila H fun H => (.tR 2 V H fun b4 σ H => ?_)))))))); refine .mB V (.aB V (.nila H fun H => (.ret ?_))); obtain rfl := sj h; exact (Ends.H (xs := [(.buf (b2 + 2) ((l.length : Int)).toNat 2)]) (.inr V) H (.tmp (v := (.buf (b2 + 2) ((l.length : Int)).toNat 2)) V .nil) (.one (.c (.s 0 V))))
theorem Z2M {f : Form} {r : Form} (h : ZJ f = some r) : Fn CX 22 [(.agg (vs (Form.cs f)))] (.agg (vs (Form.cs r))) := by
 refine Fn.go Try.func22 V fun σ H => ?_; unfold ZJ at h; refine .tR 2 V H fun b1 σ H => (.boxH (cs := (vF f)) H (by omega) (by omega) V V V fun σ H => (.Z0O (cs := [(vi 0), (vi 0), .nils, .nils]) H (by omega) (by omega) V V fun σ H => (.nila H fun H => (.tR 7 V H fun b2 σ H => (.fV H 1 V (.lV H 1 V (.fV H 1 V (.lV H 1 V ?_)))))))); refine .bV [(vi f.Period), (vi f.Count), .nils, .nils] V (.Z0O (cs := [(vi 0), (vi 0), .nils, .nils]) H (by omega) (by omega) V V fun σ H => (.sV [(vi f.Period), (vi f.Count), .nils, .nils] H 0 V fun σ H => (.nila H fun H => (.then (.tR 4 V H fun b3 σ H => (.fV H 2 V (.lV H 2 V (.nV V ?_)))))))); refine .mV V (.nila H fun H => (.inBlock ?_)); replace H := H.pushNil 31 1 true; obtain ⟨y1, hj1, h⟩ := bs h; obtain ⟨n1, hj1⟩ := ZI.1 hj1; refine .mono (Runs.loopO hj1 (fun s2 e σ => ∃ (w3 : PV), ZA e [(1, (.ptr (b1 + 0) 4 0)), (2, (.ptr (b1 + 1) 4 0)), (3, (.ptr (b2 + 5) 4 0)), (14, (vl (cL Span.cs) f.Core)), (15, (vi (f.Core.length : Int))), (16, (vi s2.1))] ∧ Hs σ [.sl w3 31 1 (s2.2.map (cL Span.cs)) true, .blk (b2 + 5) 25 [(vi f.Period), (vi f.Count), w3, .nils], .blk (b1 + 1) 25 [(vi 0), (vi 0), .nils, .nils], .blk (b1 + 0) 25 (vF f)]) (fun y1 x e σ => ∃ (w4 : PV), x = .exit 0 ∧ ZA e [(1, (.ptr (b1 + 0) 4 0)), (2, (.ptr (b1 + 1) 4 0)), (3, (.ptr (b2 + 5) 4 0))] ∧ Hs σ [.sl w4 31 1 (y1.map (cL Span.cs)) true, .blk (b2 + 5) 25 [(vi f.Period), (vi f.Count), w4, .nils], .blk (b1 + 1) 25 [(vi 0), (vi 0), .nils, .nils], .blk (b1 + 0) 25 (vF f)]) ⟨.nils, EI V, H⟩ ?_) ?_
 ·intro s2 e σ hI z h; obtain ⟨w3, he, H⟩ := hI; obtain ⟨e, rfl⟩ := he.ex; unfold ZJ.s0 at h; refine .tR 1 V H fun b4 σ H => (.iV V (.nila H fun H => (.then ?_))); refine .wh h V ?_ ?_ <;> intro h
  ·refine .skip (.then (.inBlock (.tR 3 V H fun b5 σ H => ?_))); obtain ⟨x1, q1, h⟩ := bs h; refine .jV q1 V (.pV V (.aV V (.nila H fun H => (.Z1B 8 V (by kernel_rfl) H fun b6 σ H B6 => (.ZN H 1 V V V V V (fun _ => .inl ⟨B6 1 _ V _ V, nofun, (fun _ => by kernel_rfl)⟩) V (.ld w3 H 1 V V V V V (fun _ => .inl ⟨B6 1 _ V _ V, nofun, (fun _ => by kernel_rfl)⟩) V (.mV V ?_))))))); obtain ⟨x2, q2, h⟩ := bs h; refine .cV (Z3T q2) V (.Z2R (sz := 1) ([x2].map (cL Span.cs)) H (by omega) (by omega) V V V V V V V V V fun σ H => ?_); obtain ⟨x3, q3, h⟩ := bs h; refine .Z17 (c := (cL Span.cs)) (v := w3) (w := (.buf (b6 + 4) 1 1)) (xs := s2.2) (ys := [x2]) H (by omega) (by omega) 1 V V V (.s 0 V) q3 V V V V V (fun h => ⟨(fun id ho => .inl ⟨B6 0 _ V id ho, (fun _ => by kernel_rfl), nofun⟩), (fun id ho => .inr ⟨4, (by cases ho; rfl), (fun h => nomatch h), by kernel_rfl, by decide⟩)⟩) V fun w5 σ H => (.ZN H 2 V V V V V (fun _ => .inl ⟨B6 1 _ V _ V, nofun, (fun _ => by kernel_rfl)⟩) V (.Z5F (v := w5) (ys := [w5]) (cells' := [(vi f.Period), (vi f.Count), w5, .nils]) H 2 V V V V (H.slCells (k := 1) V) V V V V (fun _ => .inl ⟨B6 1 _ V _ V, (Z2Z (by kernel_rfl))⟩) fun σ H => (.nila H fun H => (.ZM 2 V H fun b7 σ H => (.iV V (.mV V (.nila H fun H => ?_))))))); obtain rfl := sj h; exact ⟨V, w5, EI V, (H.erase 0)⟩
  refine .exit ?_; obtain rfl := sj h; exact ⟨nofun, ⟨w3, V, EI V, H⟩⟩
 ·rintro x e σ ⟨w6, rfl, he, H⟩; obtain ⟨e, rfl⟩ := he.ex; refine .then (.tR 4 V H fun b8 σ H => (.fV H 3 V (.lV H 3 V (.nV V (.mV V (.nila H fun H => (.inBlock ?_))))))); replace H := H.pushNil 45 2 true; obtain ⟨y2, hj2, h⟩ := bs h; obtain ⟨n2, hj2⟩ := ZI.1 hj2; refine .mono (Runs.loopO hj2 (fun s4 e σ => ∃ (w9 : PV), ZA e [(2, (.ptr (b1 + 1) 4 0)), (3, (.ptr (b2 + 5) 4 0)), (29, (vl Granule.cs f.Odd)), (30, (vi (f.Odd.length : Int))), (31, (vi s4.1))] ∧ Hs σ [.sl w9 45 2 (s4.2.map Granule.cs) true, .sl w6 31 1 (y1.map (cL Span.cs)) true, .blk (b2 + 5) 25 [(vi f.Period), (vi f.Count), w6, w9], .blk (b1 + 1) 25 [(vi 0), (vi 0), .nils, .nils]]) (fun y2 x e σ => ∃ (w10 : PV), x = .exit 2 ∧ ZA e [(2, (.ptr (b1 + 1) 4 0)), (3, (.ptr (b2 + 5) 4 0))] ∧ Hs σ [.sl w10 45 2 (y2.map Granule.cs) true, .sl w6 31 1 (y1.map (cL Span.cs)) true, .blk (b2 + 5) 25 [(vi f.Period), (vi f.Count), w6, w10], .blk (b1 + 1) 25 [(vi 0), (vi 0), .nils, .nils]]) ⟨.nils, EI V, (H.erase 4)⟩ ?_) ?_
  ·intro s4 e σ hI z h; obtain ⟨w9, he, H⟩ := hI; obtain ⟨e, rfl⟩ := he.ex; unfold ZJ.s1 at h; refine .tR 1 V H fun b9 σ H => (.iV V (.nila H fun H => (.then ?_))); refine .wh h V ?_ ?_ <;> intro h
   ·refine .skip (.then (.inBlock (.tR 4 V H fun b10 σ H => ?_))); obtain ⟨x4, q4, h⟩ := bs h; refine .jV q4 V (.qV [(.int .i64 x4.Index), (.sl (x4.Ticks.map Span.cs))] V (.Z0O (cs := [(vi 0), .nils]) H (by omega) (by omega) V V fun σ H => (.sV [(vi x4.Index), (vl Span.cs x4.Ticks)] H 0 V fun σ H => (.nila H fun H => (.Z1B 12 V (by kernel_rfl) H fun b11 σ H B11 => (.ZN H 3 V V V V V (fun _ => .inl ⟨B11 3 _ V _ V, nofun, (fun _ => by kernel_rfl)⟩) V (.ld w9 H 3 V V V V V (fun _ => .inl ⟨B11 3 _ V _ V, nofun, (fun _ => by kernel_rfl)⟩) V (.ZN H 0 V V V V V (fun _ => .inl ⟨B11 0 _ V _ V, nofun, (fun _ => by kernel_rfl)⟩) V ?_)))))))); refine .ld (vi x4.Index) H 0 V V V V V (fun _ => .inl ⟨B11 0 _ V _ V, nofun, (fun _ => by kernel_rfl)⟩) V (.ZN H 0 V V V V V (fun _ => .inl ⟨B11 0 _ V _ V, nofun, (fun _ => by kernel_rfl)⟩) V (.ld (vl Span.cs x4.Ticks) H 0 V V V V V (fun _ => .inl ⟨B11 0 _ V _ V, nofun, (fun _ => by kernel_rfl)⟩) V ?_)); obtain ⟨x5, q5, h⟩ := bs h; refine .cV (Z3T q5) V (.bV [(vi x4.Index), (vl Span.cs x5)] V (.Z2R (sz := 2) ([(Granule.mk x4.Index x5)].map Granule.cs) H (by omega) (by omega) V V V V V V V V V fun σ H => ?_)); obtain ⟨x6, q6, h⟩ := bs h; refine .Z17 (c := Granule.cs) (v := w9) (w := (.buf (b11 + 8) 1 2)) (xs := s4.2) (ys := [(Granule.mk x4.Index x5)]) H (by omega) (by omega) 2 V V V (.s 0 V) q6 V V V V V (fun h => ⟨(fun id ho => .inl ⟨B11 1 _ V id ho, (fun _ => by kernel_rfl), nofun⟩), (fun id ho => .inr ⟨8, (by cases ho; rfl), (fun h => nomatch h), by kernel_rfl, by decide⟩)⟩) V fun w11 σ H => (.ZN H 4 V V V V V (fun _ => .inl ⟨B11 3 _ V _ V, nofun, (fun _ => by kernel_rfl)⟩) V (.Z5F (v := w11) (ys := [w11]) (cells' := [(vi f.Period), (vi f.Count), w6, w11]) H 4 V V V V (H.slCells (k := 2) V) V V V V (fun _ => .inl ⟨B11 3 _ V _ V, (Z2Z (by kernel_rfl))⟩) fun σ H => (.nila H fun H => (.ZM 2 V H fun b12 σ H => (.iV V (.mV V (.nila H fun H => ?_)))))))
    obtain rfl := sj h; exact ⟨V, w11, EI V, ((H.erase 1).erase 0)⟩
   refine .exit ?_; obtain rfl := sj h; exact ⟨nofun, ⟨w9, V, EI V, H⟩⟩
  ·rintro x e σ ⟨w12, rfl, he, H⟩; obtain ⟨e, rfl⟩ := he.ex; refine .tR 2 V H fun b13 σ H => (.LV [(vi f.Period), (vi f.Count), w6, w12] H 2 V (.sV [(vi f.Period), (vi f.Count), w6, w12] H 3 V fun σ H => (.nila H fun H => (.ret ?_)))); obtain rfl := sj h; exact (Ends.H (xs := [(.agg [(vi f.Period), (vi f.Count), w6, w12])]) (.inr V) H (.agg (cs := [(vi f.Period), (vi f.Count), w6, w12]) 3 V V V V V V V .nil) (.one (.a (.cons (.v _) (.cons (.v _) (.cons (.s 1 V) (.cons (.s 0 V) .nil)))))))
theorem Z6t {l : (List Span)} {r : Bool} (h : Z3j l = r) : Fn CX 79 [(vl Span.cs l)] (vb r) := by
 refine Fn.go Try.func79 V fun σ H => ?_; unfold Z3j at h; refine .tR 1 V H fun b1 σ H => (.aV V (.nila H fun H => (.tR 4 V H fun b2 σ H => (.mV V (.nV V (.iV V (.aV V (.nila H fun H => ?_)))))))); refine .ret ?_; subst h; exact Ends.eR V
theorem canon_bare_fn {f : Form} {r : Bool} (h : Z2r f = some r) : Fn CX 64 [(.agg (vs (Form.cs f)))] (vb r) := by
 refine Fn.go Try.func64 V fun σ H => ?_; unfold Z2r at h; refine .tR 2 V H fun b1 σ H => (.boxH (cs := (vF f)) H (by omega) (by omega) V V V fun σ H => (.aV V (.nila H fun H => (.tR 5 V H fun b2 σ H => (.fV H 0 V (.lV H 0 V ?_)))))); obtain ⟨x1, q1, h⟩ := bs h; refine .callH (ys := [(vl (cL Span.cs) f.Core), (.v (.fn 79))]) (r := (vb x1)) H V (Z0W (C := []) V (fun _ => V) (fun z0 y hz => (CloH.fn (Fn.toH (Z6t (Option.some.inj hz)) _))) q1) .nil nofun V fun σ H => (.tV V (.aV V (.nila H fun H => (.ret ?_)))); obtain rfl := sj h; exact Ends.eR V
theorem Z5Z {n : Int} {σ : Heap} {lo hi : Nat} {L : List Res} (H : Has σ lo hi L) : ∃ r σ', Zu CX (.fn 65) [(vi n)] σ = some (r, σ') ∧ ∃ i0' : Nat, r = (.clo 80 [] [(.ptr i0' 1 0)]) ∧ Hs σ' (.blk i0' 3 [(vi n)] :: L) := by
 refine callO_of (Post := fun r σ' => ∃ i0' : Nat, r = (.clo 80 [] [(.ptr i0' 1 0)]) ∧ Hs σ' (.blk i0' 3 [(vi n)] :: L)) Try.func65 V V V V V V ?_; replace H := H.all; refine .tR 2 V H fun b1 σ H => (.boxH (cs := [(vi n)]) H (by omega) (by omega) V V V fun σ H => (.aV V (.nila H fun H => (.tR 2 V H fun b2 σ H => (.makeClo (fs := []) (cs := [(.ptr (b1 + 0) 1 0)]) V V V V (.a1 (.clo 80 [] [(.ptr (b1 + 0) 1 0)]) V V (.nila H fun H => (.ret ?_)))))))); exact ⟨.inr V, [(.clo 80 [] [(.ptr (b1 + 0) 1 0)])], Z2Y H (.tmp (v := (.clo 80 [] [(.ptr (b1 + 0) 1 0)])) V .nil), (b1 + 0), V, H.all⟩
theorem Z4c {p1' : Int} {S : Type} {C : S → List Res → Prop} {yield : S → Int → Option (S × Bool)} {yid : Nat} {id0' : Nat} (hy : YldH CX yid C (fun z => [(vi z)]) yield) (hcap : ∀ s L, C s L → Sub [.blk id0' 3 [(vi p1')]] L) {st' r : S} (h : Zz p1' yield st' = some r) : ItF CX 80 [(.yld yid), (.ptr id0' 1 0)] C st' r := by
 refine ItF.of Try.func80 V V V V V V V V ?_; intro σ L hC H; have hc0 := hcap _ _ hC; obtain ⟨k0', hk0', hc0⟩ := hc0.inv; unfold Zz at h; refine .tR 1 V H fun b1 σ H => (.aV V (.nila H fun H => (.inBlock ?_))); obtain ⟨y1, hj1, h⟩ := bs h; obtain ⟨n1, hj1⟩ := ZI.1 hj1; refine .mono (Runs.loopO hj1 (fun s1 e σ => ∃ (L : List Res), C s1.2 L ∧ ZA e [(0, (.yld yid)), (1, (.ptr id0' 1 0)), (3, (vi s1.1))] ∧ Hs σ (L)) (fun y1 x e σ => (∃ a1, ∃ (L : List Res), C a1 L ∧ y1 = (.go a1) ∧ x = .exit 0 ∧ ZA e [] ∧ Hs σ (L)) ∨ (∃ r', y1 = (.ret r') ∧ x = .ret ∧ EndsI C r' x e σ)) ⟨_, hC, EI V, H⟩ ?_) ?_
 ·intro s1 e σ hI z h; obtain ⟨L, hC, he, H⟩ := hI; obtain ⟨e, rfl⟩ := he.ex; have hc0 := hcap _ _ hC; obtain ⟨k0', hk0', hc0⟩ := hc0.inv; unfold Zz.s0 at h; refine .then (.tR 3 V H fun b2 σ H => (.mV V (.ld (vi p1') H k0' hk0' V V V V nofun V (.iV V (.nila H fun H => ?_))))); refine .wh h V ?_ ?_ <;> intro h
  ·refine .skip (.then (.inBlock (.tR 10 V H fun b3 σ H => (.ld (vi p1') H k0' hk0' V V V V nofun V (.mV V ?_))))); obtain ⟨u1, q1, h⟩ := bs h; refine .rem (m := p1') (m' := s1.1) V V (nz_ne q1) V (.iV V (.mV V ?_)); obtain ⟨y2, hj2, h⟩ := bs h; refine .mid 5 (K1 := fun e σ => ∃ L, C y2.2 L ∧ ZA e [(18, (vb y2.1)), (0, (.yld yid)), (1, (.ptr id0' 1 0)), (3, (vi s1.1))] ∧ Hs σ (L)) V ?_ ?_
   ·refine .sp hj2 V ?_ ?_ <;> intro h
    ·refine .m1 (.yld yid) V V (.mV V (.wt V V ?_)); obtain ⟨x1, q2, h⟩ := bs h; refine .callY (z := s1.1) (s' := x1.1) (b := x1.2) [] H hC V V hy q2 V V fun σ L hC H => ?_; have hc0 := hcap _ _ hC; obtain ⟨k0', hk0', hc0⟩ := hc0.inv; refine .tV V (.kT V (.nil ?_)); obtain rfl := sj h; exact ⟨_, hC, EI V, H.all⟩
    refine .ps 4 V (.kF V (.nil ?_)); obtain rfl := sj h; exact ⟨_, hC, EI V, H.all⟩
   ·rintro e σ ⟨L, hC, he, H⟩; obtain ⟨e, rfl⟩ := he.ex; have hc0 := hcap _ _ hC; obtain ⟨k0', hk0', hc0⟩ := hc0.inv; refine .nila H fun H => ?_; refine .wh h V ?_ ?_ <;> intro h
    ·refine .ret ?_; obtain rfl := sj h; exact ⟨nofun, (.inr ⟨_, V, V, (EndsI.H (.inr V) H 0 V hC)⟩)⟩
    refine .skip (.ZM 3 V H fun b4 σ H => (.mV V (.iV V (.aV V (.nila H fun H => ?_))))); obtain rfl := sj h; exact ⟨V, _, hC, EI V, H⟩
  refine .exit ?_; obtain rfl := sj h; exact ⟨nofun, (.inl ⟨_, _, hC, V, V, U, H⟩)⟩
 ·rintro x e σ (⟨a2, L, hC, rfl, rfl, he, H⟩ | ⟨r', rfl, rfl, hE⟩)
  ·replace h := jgo h; obtain ⟨e, rfl⟩ := he.ex; have hc0 := hcap _ _ hC; obtain ⟨k0', hk0', hc0⟩ := hc0.inv; obtain rfl := sj h; exact (EndsI.H (.inl V) H 0 V hC)
  ·replace h := jret h; obtain rfl := sj h; exact hE
theorem Z15 {s1' : (List Span)} {s2' : (List Span)} {eq : Span → Span → Option Bool} {C : List Res} {cv0 : PV} (hs0 : cv0.one = true) (hp0 : cv0.pure = true → C = []) (hf0 : ∀ z0 z1 y, eq z0 z1 = some y → CloH CX cv0 [(.agg (vs (Span.cs z0))), (.agg (vs (Span.cs z1)))] (vb y) C) {r : Bool} (h : ZD s1' s2' eq = some r) : FnH CX 84 [(vl Span.cs s1'), (vl Span.cs s2'), cv0] (vb r) C := by
 refine FnH.of Try.func84 V V V V (Z2V V (Z2V V (Z2V (Z2i hs0) all_nil))) V (fun h => hp0 (Z3y h 2 V)) ?_; intro σ L hC H; unfold ZD at h; refine .tR 1 V H fun b1 σ H => (.aV V (.nila H fun H => (.then (.tR 5 V H fun b2 σ H => (.mV V (.nV V (.mV V (.nV V ?_)))))))); refine .iV V (.nila H fun H => ?_); refine .wh h V ?_ ?_ <;> intro h
 ·refine .tR 1 V H fun b3 σ H => (.aV V (.nila H fun H => (.ret ?_))); obtain rfl := sj h; exact (EndsH.H (xs := [(vb false)]) (.inr V) H (.tmp (v := (vb false)) V .nil) (.one (.c (.v _))) 0 V)
 refine .skip (.then (.tR 3 V H fun b4 σ H => (.mV V (.nV V (.mV V (.nila H fun H => (.inBlock ?_))))))); obtain ⟨y1, hj1, h⟩ := bs h; obtain ⟨n1, hj1⟩ := ZI.1 hj1; refine .mono (Runs.loopO hj1 (fun s1 e σ => ZA e [(1, (vl Span.cs s2')), (2, cv0), (15, (vl Span.cs s1')), (16, (vi (s1'.length : Int))), (17, (vi s1))] ∧ Hs σ (L)) (fun y1 x e σ => (∃ a1, y1 = (.go a1) ∧ x = .exit 0 ∧ ZA e [] ∧ Hs σ (L)) ∨ (∃ r', y1 = (.ret r') ∧ x = .ret ∧ EndsH CX Try.f84.results.toList (vb r') L x e σ)) ⟨EI V, H⟩ ?_) ?_
 ·intro s1 e σ hI z h; obtain ⟨he, H⟩ := hI; obtain ⟨e, rfl⟩ := he.ex; unfold ZD.s0 at h; refine .tR 1 V H fun b5 σ H => (.iV V (.nila H fun H => (.then ?_))); refine .wh h V ?_ ?_ <;> intro h
  ·refine .skip (.then (.inBlock (.tR 6 V H fun b6 σ H => (.mV V ?_)))); obtain ⟨x1, q1, h⟩ := bs h; refine .jV q1 V (.qV [(.int .i64 x1.From), (.int .i64 x1.To)] V (.Z0O (cs := [(vi 0), (vi 0)]) H (by omega) (by omega) V V fun σ H => (.aV V (.sV [(vi x1.From), (vi x1.To)] H 0 V fun σ H => (.nila H fun H => (.tR 6 V H fun b7 σ H => (.mV V (.mV V ?_)))))))); obtain ⟨x2, q2, h⟩ := bs h; refine .jV q2 V (.qV [(.int .i64 x2.From), (.int .i64 x2.To)] V (.Z0O (cs := [(vi 0), (vi 0)]) H (by omega) (by omega) V V fun σ H => (.sV [(vi x2.From), (vi x2.To)] H 0 V fun σ H => (.nila H fun H => (.tR 5 V H fun b8 σ H => (.m1 cv0 V V (.LV [(vi x1.From), (vi x1.To)] H 1 V (.LV [(vi x2.From), (vi x2.To)] H 0 V ?_)))))))); obtain ⟨x3, q3, h⟩ := bs h; refine .callV (cv := cv0) (ys := [(.agg (vs (Span.cs x1))), (.agg (vs (Span.cs x2)))]) (r := (vb x3)) H V V (hf0 x1 x2 _ q3) hC.push.push nofun V fun σ H => (.tV V (.nila H fun H => ?_)); refine .wh h V ?_ ?_ <;> intro h
   ·refine .tR 1 V H fun b9 σ H => (.aV V (.nila H fun H => (.ret ?_))); obtain rfl := sj h; exact ⟨nofun, (.inr ⟨_, V, V, (EndsH.H (xs := [(vb false)]) (.inr V) H (.tmp (v := (vb false)) V .nil) (.one (.c (.v _))) 2 V)⟩)⟩
   refine .skip (.ZM 2 V H fun b10 σ H => (.iV V (.mV V (.nila H fun H => ?_)))); obtain rfl := sj h; exact ⟨V, EI V, ((H.erase 1).erase 0)⟩
  refine .exit ?_; obtain rfl := sj h; exact ⟨nofun, (.inl ⟨_, V, V, U, H⟩)⟩
 ·rintro x e σ (⟨a2, rfl, rfl, he, H⟩ | ⟨r', rfl, rfl, hE⟩)
  ·replace h := jgo h; obtain ⟨e, rfl⟩ := he.ex; refine .tR 1 V H fun b11 σ H => (.aV V (.nila H fun H => (.ret ?_))); obtain rfl := sj h; exact (EndsH.H (xs := [(vb true)]) (.inr V) H (.tmp (v := (vb true)) V .nil) (.one (.c (.v _))) 0 V)
  ·replace h := jret h; obtain rfl := sj h; exact hE
theorem Z51 {x' : Span} {y : Span} {p2' : Int} {id0' : Nat} {r : Bool} (h : Z0g x' y p2' = r) : FnH CX 85 [(.agg (vs (Span.cs x'))), (.agg (vs (Span.cs y))), (.ptr id0' 1 0)] (vb r) [.blk id0' 3 [(vi p2')]] := by
 refine FnH.of Try.func85 V V V V V V (fun h => by have := Z3y h 2 V; cases this) ?_; intro σ L hC H; have hC0 := hC; obtain ⟨k0', hk0', hC⟩ := hC.inv; unfold Z0g at h; refine .tR 3 V H fun b1 σ H => (.boxH (cs := [(vi x'.From), (vi x'.To)]) H (by omega) (by omega) V V V fun σ H => (.boxH (cs := [(vi y.From), (vi y.To)]) H (by omega) (by omega) V V V fun σ H => (.aV V (.nila H fun H => (.tR 17 V H fun b2 σ H => (.fV H 0 V (.lV H 0 V (.fV H 1 V ?_)))))))); refine .lV H 1 V (.iV V (.ld (vi p2') H (k0' + 2) hk0' V V V V nofun V (.iV V (.mV V ?_)))); refine .md H 8 [(21, (vb (((w64 (y.From - x'.From)) == p2') && ((w64 (y.To - x'.To)) == p2'))))] (L) V ?_ fun e σ H => ?_
 ·refine .split V V ?_ ?_ <;> intro hc1
  ·refine .fV H 0 V (.lV H 0 V (.fV H 1 V (.lV H 1 V (.iV V (.wt V V (.ld (vi p2') H (k0' + 2) hk0' V V V V nofun V (.iV V (.kT V ?_)))))))); refine .nil ?_; exact ⟨⟨Z2W hc1, U⟩, ((H.erase 1).erase 0).wk (by omega)⟩
  ·refine .ps 7 V (.kF V (.nil ?_)); exact ⟨⟨Z2X hc1, U⟩, ((H.erase 1).erase 0).wk (by omega)⟩
 refine .aV V (.nila H fun H => (.ret ?_)); subst h; exact (EndsH.H (xs := [(vb (((w64 (y.From - x'.From)) == p2') && ((w64 (y.To - x'.To)) == p2')))]) (.inr V) H (.tmp (v := (vb (((w64 (y.From - x'.From)) == p2') && ((w64 (y.To - x'.To)) == p2')))) V .nil) (.one (.c (.v _))) 0 V)
theorem Z5s {a : (List Span)} {b : (List Span)} {by' : Int} {r : Bool} (h : Z1T a b by' = some r) : Fn CX 81 [(vl Span.cs a), (vl Span.cs b), (vi by')] (vb r) := by
 refine Fn.go Try.func81 V fun σ H => ?_; unfold Z1T at h; refine .tR 2 V H fun b1 σ H => (.boxH (cs := [(vi by')]) H (by omega) (by omega) V V V fun σ H => (.aV V (.nila H fun H => (.tR 5 V H fun b2 σ H => (.mV V (.mV V (.makeClo (fs := []) (cs := [(.ptr (b1 + 0) 1 0)]) V V V V ?_))))))); obtain ⟨x1, q1, h⟩ := bs h; refine .callH (ys := [(vl Span.cs a), (vl Span.cs b), (.clo 85 [] [(.ptr (b1 + 0) 1 0)])]) (r := (vb x1)) H V (Z15 (C := [.blk (b1 + 0) 3 [(vi by')]]) V (fun h => by simp [PV.pure] at h) (fun z0 z1 y hz => (CloH.clo (Z51 (Option.some.inj hz)))) q1) (.cons 0 V .nil) nofun V fun σ H => (.aV V (.nila H fun H => (.ret ?_))); obtain rfl := sj h; exact Ends.eR V
end Go.Dn

namespace Go.Dn
open Go Go.Proofs
set_option maxRecDepth 100000
set_option maxHeartbeats 4000000
theorem canon_turn_fn {f : Form} {d : Int} {by' : Int} {r : Bool} (h : Z0b f d by' = some r) : Fn CX 66 [(.agg (vs (Form.cs f))), (vi d), (vi by')] (vb r) := by
 refine Fn.go Try.func66 V fun σ H => ?_; unfold Z0b at h; refine .tR 2 V H fun b1 σ H => (.boxH (cs := (vF f)) H (by omega) (by omega) V V V fun σ H => (.aV V (.nila H fun H => (.then (.tR 4 V H fun b2 σ H => (.fV H 0 V (.lV H 0 V (.nV V ?_)))))))); refine .mV V (.nila H fun H => (.inBlock ?_)); obtain ⟨y1, hj1, h⟩ := bs h; obtain ⟨n1, hj1⟩ := ZI.1 hj1; refine .mono (Runs.loopO hj1 (fun s1 e σ => ZA e [(1, (vi d)), (2, (vi by')), (3, (.ptr (b1 + 0) 4 0)), (12, (vl (cL Span.cs) f.Core)), (13, (vi (f.Core.length : Int))), (14, (vi s1))] ∧ Hs σ [.blk (b1 + 0) 25 (vF f)]) (fun y1 x e σ => (∃ a1, y1 = (.go a1) ∧ x = .exit 0 ∧ ZA e [] ∧ Hs σ []) ∨ (∃ r', y1 = (.ret r') ∧ x = .ret ∧ Ends CX Try.f66.results.toList (vb r') x e σ)) ⟨EI V, H⟩ ?_) ?_
 ·intro s1 e σ hI z h; obtain ⟨he, H⟩ := hI; obtain ⟨e, rfl⟩ := he.ex; unfold Z0b.s0 at h; refine .tR 1 V H fun b3 σ H => (.iV V (.nila H fun H => (.then ?_))); refine .wh h V ?_ ?_ <;> intro h
  ·refine .skip (.then ?_); obtain ⟨y2, hj2, h⟩ := bs h; refine .mono (Q := fun x e σ => (∃ a2, y2 = (.go a2) ∧ x = .normal ∧ ZA e [(1, (vi d)), (2, (vi by')), (3, (.ptr (b1 + 0) 4 0)), (12, (vl (cL Span.cs) f.Core)), (13, (vi (f.Core.length : Int))), (14, (vi s1))] ∧ Hs σ [.blk (b1 + 0) 25 (vF f)]) ∨ (∃ r', y2 = (.ret r') ∧ x = .ret ∧ Ends CX Try.f66.results.toList (vb r') x e σ)) ?_ ?_
   ·replace h := hj2; refine .inBlock ?_; obtain ⟨y3, hj3, h⟩ := bs h; refine .mono (Q := fun x e σ => (∃ a3, y3 = (.go a3) ∧ x = .normal ∧ ZA e [(1, (vi d)), (2, (vi by')), (3, (.ptr (b1 + 0) 4 0)), (12, (vl (cL Span.cs) f.Core)), (13, (vi (f.Core.length : Int))), (14, (vi s1))] ∧ Hs σ [.blk (b1 + 0) 25 (vF f)]) ∨ (∃ r', y3 = (.ret r') ∧ x = .ret ∧ Ends CX Try.f66.results.toList (vb r') x e σ)) ?_ ?_
    ·replace h := hj3; refine .tR 5 V H fun b4 σ H => (.mV V ?_); obtain ⟨x1, q1, h⟩ := bs h; refine .jV q1 V (.pV V (.aV V (.aV V (.nila H fun H => (.tR 4 V H fun b5 σ H => (.mV V (.mV V (.iV V ?_)))))))); refine .aV V (.nila H fun H => (.tR 1 V H fun b6 σ H => (.aV V (.nila H fun H => (.then ?_))))); refine .jn h .normal (fun y4 => [(1, (vi d)), (2, (vi by')), (3, (.ptr (b1 + 0) 4 0)), (8, (vl Span.cs x1)), (9, (vi y4.1)), (10, (vi y4.2)), (12, (vl (cL Span.cs) f.Core)), (13, (vi (f.Core.length : Int))), (14, (vi s1))]) (fun y4 => [.blk (b1 + 0) 25 (vF f)]) (fun y4 h => ?_) fun y4 e σ H h => ?_
     ·refine .tR 4 V H fun b7 σ H => (.mV V (.fV H 0 V (.lV H 0 V (.iV V (.nila H fun H => ?_))))); refine .wh h V ?_ ?_ <;> intro h
      ·refine .Z1B 8 V (by kernel_rfl) H fun b8 σ H B8 => (.mV V (.ZN H 0 V V V V V (fun _ => .inl ⟨B8 0 _ V _ V, nofun, (fun _ => by kernel_rfl)⟩) V (.ld (vi f.Count) H 0 V V V V V (fun _ => .inl ⟨B8 0 _ V _ V, nofun, (fun _ => by kernel_rfl)⟩) V (.iV V (.ZN H 0 V V V V V (fun _ => .inl ⟨B8 0 _ V _ V, nofun, (fun _ => by kernel_rfl)⟩) V (.ld (vi f.Period) H 0 V V V V V (fun _ => .inl ⟨B8 0 _ V _ V, nofun, (fun _ => by kernel_rfl)⟩) V (.aV V (.aV V ?_)))))))); refine .nila H fun H => ?_; obtain rfl := sj h; exact ⟨V, EI V, H⟩
      refine .skip ?_; obtain rfl := sj h; exact ⟨V, EI V, H⟩
     refine .tR 11 V H fun b9 σ H => (.mV V (.fV H 0 V (.lV H 0 V (.mV V ?_)))); obtain ⟨x2, q2, h⟩ := bs h; refine .jV q2 V (.pV V (.mV V (.mV V (.iV V ?_)))); obtain ⟨x3, q3, h⟩ := bs h; refine .cV (Z5s q3) V (.tV V (.nila H fun H => ?_)); refine .wh h V ?_ ?_ <;> intro h
     ·refine .tR 1 V H fun b10 σ H => (.aV V (.nila H fun H => (.ret ?_))); obtain rfl := sj h; exact (.inr ⟨_, V, V, (Ends.H (xs := [(vb false)]) (.inr V) H (.tmp (v := (vb false)) V .nil) (.one (.c (.v _))))⟩)
     refine .skip ?_; obtain rfl := sj h; exact (.inl ⟨_, V, V, EI V, H⟩)
    ·rintro x e σ (⟨a4, rfl, rfl, he, H⟩ | ⟨r', rfl, rfl, hE⟩)
     ·replace h := jgo h; obtain ⟨e, rfl⟩ := he.ex; obtain rfl := sj h; exact (.inl ⟨_, V, V, EI V, H⟩)
     ·replace h := jret h; obtain rfl := sj h; exact (.inr ⟨_, V, V, hE⟩)
   ·rintro x e σ (⟨a5, rfl, rfl, he, H⟩ | ⟨r', rfl, rfl, hE⟩)
    ·replace h := jgo h; obtain ⟨e, rfl⟩ := he.ex; refine .ZM 2 V H fun b11 σ H => (.iV V (.mV V (.nila H fun H => ?_))); obtain rfl := sj h; exact ⟨V, EI V, H⟩
    ·replace h := jret h; obtain rfl := sj h; exact ⟨nofun, (.inr ⟨_, V, V, hE⟩)⟩
  refine .exit ?_; obtain rfl := sj h; exact ⟨nofun, (.inl ⟨_, V, V, U, (H.erase 0)⟩)⟩
 ·rintro x e σ (⟨a6, rfl, rfl, he, H⟩ | ⟨r', rfl, rfl, hE⟩)
  ·replace h := jgo h; obtain ⟨e, rfl⟩ := he.ex; refine .tR 1 V H fun b12 σ H => (.aV V (.nila H fun H => (.ret ?_))); obtain rfl := sj h; exact Ends.eR V
  ·replace h := jret h; obtain rfl := sj h; exact hE
theorem Z1D {l : List Span} {r : List Span} (h : clone? 16 l = some r) : Fn CX 47 [(vl Span.cs l)] (vl Span.cs r) := by
 obtain ⟨h1, rfl⟩ := clone_some h; refine Fn.intr ?_ V V V; rw [cx_intr47]; unfold Z4M
 dsimp only
 rw [if_pos ⟨by simp [Span.cs], by simpa using h1⟩]
theorem canon_core_fn {f : Form} {r : Form} (h : Zj f = some r) : Fn CX 49 [(.agg (vs (Form.cs f)))] (.agg (vs (Form.cs r))) := by
 refine Fn.go Try.func49 V fun σ H => ?_; unfold Zj at h; refine .tR 2 V H fun b1 σ H => (.boxH (cs := (vF f)) H (by omega) (by omega) V V V fun σ H => (.Z0O (cs := [(vi 0), (vi 0), .nils, .nils]) H (by omega) (by omega) V V fun σ H => (.nila H fun H => (.scope (.tR 3 V H fun b2 σ H => (.bV [(vi 0), (vi 0), .nils, .nils] V (.Z0O (cs := [(vi 0), (vi 0), .nils, .nils]) H (by omega) (by omega) V V fun σ H => (.sV [(vi 0), (vi 0), .nils, .nils] H 0 V fun σ H => ?_)))))))); refine .nila H fun H => (.then (.tR 2 V H fun b3 σ H => (.LV (vF f) H 2 V ?_))); obtain ⟨x1, q1, h⟩ := bs h; refine .cV (canon_bare_fn q1) V (.nila H fun H => ?_); refine .wh h V ?_ ?_ <;> intro h
 ·refine .tR 2 V H fun b4 σ H => (.LV [(vi 0), (vi 0), .nils, .nils] H 0 V (.sV [(vi 0), (vi 0), .nils, .nils] H 1 V fun σ H => (.nila H fun H => (.ret ?_)))); obtain rfl := sj h; exact (Ends.H (xs := [(.agg [(vi 0), (vi 0), .nils, .nils])]) (.inr V) H (.agg (cs := [(vi 0), (vi 0), .nils, .nils]) 1 V V V V V V V .nil) (.one (.a (.cons (.v _) (.cons (.v _) (.cons .n (.cons .n .nil)))))))
 refine .skip (.then (.label (.then ?_))); obtain ⟨y1, hj1, h⟩ := bs h; refine .mono (Q := fun x e σ => ∃ (w1 : PV), x = .normal ∧ ZA e [(2, (.ptr (b1 + 1) 4 0)), (3, (.ptr (b2 + 1) 4 0))] ∧ Hs σ [.sl w1 31 1 (y1.1.map (cL Span.cs)) true, .blk (b2 + 1) 25 [(vi y1.2.1), (vi y1.2.2), w1, .nils], .blk (b1 + 1) 25 [(vi 0), (vi 0), .nils, .nils]]) ?_ ?_
 ·replace h := hj1; refine .tR 3 V H fun b5 σ H => (.fV H 2 V (.lV H 2 V ?_)); refine .callO (ys := [(vi f.Count)]) rfl (Z5Z H) nofun rfl ?_; rintro _ σ ⟨id1, rfl, H⟩; refine .nila H fun H => (.inBlock ?_); replace H := H.pushNil 31 1 true; obtain ⟨y2, hj2, h⟩ := bs h; refine .rangeH H rfl (fun s2 M => ∃ (w4 : PV), M = [.sl w4 31 1 (s2.1.map (cL Span.cs)) true, .blk id1 3 [(vi f.Count)], .blk (b2 + 1) 25 [(vi s2.2.1), (vi s2.2.2), w4, .nils], .blk (b1 + 1) 25 [(vi 0), (vi 0), .nils, .nils], .blk (b1 + 0) 25 (vF f)]) (fun z2 => [(vi z2)]) (Zj.b0 f) (fun p => if p = 0 then none else some (.exit 0)) rfl (fun p => by (repeat' split) <;> exact ⟨_, rfl⟩) (r := y2) ⟨.nils, rfl⟩ (fun _ => rfl) (fun _ => rfl) ?_ (fun id hy => Z4c hy (fun s L hL => by obtain ⟨M, hM, rfl⟩ := hL; obtain ⟨_, rfl⟩ := hM; exact (.cons 2 rfl .nil)) hj2) ?_
  ·intro R0 R1 s2 z2 s' p h σ M O hM H; obtain ⟨w4, rfl⟩ := hM; unfold Zj.b0 at h; refine .env [(17, (vi z2)), (1, (.ptr (b1 + 0) 4 0)), (2, (.ptr (b1 + 1) 4 0)), (3, (.ptr (b2 + 1) 4 0)), (16, (.clo 80 [] [(.ptr id1 1 0)]))] (EI V) fun e => (.ZM 1 V H fun b6 σ H => (.aV V (.nila H fun H => ?_))); refine ⟨V, [.sl w4 31 1 (s2.1.map (cL Span.cs)) true, .blk id1 3 [(vi f.Count)], .blk (b2 + 1) 25 [(vi s2.2.1), (vi s2.2.2), w4, .nils], .blk (b1 + 1) 25 [(vi 0), (vi 0), .nils, .nils], .blk (b1 + 0) 25 (vF f)], H, ?_⟩; intro σ H; refine .inBlock (.then (.Z1B 14 V (by kernel_rfl) H fun b7 σ H B7 => (.ZN H 5 V V V V V (fun _ => .inl ⟨B7 5 _ V _ V, nofun, (fun _ => by kernel_rfl)⟩) V (.ld (vi f.Period) H 5 V V V V V (fun _ => .inl ⟨B7 5 _ V _ V, nofun, (fun _ => by kernel_rfl)⟩) V (.ZN H 5 V V V V V (fun _ => .inl ⟨B7 5 _ V _ V, nofun, (fun _ => by kernel_rfl)⟩) V (.ld (vi f.Count) H 5 V V V V V (fun _ => .inl ⟨B7 5 _ V _ V, nofun, (fun _ => by kernel_rfl)⟩) V (.mV V ?_))))))); obtain ⟨u1, q2, h⟩ := bs h; refine .quo (m := f.Count) (m' := z2) V V (nz_ne q2) V ?_; obtain ⟨x2, q3, h⟩ := bs h; refine .cV (Z4t q3) V (.m1 (.tup [(vi x2.1), (vi x2.2.1), (vi x2.2.2)]) V V (.xV V (.xV V (.xV V (.aV V (.aV V (.aV V (.nila H fun H => ?_)))))))); refine .then (.tR 9 V H fun b8 σ H => (.mV V (.iV V (.mV V ?_)))); obtain ⟨y3, hj3, h⟩ := bs h; refine .md H 6 [(37, (vb y3)), (1, (.ptr (b1 + 0) 4 0)), (2, (.ptr (b1 + 1) 4 0)), (3, (.ptr (b2 + 1) 4 0)), (4, (vi z2)), (5, (vi x2.1))] (R1 :: .sl w4 31 1 (s2.1.map (cL Span.cs)) true :: .blk id1 3 [(vi f.Count)] :: .blk (b2 + 1) 25 [(vi s2.2.1), (vi s2.2.2), w4, .nils] :: .blk (b1 + 1) 25 [(vi 0), (vi 0), .nils, .nils] :: .blk (b1 + 0) 25 (vF f) :: O) V ?_ fun e σ H => ?_
   ·refine .sp hj3 V ?_ ?_ <;> intro h
    ·refine .ps 5 V (.kT V (.nil ?_)); obtain rfl := sj h; exact ⟨EI V, H.wk (by omega)⟩
    refine .LV (vF f) H 5 V (.mV V (.mV V (.wt V V ?_))); obtain ⟨x3, q4, h⟩ := bs h; refine .cV (canon_turn_fn q4) V (.tV V (.kF V (.nil ?_))); obtain rfl := sj h; exact ⟨EI V, H.wk (by omega)⟩
   refine .nila H fun H => ?_; refine .wh h V ?_ ?_ <;> intro h
   ·refine .exit ?_; obtain ⟨rfl, rfl⟩ := Prod.mk.inj (Option.some.inj h); exact ⟨⟨V, (iff_of_true V V)⟩, _, ⟨w4, V⟩, H⟩
   refine .skip (.tR 6 V H fun b9 σ H => (.mV V (.mV V (.fV H 3 V (.sV [(vi x2.1), (vi s2.2.2), w4, .nils] H 3 V fun σ H => (.fV H 3 V (.sV [(vi x2.1), (vi z2), w4, .nils] H 3 V fun σ H => (.nila H fun H => ?_)))))))); refine .then (.tR 6 V H fun b10 σ H => (.fV H 5 V (.lV H 5 V (.mV V ?_)))); obtain ⟨x4, q5, h⟩ := bs h; refine .sliceP01 (c := (cL Span.cs)) q5 V V V V (fun _ => V) V (.nV V (.mV V (.nila H fun H => (.inBlock ?_)))); obtain ⟨y4, hj4, h⟩ := bs h; obtain ⟨n1, hj4⟩ := ZI.1 hj4; refine .mono (Runs.loopO hj4 (fun s3 e σ => ∃ (w7 : PV), ZA e [(2, (.ptr (b1 + 1) 4 0)), (3, (.ptr (b2 + 1) 4 0)), (45, (vl (cL Span.cs) x4)), (46, (vi (x4.length : Int))), (47, (vi s3.1))] ∧ Hs σ (R1 :: .sl w7 31 1 (s3.2.map (cL Span.cs)) true :: .blk id1 3 [(vi f.Count)] :: .blk (b2 + 1) 25 [(vi x2.1), (vi z2), w7, .nils] :: .blk (b1 + 1) 25 [(vi 0), (vi 0), .nils, .nils] :: .blk (b1 + 0) 25 (vF f) :: O)) (fun y4 x e σ => ∃ (w8 : PV), x = .exit 2 ∧ ZA e [(2, (.ptr (b1 + 1) 4 0)), (3, (.ptr (b2 + 1) 4 0))] ∧ Hs σ (R1 :: .sl w8 31 1 (y4.map (cL Span.cs)) true :: .blk id1 3 [(vi f.Count)] :: .blk (b2 + 1) 25 [(vi x2.1), (vi z2), w8, .nils] :: .blk (b1 + 1) 25 [(vi 0), (vi 0), .nils, .nils] :: .blk (b1 + 0) 25 (vF f) :: O)) ⟨w4, EI V, H⟩ ?_) ?_
   ·intro s3 e σ hI z h; obtain ⟨w7, he, H⟩ := hI; obtain ⟨e, rfl⟩ := he.ex; unfold Zj.s1 at h; refine .tR 1 V H fun b11 σ H => (.iV V (.nila H fun H => (.then ?_))); refine .wh h V ?_ ?_ <;> intro h
    ·refine .skip (.then (.inBlock (.tR 3 V H fun b12 σ H => ?_))); obtain ⟨x5, q6, h⟩ := bs h; refine .jV q6 V (.pV V (.aV V (.nila H fun H => (.Z1B 8 V (by kernel_rfl) H fun b13 σ H B13 => (.ZN H 3 V V V V V (fun _ => .inl ⟨B13 3 _ V _ V, nofun, (fun _ => by kernel_rfl)⟩) V (.ld w7 H 3 V V V V V (fun _ => .inl ⟨B13 3 _ V _ V, nofun, (fun _ => by kernel_rfl)⟩) V (.mV V ?_))))))); obtain ⟨x6, q7, h⟩ := bs h; refine .cV (Z1D q7) V (.Z2R (sz := 1) ([x6].map (cL Span.cs)) H (by omega) (by omega) V V V V V V V V V fun σ H => ?_); obtain ⟨x7, q8, h⟩ := bs h; refine .Z17 (c := (cL Span.cs)) (v := w7) (w := (.buf (b13 + 4) 1 1)) (xs := s3.2) (ys := [x6]) H (by omega) (by omega) 2 V V V (.s 0 V) q8 V V V V V (fun h => ⟨(fun id ho => .inl ⟨B13 1 _ V id ho, (fun _ => by kernel_rfl), nofun⟩), (fun id ho => .inr ⟨4, (by cases ho; rfl), (fun h => nomatch h), by kernel_rfl, by decide⟩)⟩) V fun w9 σ H => (.ZN H 4 V V V V V (fun _ => .inl ⟨B13 3 _ V _ V, nofun, (fun _ => by kernel_rfl)⟩) V (.Z5F (v := w9) (ys := [w9]) (cells' := [(vi x2.1), (vi z2), w9, .nils]) H 4 V V V V (H.slCells (k := 2) V) V V V V (fun _ => .inl ⟨B13 3 _ V _ V, (Z2Z (by kernel_rfl))⟩) fun σ H => (.nila H fun H => (.ZM 2 V H fun b14 σ H => (.iV V (.mV V (.nila H fun H => ?_))))))); obtain rfl := sj h; exact ⟨V, w9, EI V, (H.erase 0)⟩
    refine .exit ?_; obtain rfl := sj h; exact ⟨nofun, ⟨w7, V, EI V, H⟩⟩
   ·rintro x e σ ⟨w10, rfl, he, H⟩; obtain ⟨e, rfl⟩ := he.ex; refine .exit ?_; obtain ⟨rfl, rfl⟩ := Prod.mk.inj (Option.some.inj h); exact ⟨⟨V, (iff_of_false nofun nofun)⟩, _, ⟨w10, V⟩, H⟩
  ·intro x σ M hx hM H; obtain ⟨w11, rfl⟩ := hM; cases hc0_ : (y2.2 == 0)
   ·replace h := cond_F hc0_ h; have hx : x = .exit 0 := by simpa [ne_of_beq_false hc0_, Z3z] using hx.symm
    subst hx; obtain rfl := sj h; exact ⟨w11, V, EI V, ((H.erase 4).erase 1)⟩
   ·replace h := cond_T hc0_ h; have hx : x = .normal := by rw [eq_of_beq hc0_] at hx; exact (Option.some.inj hx).symm
    subst hx; obtain rfl := sj h; exact ⟨w11, V, EI V, ((H.erase 4).erase 1)⟩
 ·rintro x e σ ⟨w12, rfl, he, H⟩; obtain ⟨e, rfl⟩ := he.ex; refine .tR 2 V H fun b15 σ H => (.LV [(vi y1.2.1), (vi y1.2.2), w12, .nils] H 1 V (.sV [(vi y1.2.1), (vi y1.2.2), w12, .nils] H 2 V fun σ H => (.nila H fun H => (.ret ?_)))); obtain rfl := sj h; exact (Ends.H (xs := [(.agg [(vi y1.2.1), (vi y1.2.2), w12, .nils])]) (.inr V) H (.agg (cs := [(vi y1.2.1), (vi y1.2.2), w12, .nils]) 2 V V V V V V V .nil) (.one (.a (.cons (.v _) (.cons (.v _) (.cons (.s 0 V) (.cons .n .nil)))))))
theorem Z2u {s1' : (List Span)} {s2' : (List Span)} {r : Bool} (h : ZO s1' s2' = some r) : Fn CX 42 [(vl Span.cs s1'), (vl Span.cs s2')] (vb r) := by
 refine Fn.go Try.func42 V fun σ H => ?_; unfold ZO at h; refine .tR 1 V H fun b1 σ H => (.aV V (.nila H fun H => (.then (.tR 5 V H fun b2 σ H => (.mV V (.nV V (.mV V (.nV V ?_)))))))); refine .iV V (.nila H fun H => ?_); refine .wh h V ?_ ?_ <;> intro h
 ·refine .tR 1 V H fun b3 σ H => (.aV V (.nila H fun H => (.ret ?_))); obtain rfl := sj h; exact Ends.eR V
 refine .skip (.then (.tR 3 V H fun b4 σ H => (.mV V (.nV V (.mV V (.nila H fun H => (.inBlock ?_))))))); obtain ⟨y1, hj1, h⟩ := bs h; obtain ⟨n1, hj1⟩ := ZI.1 hj1; refine .mono (Runs.loopO hj1 (fun s1 e σ => ZA e [(0, (vl Span.cs s1')), (1, (vl Span.cs s2')), (12, (vi (s1'.length : Int))), (13, (vi s1))] ∧ Hs σ []) (fun y1 x e σ => (∃ a1, y1 = (.go a1) ∧ x = .exit 0 ∧ ZA e [] ∧ Hs σ []) ∨ (∃ r', y1 = (.ret r') ∧ x = .ret ∧ Ends CX Try.f42.results.toList (vb r') x e σ)) ⟨EI V, H⟩ ?_) ?_
 ·intro s1 e σ hI z h; obtain ⟨he, H⟩ := hI; obtain ⟨e, rfl⟩ := he.ex; unfold ZO.s0 at h; refine .tR 1 V H fun b5 σ H => (.iV V (.nila H fun H => (.then ?_))); refine .wh h V ?_ ?_ <;> intro h
  ·refine .skip (.then (.inBlock (.tR 2 V H fun b6 σ H => (.mV V (.aV V (.nila H fun H => (.then (.Z1B 9 V (by kernel_rfl) H fun b7 σ H B7 => ?_)))))))); refine .mV V (.mV V ?_); obtain ⟨x1, q1, h⟩ := bs h; refine .jV q1 V (.qV [(.int .i64 x1.From), (.int .i64 x1.To)] V (.mV V (.mV V ?_))); obtain ⟨x2, q2, h⟩ := bs h; refine .jV q2 V (.qV [(.int .i64 x2.From), (.int .i64 x2.To)] V (.binA (u := (.agg [(vi x1.From), (vi x1.To)])) (w := (.agg [(vi x2.From), (vi x2.To)])) (r := .bool (!((x1.From == x2.From) && ((x1.To == x2.To) && true)))) V V (by kernel_rfl) (fun _ => ask_eqA V V V V) V (.nila H fun H => ?_))); refine .wh h V ?_ ?_ <;> intro h
   ·refine .tR 1 V H fun b8 σ H => (.aV V (.nila H fun H => (.ret ?_))); obtain rfl := sj h; exact ⟨nofun, (.inr ⟨_, V, V, (Ends.H (xs := [(vb false)]) (.inr V) H (.tmp (v := (vb false)) V .nil) (.one (.c (.v _))))⟩)⟩
   refine .skip (.ZM 2 V H fun b9 σ H => (.iV V (.mV V (.nila H fun H => ?_)))); obtain rfl := sj h; exact ⟨V, EI V, H⟩
  refine .exit ?_; obtain rfl := sj h; exact ⟨nofun, (.inl ⟨_, V, V, U, H⟩)⟩
 ·rintro x e σ (⟨a2, rfl, rfl, he, H⟩ | ⟨r', rfl, rfl, hE⟩)
  ·replace h := jgo h; obtain ⟨e, rfl⟩ := he.ex; refine .tR 1 V H fun b10 σ H => (.aV V (.nila H fun H => (.ret ?_))); obtain rfl := sj h; exact Ends.eR V
  ·replace h := jret h; obtain rfl := sj h; exact hE
theorem Z3J {a : (List Span)} {b : (List Span)} {r : Bool} (h : Z0C a b = some r) : Fn CX 18 [(vl Span.cs a), (vl Span.cs b)] (vb r) := by
 refine Fn.go Try.func18 V fun σ H => ?_; unfold Z0C at h; refine .tR 1 V H fun b1 σ H => (.aV V (.nila H fun H => (.tR 4 V H fun b2 σ H => (.mV V (.mV V ?_))))); obtain ⟨x1, q1, h⟩ := bs h; refine .cV (Z2u q1) V (.aV V (.nila H fun H => (.ret ?_))); obtain rfl := sj h; exact Ends.eR V
theorem Z72 {f : Form} {g : Granule} {r : Bool} (h : Z2G f g = some r) : Fn CX 50 [(.agg (vs (Form.cs f))), (.agg (vs (Granule.cs g)))] (vb r) := by
 refine Fn.go Try.func50 V fun σ H => ?_; unfold Z2G at h; refine .tR 3 V H fun b1 σ H => (.boxH (cs := (vF f)) H (by omega) (by omega) V V V fun σ H => (.boxH (cs := [(vi g.Index), (vl Span.cs g.Ticks)]) H (by omega) (by omega) V V V fun σ H => (.aV V (.nila H fun H => (.tR 9 V H fun b2 σ H => (.LV (vF f) H 1 V (.fV H 0 V (.lV H 0 V ?_)))))))); obtain ⟨x1, q1, h⟩ := bs h; refine .Z4w (ys := [(.agg (vs (Form.cs f))), (vi g.Index)]) H rfl (Z1m q1) nofun rfl ?_; rintro _ _ σ ⟨w1, rfl, rfl⟩ H; refine .m1 (.tup [w1, (vi x1.2)]) V V (.xV V (.xV V (.a1 w1 V V (.aV V (.nila H fun H => (.tR 9 V H fun b3 σ H => (.mV V (.iV V ?_)))))))); refine .mV V ?_; obtain ⟨y1, hj1, h⟩ := bs h; refine .md H 5 [(21, (vb y1))] [] V ?_ fun e σ H => ?_
 ·refine .sp hj1 V ?_ ?_ <;> intro h
  ·refine .m1 w1 V V (.fV H 1 V (.lV H 1 V (.wt V V ?_))); obtain ⟨x2, q2, h⟩ := bs h; refine .Z1X (xs := [w1, (vl Span.cs g.Ticks)]) (ys := [(vl Span.cs x1.1), (vl Span.cs g.Ticks)]) H V (.cons (.c (.s 0 V)) (.cons (.c (.v _)) .nil)) (Z3J q2) V V nofun V fun σ H => (.kT V (.nil ?_)); obtain rfl := sj h; exact ⟨EI V, (((H.erase 2).erase 1).erase 0).wk (by omega)⟩
  refine .ps 4 V (.kF V (.nil ?_)); obtain rfl := sj h; exact ⟨EI V, (((H.erase 2).erase 1).erase 0).wk (by omega)⟩
 refine .aV V (.nila H fun H => (.ret ?_)); obtain rfl := sj h; exact Ends.eR V
theorem Z0T {f : Form} {r : Form} (h : ZL f = some r) : Fn CX 27 [(.agg (vs (Form.cs f)))] (.agg (vs (Form.cs r))) := by
 refine Fn.go Try.func27 V fun σ H => ?_; unfold ZL at h; refine .tR 2 V H fun b1 σ H => (.boxH (cs := (vF f)) H (by omega) (by omega) V V V fun σ H => (.Z0O (cs := [(vi 0), (vi 0), .nils, .nils]) H (by omega) (by omega) V V fun σ H => (.nila H fun H => (.tR 4 V H fun b2 σ H => (.LV (vF f) H 1 V ?_))))); obtain ⟨x1, q1, h⟩ := bs h; refine .cV (canon_core_fn q1) V (.Z0O (cs := [(vi 0), (vi 0), .nils, .nils]) H (by omega) (by omega) V V fun σ H => (.sV (vF x1) H 0 V fun σ H => (.nila H fun H => (.tR 1 V H fun b3 σ H => (.a1 .nils V V (.nila H fun H => (.then (.tR 4 V H fun b4 σ H => ?_)))))))); refine .fV H 2 V (.lV H 2 V (.nV V (.mV V (.nila H fun H => (.inBlock ?_))))); replace H := H.pushNil 45 2 true; obtain ⟨y1, hj1, h⟩ := bs h; obtain ⟨n1, hj1⟩ := ZI.1 hj1; refine .mono (Runs.loopO hj1 (fun s2 e σ => ∃ (w3 : PV), ZA e [(2, (.ptr (b1 + 1) 4 0)), (3, (.ptr (b2 + 2) 4 0)), (4, w3), (10, (vl Granule.cs f.Odd)), (11, (vi (f.Odd.length : Int))), (12, (vi s2.1))] ∧ Hs σ [.sl w3 45 2 (s2.2.map Granule.cs) true, .blk (b2 + 2) 25 (vF x1), .blk (b1 + 1) 25 [(vi 0), (vi 0), .nils, .nils]]) (fun y1 x e σ => ∃ (w4 : PV), x = .exit 0 ∧ ZA e [(2, (.ptr (b1 + 1) 4 0)), (3, (.ptr (b2 + 2) 4 0)), (4, w4)] ∧ Hs σ [.sl w4 45 2 (y1.map Granule.cs) true, .blk (b2 + 2) 25 (vF x1), .blk (b1 + 1) 25 [(vi 0), (vi 0), .nils, .nils]]) ⟨.nils, EI V, (H.erase 3)⟩ ?_) ?_
 ·intro s2 e σ hI z h; obtain ⟨w3, he, H⟩ := hI; obtain ⟨e, rfl⟩ := he.ex; unfold ZL.s0 at h; refine .tR 1 V H fun b5 σ H => (.iV V (.nila H fun H => (.then ?_))); refine .wh h V ?_ ?_ <;> intro h
  ·refine .skip (.then ?_); obtain ⟨y2, hj2, h⟩ := bs h; refine .mono (Q := fun x e σ => ∃ (w5 : PV), x = .normal ∧ ZA e [(2, (.ptr (b1 + 1) 4 0)), (3, (.ptr (b2 + 2) 4 0)), (4, w5), (10, (vl Granule.cs f.Odd)), (11, (vi (f.Odd.length : Int))), (12, (vi s2.1))] ∧ Hs σ [.sl w5 45 2 (y2.map Granule.cs) true, .blk (b2 + 2) 25 (vF x1), .blk (b1 + 1) 25 [(vi 0), (vi 0), .nils, .nils]]) ?_ ?_
   ·replace h := hj2; refine .inBlock ?_; obtain ⟨y3, hj3, h⟩ := bs h; refine .mono (Q := fun x e σ => ∃ (w6 : PV), x = .normal ∧ ZA e [(2, (.ptr (b1 + 1) 4 0)), (3, (.ptr (b2 + 2) 4 0)), (4, w6), (10, (vl Granule.cs f.Odd)), (11, (vi (f.Odd.length : Int))), (12, (vi s2.1))] ∧ Hs σ [.sl w6 45 2 (y3.map Granule.cs) true, .blk (b2 + 2) 25 (vF x1), .blk (b1 + 1) 25 [(vi 0), (vi 0), .nils, .nils]]) ?_ ?_
    ·replace h := hj3; refine .tR 4 V H fun b6 σ H => ?_; obtain ⟨x2, q2, h⟩ := bs h; refine .jV q2 V (.qV [(.int .i64 x2.Index), (.sl (x2.Ticks.map Span.cs))] V (.Z0O (cs := [(vi 0), .nils]) H (by omega) (by omega) V V fun σ H => (.sV [(vi x2.Index), (vl Span.cs x2.Ticks)] H 0 V fun σ H => (.nila H fun H => (.tR 4 V H fun b7 σ H => (.LV (vF x1) H 2 V (.LV [(vi x2.Index), (vl Span.cs x2.Ticks)] H 0 V ?_))))))); obtain ⟨x3, q3, h⟩ := bs h; refine .cV (Z72 q3) V (.tV V (.nila H fun H => ?_)); refine .wh h V ?_ ?_ <;> intro h
     ·refine .Z1B 10 V (by kernel_rfl) H fun b8 σ H B8 => (.m1 w3 V V (.ZN H 0 V V V V V (fun _ => .inl ⟨B8 0 _ V _ V, nofun, (fun _ => by kernel_rfl)⟩) V (.ld (vi x2.Index) H 0 V V V V V (fun _ => .inl ⟨B8 0 _ V _ V, nofun, (fun _ => by kernel_rfl)⟩) V (.ZN H 0 V V V V V (fun _ => .inl ⟨B8 0 _ V _ V, nofun, (fun _ => by kernel_rfl)⟩) V (.ld (vl Span.cs x2.Ticks) H 0 V V V V V (fun _ => .inl ⟨B8 0 _ V _ V, nofun, (fun _ => by kernel_rfl)⟩) V ?_))))); obtain ⟨x4, q4, h⟩ := bs h; refine .cV (Z1D q4) V (.bV [(vi x2.Index), (vl Span.cs x4)] V (.Z2R (sz := 2) ([(Granule.mk x2.Index x4)].map Granule.cs) H (by omega) (by omega) V V V V V V V V V fun σ H => ?_)); obtain ⟨x5, q5, h⟩ := bs h; refine .Z17 (c := Granule.cs) (v := w3) (w := (.buf (b8 + 7) 1 2)) (xs := s2.2) (ys := [(Granule.mk x2.Index x4)]) H (by omega) (by omega) 2 V V V (.s 0 V) q5 V V V V V (fun h => ⟨(fun id ho => .inl ⟨B8 1 _ V id ho, (fun _ => by kernel_rfl), nofun⟩), (fun id ho => .inr ⟨7, (by cases ho; rfl), (fun h => nomatch h), by kernel_rfl, by decide⟩)⟩) V fun w7 σ H => (.a1 w7 V V (.nila H fun H => ?_)); obtain rfl := sj h; exact ⟨w7, V, EI V, ((H.erase 1).erase 0)⟩
     refine .skip ?_; obtain rfl := sj h; exact ⟨w3, V, EI V, (H.erase 0)⟩
    ·rintro x e σ ⟨w8, rfl, he, H⟩; obtain ⟨e, rfl⟩ := he.ex; obtain rfl := sj h; exact ⟨w8, V, EI V, H⟩
   ·rintro x e σ ⟨w9, rfl, he, H⟩; obtain ⟨e, rfl⟩ := he.ex; refine .ZM 2 V H fun b9 σ H => (.iV V (.mV V (.nila H fun H => ?_))); obtain rfl := sj h; exact ⟨V, w9, EI V, H⟩
  refine .exit ?_; obtain rfl := sj h; exact ⟨nofun, ⟨w3, V, EI V, H⟩⟩
 ·rintro x e σ ⟨w10, rfl, he, H⟩; obtain ⟨e, rfl⟩ := he.ex; refine .tR 3 V H fun b10 σ H => (.m1 w10 V V (.fV H 1 V (.Z5F (v := w10) (ys := [w10]) (cells' := [(vi x1.Period), (vi x1.Count), (vl (cL Span.cs) x1.Core), w10]) H 1 V V V V (H.slCells (k := 0) V) V V V V nofun fun σ H => (.nila H fun H => (.tR 2 V H fun b11 σ H => (.LV [(vi x1.Period), (vi x1.Count), (vl (cL Span.cs) x1.Core), w10] H 1 V (.sV [(vi x1.Period), (vi x1.Count), (vl (cL Span.cs) x1.Core), w10] H 2 V fun σ H => (.nila H fun H => ?_)))))))); refine .ret ?_; obtain rfl := sj h; exact (Ends.H (xs := [(.agg [(vi x1.Period), (vi x1.Count), (vl (cL Span.cs) x1.Core), w10])]) (.inr V) H (.agg (cs := [(vi x1.Period), (vi x1.Count), (vl (cL Span.cs) x1.Core), w10]) 2 V V V V V V V .nil) (.one (.a (.cons (.v _) (.cons (.v _) (.cons (.v _) (.cons (.s 0 V) .nil)))))))
theorem Z0n {s1' : (List (List Span))} {s2' : (List (List Span))} {eq : (List Span) → (List Span) → Option Bool} {C : List Res} {cv0 : PV} (hs0 : cv0.one = true) (hp0 : cv0.pure = true → C = []) (hf0 : ∀ z0 z1 y, eq z0 z1 = some y → CloH CX cv0 [(vl Span.cs z0), (vl Span.cs z1)] (vb y) C) {r : Bool} (h : Z9 s1' s2' eq = some r) : FnH CX 68 [(vl (cL Span.cs) s1'), (vl (cL Span.cs) s2'), cv0] (vb r) C := by
 refine FnH.of Try.func68 V V V V (Z2V V (Z2V V (Z2V (Z2i hs0) all_nil))) V (fun h => hp0 (Z3y h 2 V)) ?_; intro σ L hC H; unfold Z9 at h; refine .tR 1 V H fun b1 σ H => (.aV V (.nila H fun H => (.then (.tR 5 V H fun b2 σ H => (.mV V (.nV V (.mV V (.nV V ?_)))))))); refine .iV V (.nila H fun H => ?_); refine .wh h V ?_ ?_ <;> intro h
 ·refine .tR 1 V H fun b3 σ H => (.aV V (.nila H fun H => (.ret ?_))); obtain rfl := sj h; exact (EndsH.H (xs := [(vb false)]) (.inr V) H (.tmp (v := (vb false)) V .nil) (.one (.c (.v _))) 0 V)
 refine .skip (.then (.tR 3 V H fun b4 σ H => (.mV V (.nV V (.mV V (.nila H fun H => (.inBlock ?_))))))); obtain ⟨y1, hj1, h⟩ := bs h; obtain ⟨n1, hj1⟩ := ZI.1 hj1; refine .mono (Runs.loopO hj1 (fun s1 e σ => ZA e [(1, (vl (cL Span.cs) s2')), (2, cv0), (15, (vl (cL Span.cs) s1')), (16, (vi (s1'.length : Int))), (17, (vi s1))] ∧ Hs σ (L)) (fun y1 x e σ => (∃ a1, y1 = (.go a1) ∧ x = .exit 0 ∧ ZA e [] ∧ Hs σ (L)) ∨ (∃ r', y1 = (.ret r') ∧ x = .ret ∧ EndsH CX Try.f68.results.toList (vb r') L x e σ)) ⟨EI V, H⟩ ?_) ?_
 ·intro s1 e σ hI z h; obtain ⟨he, H⟩ := hI; obtain ⟨e, rfl⟩ := he.ex; unfold Z9.s0 at h; refine .tR 1 V H fun b5 σ H => (.iV V (.nila H fun H => (.then ?_))); refine .wh h V ?_ ?_ <;> intro h
  ·refine .skip (.then (.inBlock (.tR 5 V H fun b6 σ H => (.mV V ?_)))); obtain ⟨x1, q1, h⟩ := bs h; refine .jV q1 V (.pV V (.aV V (.aV V (.nila H fun H => (.tR 5 V H fun b7 σ H => (.mV V (.mV V ?_))))))); obtain ⟨x2, q2, h⟩ := bs h; refine .jV q2 V (.pV V (.aV V (.nila H fun H => (.tR 5 V H fun b8 σ H => (.m1 cv0 V V (.mV V (.mV V ?_))))))); obtain ⟨x3, q3, h⟩ := bs h; refine .callV (cv := cv0) (ys := [(vl Span.cs x1), (vl Span.cs x2)]) (r := (vb x3)) H V V (hf0 x1 x2 _ q3) hC nofun V fun σ H => (.tV V (.nila H fun H => ?_)); refine .wh h V ?_ ?_ <;> intro h
   ·refine .tR 1 V H fun b9 σ H => (.aV V (.nila H fun H => (.ret ?_))); obtain rfl := sj h; exact ⟨nofun, (.inr ⟨_, V, V, (EndsH.H (xs := [(vb false)]) (.inr V) H (.tmp (v := (vb false)) V .nil) (.one (.c (.v _))) 0 V)⟩)⟩
   refine .skip (.ZM 2 V H fun b10 σ H => (.iV V (.mV V (.nila H fun H => ?_)))); obtain rfl := sj h; exact ⟨V, EI V, H⟩
  refine .exit ?_; obtain rfl := sj h; exact ⟨nofun, (.inl ⟨_, V, V, U, H⟩)⟩
 ·rintro x e σ (⟨a2, rfl, rfl, he, H⟩ | ⟨r', rfl, rfl, hE⟩)
  ·replace h := jgo h; obtain ⟨e, rfl⟩ := he.ex; refine .tR 1 V H fun b11 σ H => (.aV V (.nila H fun H => (.ret ?_))); obtain rfl := sj h; exact (EndsH.H (xs := [(vb true)]) (.inr V) H (.tmp (v := (vb true)) V .nil) (.one (.c (.v _))) 0 V)
  ·replace h := jret h; obtain rfl := sj h; exact hE
theorem Z0N {s1' : (List Granule)} {s2' : (List Granule)} {eq : Granule → Granule → Option Bool} {C : List Res} {cv0 : PV} (hs0 : cv0.one = true) (hp0 : cv0.pure = true → C = []) (hf0 : ∀ z0 z1 y, eq z0 z1 = some y → CloH CX cv0 [(.agg (vs (Granule.cs z0))), (.agg (vs (Granule.cs z1)))] (vb y) C) {r : Bool} (h : Z1 s1' s2' eq = some r) : FnH CX 69 [(vl Granule.cs s1'), (vl Granule.cs s2'), cv0] (vb r) C := by
 refine FnH.of Try.func69 V V V V (Z2V V (Z2V V (Z2V (Z2i hs0) all_nil))) V (fun h => hp0 (Z3y h 2 V)) ?_; intro σ L hC H; unfold Z1 at h; refine .tR 1 V H fun b1 σ H => (.aV V (.nila H fun H => (.then (.tR 5 V H fun b2 σ H => (.mV V (.nV V (.mV V (.nV V ?_)))))))); refine .iV V (.nila H fun H => ?_); refine .wh h V ?_ ?_ <;> intro h
 ·refine .tR 1 V H fun b3 σ H => (.aV V (.nila H fun H => (.ret ?_))); obtain rfl := sj h; exact (EndsH.H (xs := [(vb false)]) (.inr V) H (.tmp (v := (vb false)) V .nil) (.one (.c (.v _))) 0 V)
 refine .skip (.then (.tR 3 V H fun b4 σ H => (.mV V (.nV V (.mV V (.nila H fun H => (.inBlock ?_))))))); obtain ⟨y1, hj1, h⟩ := bs h; obtain ⟨n1, hj1⟩ := ZI.1 hj1; refine .mono (Runs.loopO hj1 (fun s1 e σ => ZA e [(1, (vl Granule.cs s2')), (2, cv0), (15, (vl Granule.cs s1')), (16, (vi (s1'.length : Int))), (17, (vi s1))] ∧ Hs σ (L)) (fun y1 x e σ => (∃ a1, y1 = (.go a1) ∧ x = .exit 0 ∧ ZA e [] ∧ Hs σ (L)) ∨ (∃ r', y1 = (.ret r') ∧ x = .ret ∧ EndsH CX Try.f69.results.toList (vb r') L x e σ)) ⟨EI V, H⟩ ?_) ?_
 ·intro s1 e σ hI z h; obtain ⟨he, H⟩ := hI; obtain ⟨e, rfl⟩ := he.ex; unfold Z1.s0 at h; refine .tR 1 V H fun b5 σ H => (.iV V (.nila H fun H => (.then ?_))); refine .wh h V ?_ ?_ <;> intro h
  ·refine .skip (.then (.inBlock (.tR 6 V H fun b6 σ H => (.mV V ?_)))); obtain ⟨x1, q1, h⟩ := bs h; refine .jV q1 V (.qV [(.int .i64 x1.Index), (.sl (x1.Ticks.map Span.cs))] V (.Z0O (cs := [(vi 0), .nils]) H (by omega) (by omega) V V fun σ H => (.aV V (.sV [(vi x1.Index), (vl Span.cs x1.Ticks)] H 0 V fun σ H => (.nila H fun H => (.tR 6 V H fun b7 σ H => (.mV V (.mV V ?_)))))))); obtain ⟨x2, q2, h⟩ := bs h; refine .jV q2 V (.qV [(.int .i64 x2.Index), (.sl (x2.Ticks.map Span.cs))] V (.Z0O (cs := [(vi 0), .nils]) H (by omega) (by omega) V V fun σ H => (.sV [(vi x2.Index), (vl Span.cs x2.Ticks)] H 0 V fun σ H => (.nila H fun H => (.tR 5 V H fun b8 σ H => (.m1 cv0 V V (.LV [(vi x1.Index), (vl Span.cs x1.Ticks)] H 1 V (.LV [(vi x2.Index), (vl Span.cs x2.Ticks)] H 0 V ?_)))))))); obtain ⟨x3, q3, h⟩ := bs h; refine .callV (cv := cv0) (ys := [(.agg (vs (Granule.cs x1))), (.agg (vs (Granule.cs x2)))]) (r := (vb x3)) H V V (hf0 x1 x2 _ q3) hC.push.push nofun V fun σ H => (.tV V (.nila H fun H => ?_)); refine .wh h V ?_ ?_ <;> intro h
   ·refine .tR 1 V H fun b9 σ H => (.aV V (.nila H fun H => (.ret ?_))); obtain rfl := sj h; exact ⟨nofun, (.inr ⟨_, V, V, (EndsH.H (xs := [(vb false)]) (.inr V) H (.tmp (v := (vb false)) V .nil) (.one (.c (.v _))) 2 V)⟩)⟩
   refine .skip (.ZM 2 V H fun b10 σ H => (.iV V (.mV V (.nila H fun H => ?_)))); obtain rfl := sj h; exact ⟨V, EI V, ((H.erase 1).erase 0)⟩
  refine .exit ?_; obtain rfl := sj h; exact ⟨nofun, (.inl ⟨_, V, V, U, H⟩)⟩
 ·rintro x e σ (⟨a2, rfl, rfl, he, H⟩ | ⟨r', rfl, rfl, hE⟩)
  ·replace h := jgo h; obtain ⟨e, rfl⟩ := he.ex; refine .tR 1 V H fun b11 σ H => (.aV V (.nila H fun H => (.ret ?_))); obtain rfl := sj h; exact (EndsH.H (xs := [(vb true)]) (.inr V) H (.tmp (v := (vb true)) V .nil) (.one (.c (.v _))) 0 V)
  ·replace h := jret h; obtain rfl := sj h; exact hE
theorem Z6K {x' : Granule} {y : Granule} {r : Bool} (h : Z0V x' y = some r) : Fn CX 70 [(.agg (vs (Granule.cs x'))), (.agg (vs (Granule.cs y)))] (vb r) := by
 refine Fn.go Try.func70 V fun σ H => ?_; unfold Z0V at h; refine .tR 3 V H fun b1 σ H => (.boxH (cs := [(vi x'.Index), (vl Span.cs x'.Ticks)]) H (by omega) (by omega) V V V fun σ H => (.boxH (cs := [(vi y.Index), (vl Span.cs y.Ticks)]) H (by omega) (by omega) V V V fun σ H => (.aV V (.nila H fun H => (.tR 13 V H fun b2 σ H => (.fV H 1 V (.lV H 1 V (.fV H 0 V ?_)))))))); refine .lV H 0 V (.iV V (.mV V ?_)); obtain ⟨y1, hj1, h⟩ := bs h; refine .md H 6 [(16, (vb y1))] [] V ?_ fun e σ H => ?_
 ·refine .sp hj1 V ?_ ?_ <;> intro h
  ·refine .fV H 1 V (.lV H 1 V (.fV H 0 V (.lV H 0 V (.wt V V ?_)))); obtain ⟨x1, q1, h⟩ := bs h; refine .cV (Z3J q1) V (.kT V (.nil ?_)); obtain rfl := sj h; exact ⟨EI V, ((H.erase 1).erase 0).wk (by omega)⟩
  refine .ps 5 V (.kF V (.nil ?_)); obtain rfl := sj h; exact ⟨EI V, ((H.erase 1).erase 0).wk (by omega)⟩
 refine .aV V (.nila H fun H => (.ret ?_)); obtain rfl := sj h; exact Ends.eR V
theorem Z6y {a : Form} {b : Form} {r : Bool} (h : Z1n a b = some r) : Fn CX 55 [(.agg (vs (Form.cs a))), (.agg (vs (Form.cs b)))] (vb r) := by
 refine Fn.go Try.func55 V fun σ H => ?_; unfold Z1n at h; refine .tR 3 V H fun b1 σ H => (.boxH (cs := (vF a)) H (by omega) (by omega) V V V fun σ H => (.boxH (cs := (vF b)) H (by omega) (by omega) V V V fun σ H => (.aV V (.nila H fun H => (.tR 27 V H fun b2 σ H => (.fV H 1 V (.lV H 1 V (.fV H 0 V ?_)))))))); refine .lV H 0 V (.iV V (.mV V ?_)); refine .md H 6 [(16, (vb ((a.Period == b.Period) && (a.Count == b.Count)))), (2, (.ptr (b1 + 0) 4 0)), (3, (.ptr (b1 + 1) 4 0))] [.blk (b1 + 1) 25 (vF b), .blk (b1 + 0) 25 (vF a)] V ?_ fun e σ H => ?_
 ·refine .split V V ?_ ?_ <;> intro hc1
  ·refine .fV H 1 V (.lV H 1 V (.fV H 0 V (.lV H 0 V (.iV V (.kT V (.nil ?_)))))); exact ⟨⟨Z2W hc1, V, V, U⟩, H.wk (by omega)⟩
  ·refine .ps 5 V (.kF V (.nil ?_)); exact ⟨⟨Z2X hc1, V, V, U⟩, H.wk (by omega)⟩
 refine .mV V ?_; obtain ⟨y1, hj1, h⟩ := bs h; refine .md H 6 [(23, (vb y1)), (2, (.ptr (b1 + 0) 4 0)), (3, (.ptr (b1 + 1) 4 0))] [.blk (b1 + 1) 25 (vF b), .blk (b1 + 0) 25 (vF a)] V ?_ fun e σ H => ?_
 ·refine .sp hj1 V ?_ ?_ <;> intro h
  ·refine .fV H 1 V (.lV H 1 V (.fV H 0 V (.lV H 0 V (.wt V V ?_)))); obtain ⟨x1, q1, h⟩ := bs h; refine .callH (ys := [(vl (cL Span.cs) a.Core), (vl (cL Span.cs) b.Core), (.v (.fn 18))]) (r := (vb x1)) H V (Z0n (C := []) V (fun _ => V) (fun z0 z1 y hz => (CloH.fn (Fn.toH (Z3J hz) _))) q1) .nil nofun V fun σ H => (.kT V (.nil ?_)); obtain rfl := sj h; exact ⟨EI V, H.wk (by omega)⟩
  refine .ps 5 V (.kF V (.nil ?_)); obtain rfl := sj h; exact ⟨EI V, H.wk (by omega)⟩
 refine .mV V ?_; obtain ⟨y2, hj2, h⟩ := bs h; refine .md H 6 [(30, (vb y2))] [] V ?_ fun e σ H => ?_
 ·refine .sp hj2 V ?_ ?_ <;> intro h
  ·refine .fV H 1 V (.lV H 1 V (.fV H 0 V (.lV H 0 V (.wt V V ?_)))); obtain ⟨x2, q2, h⟩ := bs h; refine .callH (ys := [(vl Granule.cs a.Odd), (vl Granule.cs b.Odd), (.v (.fn 70))]) (r := (vb x2)) H V (Z0N (C := []) V (fun _ => V) (fun z0 z1 y hz => (CloH.fn (Fn.toH (Z6K hz) _))) q2) .nil nofun V fun σ H => (.kT V (.nil ?_)); obtain rfl := sj h; exact ⟨EI V, ((H.erase 1).erase 0).wk (by omega)⟩
  refine .ps 5 V (.kF V (.nil ?_)); obtain rfl := sj h; exact ⟨EI V, ((H.erase 1).erase 0).wk (by omega)⟩
 refine .aV V (.nila H fun H => (.ret ?_)); obtain rfl := sj h; exact Ends.eR V
theorem Z19 {f : Form} {g : Form} {r : Bool} (h : Zi f g = some r) : Fn CX 31 [(.agg (vs (Form.cs f))), (.agg (vs (Form.cs g)))] (vb r) := by
 refine Fn.go Try.func31 V fun σ H => ?_; unfold Zi at h; refine .tR 3 V H fun b1 σ H => (.boxH (cs := (vF f)) H (by omega) (by omega) V V V fun σ H => (.boxH (cs := (vF g)) H (by omega) (by omega) V V V fun σ H => (.aV V (.nila H fun H => (.then (.Z1B 6 V (by kernel_rfl) H fun b2 σ H B2 => (.Z0v (cs := (vF f)) H 1 V V V V V V V (fun _ => .inl ⟨B2 1 _ V _ V, nofun, (fun _ => by kernel_rfl)⟩) V ?_))))))); obtain ⟨x1, q1, h⟩ := bs h; refine .cV (Z0T q1) V (.Z0v (cs := (vF g)) H 0 V V V V V V V (fun _ => .inl ⟨B2 0 _ V _ V, nofun, (fun _ => by kernel_rfl)⟩) V ?_); obtain ⟨x2, q2, h⟩ := bs h; refine .cV (Z0T q2) V ?_; obtain ⟨x3, q3, h⟩ := bs h; refine .cV (Z6y q3) V (.aV V (.nila H fun H => (.ret ?_))); obtain rfl := sj h; exact Ends.eR V
theorem Z3B {a : (List Span)} {b : (List Span)} {r : Bool} (h : Zb a b = some r) : Fn CX 48 [(vl Span.cs a), (vl Span.cs b)] (vb r) := by
 refine Fn.go Try.func48 V fun σ H => ?_; unfold Zb at h; refine .tR 1 V H fun b1 σ H => (.aV V (.nila H fun H => (.then (.tR 5 V H fun b2 σ H => (.mV V (.nV V (.mV V (.nV V ?_)))))))); refine .iV V (.nila H fun H => ?_); refine .wh h V ?_ ?_ <;> intro h
 ·refine .tR 1 V H fun b3 σ H => (.aV V (.nila H fun H => (.ret ?_))); obtain rfl := sj h; exact Ends.eR V
 refine .skip (.then (.tR 3 V H fun b4 σ H => (.mV V (.nV V (.mV V (.nila H fun H => (.inBlock ?_))))))); obtain ⟨y1, hj1, h⟩ := bs h; obtain ⟨n1, hj1⟩ := ZI.1 hj1; refine .mono (Runs.loopO hj1 (fun s1 e σ => ZA e [(1, (vl Span.cs b)), (12, (vl Span.cs a)), (13, (vi (a.length : Int))), (14, (vi s1))] ∧ Hs σ []) (fun y1 x e σ => (∃ a1, y1 = (.go a1) ∧ x = .exit 0 ∧ ZA e [] ∧ Hs σ []) ∨ (∃ r', y1 = (.ret r') ∧ x = .ret ∧ Ends CX Try.f48.results.toList (vb r') x e σ)) ⟨EI V, H⟩ ?_) ?_
 ·intro s1 e σ hI z h; obtain ⟨he, H⟩ := hI; obtain ⟨e, rfl⟩ := he.ex; unfold Zb.s0 at h; refine .tR 1 V H fun b5 σ H => (.iV V (.nila H fun H => (.then ?_))); refine .wh h V ?_ ?_ <;> intro h
  ·refine .skip (.then (.inBlock (.tR 6 V H fun b6 σ H => (.mV V ?_)))); obtain ⟨x1, q1, h⟩ := bs h; refine .jV q1 V (.qV [(.int .i64 x1.From), (.int .i64 x1.To)] V (.Z0O (cs := [(vi 0), (vi 0)]) H (by omega) (by omega) V V fun σ H => (.aV V (.sV [(vi x1.From), (vi x1.To)] H 0 V fun σ H => (.nila H fun H => (.then (.Z1B 6 V (by kernel_rfl) H fun b7 σ H B7 => (.mV V ?_)))))))); refine .mV V ?_; obtain ⟨x2, q2, h⟩ := bs h; refine .jV q2 V (.qV [(.int .i64 x2.From), (.int .i64 x2.To)] V (.Z0v (cs := [(vi x1.From), (vi x1.To)]) H 0 V V V V V V V (fun _ => .inl ⟨B7 0 _ V _ V, nofun, (fun _ => by kernel_rfl)⟩) V (.binA (u := (.agg [(vi x2.From), (vi x2.To)])) (w := (.agg [(vi x1.From), (vi x1.To)])) (r := .bool (!((x2.From == x1.From) && ((x2.To == x1.To) && true)))) V V (by kernel_rfl) (fun _ => ask_eqA V V V V) V (.nila H fun H => ?_)))); refine .wh h V ?_ ?_ <;> intro h
   ·refine .tR 1 V H fun b8 σ H => (.aV V (.nila H fun H => (.ret ?_))); obtain rfl := sj h; exact ⟨nofun, (.inr ⟨_, V, V, (Ends.H (xs := [(vb false)]) (.inr V) H (.tmp (v := (vb false)) V .nil) (.one (.c (.v _))))⟩)⟩
   refine .skip (.ZM 2 V H fun b9 σ H => (.iV V (.mV V (.nila H fun H => ?_)))); obtain rfl := sj h; exact ⟨V, EI V, (H.erase 0)⟩
  refine .exit ?_; obtain rfl := sj h; exact ⟨nofun, (.inl ⟨_, V, V, U, H⟩)⟩
 ·rintro x e σ (⟨a2, rfl, rfl, he, H⟩ | ⟨r', rfl, rfl, hE⟩)
  ·replace h := jgo h; obtain ⟨e, rfl⟩ := he.ex; refine .tR 1 V H fun b10 σ H => (.aV V (.nila H fun H => (.ret ?_))); obtain rfl := sj h; exact Ends.eR V
  ·replace h := jret h; obtain rfl := sj h; exact hE
theorem Z0P {a : Form} {b : Form} {r : Bool} (h : Z5 a b = some r) : Fn CX 24 [(.agg (vs (Form.cs a))), (.agg (vs (Form.cs b)))] (vb r) := by
 refine Fn.go Try.func24 V fun σ H => ?_; unfold Z5 at h; refine .tR 3 V H fun b1 σ H => (.boxH (cs := (vF a)) H (by omega) (by omega) V V V fun σ H => (.boxH (cs := (vF b)) H (by omega) (by omega) V V V fun σ H => (.aV V (.nila H fun H => (.then (.tR 30 V H fun b2 σ H => (.fV H 1 V (.lV H 1 V ?_)))))))); refine .fV H 0 V (.lV H 0 V (.iV V (.mV V ?_))); refine .md H 6 [(20, (vb ((a.Period != b.Period) || (a.Count != b.Count)))), (2, (.ptr (b1 + 0) 4 0)), (3, (.ptr (b1 + 1) 4 0))] [.blk (b1 + 1) 25 (vF b), .blk (b1 + 0) 25 (vF a)] rfl ?_ fun e σ H => ?_
 ·refine .split V V ?_ ?_ <;> intro hc1
  ·refine .ps 5 V (.kT V (.nil ?_)); exact ⟨⟨or_T hc1, V, V, U⟩, H.wk (by omega)⟩
  ·refine .fV H 1 V (.lV H 1 V (.fV H 0 V (.lV H 0 V (.iV V (.kF V (.nil ?_)))))); exact ⟨⟨or_F hc1, V, V, U⟩, H.wk (by omega)⟩
 refine .mV V ?_; refine .md H 8 [(29, (vb (((a.Period != b.Period) || (a.Count != b.Count)) || ((a.Core.length : Int) != (b.Core.length : Int))))), (2, (.ptr (b1 + 0) 4 0)), (3, (.ptr (b1 + 1) 4 0))] [.blk (b1 + 1) 25 (vF b), .blk (b1 + 0) 25 (vF a)] rfl ?_ fun e σ H => ?_
 ·refine .split V V ?_ ?_ <;> intro hc2
  ·refine .ps 7 V (.kT V (.nil ?_)); exact ⟨⟨or_T hc2, V, V, U⟩, H.wk (by omega)⟩
  ·refine .fV H 1 V (.lV H 1 V (.nV V (.fV H 0 V (.lV H 0 V (.nV V (.iV V (.kF V (.nil ?_)))))))); exact ⟨⟨or_F hc2, V, V, U⟩, H.wk (by omega)⟩
 refine .mV V ?_; refine .md H 8 [(38, (vb ((((a.Period != b.Period) || (a.Count != b.Count)) || ((a.Core.length : Int) != (b.Core.length : Int))) || ((a.Odd.length : Int) != (b.Odd.length : Int))))), (2, (.ptr (b1 + 0) 4 0)), (3, (.ptr (b1 + 1) 4 0))] [.blk (b1 + 1) 25 (vF b), .blk (b1 + 0) 25 (vF a)] rfl ?_ fun e σ H => ?_
 ·refine .split V V ?_ ?_ <;> intro hc3
  ·refine .ps 7 V (.kT V (.nil ?_)); exact ⟨⟨or_T hc3, V, V, U⟩, H.wk (by omega)⟩
  ·refine .fV H 1 V (.lV H 1 V (.nV V (.fV H 0 V (.lV H 0 V (.nV V (.iV V (.kF V (.nil ?_)))))))); exact ⟨⟨or_F hc3, V, V, U⟩, H.wk (by omega)⟩
 refine .nila H fun H => ?_; refine .wh h V ?_ ?_ <;> intro h
 ·refine .tR 1 V H fun b3 σ H => (.aV V (.nila H fun H => (.ret ?_))); obtain rfl := sj h; exact Ends.eR V
 refine .skip (.then (.tR 4 V H fun b4 σ H => (.fV H 1 V (.lV H 1 V (.nV V (.mV V (.nila H fun H => (.inBlock ?_)))))))); obtain ⟨y1, hj1, h⟩ := bs h; obtain ⟨n1, hj1⟩ := ZI.1 hj1; refine .mono (Runs.loopO hj1 (fun s1 e σ => ZA e [(2, (.ptr (b1 + 0) 4 0)), (3, (.ptr (b1 + 1) 4 0)), (40, (vl (cL Span.cs) a.Core)), (41, (vi (a.Core.length : Int))), (42, (vi s1))] ∧ Hs σ [.blk (b1 + 1) 25 (vF b), .blk (b1 + 0) 25 (vF a)]) (fun y1 x e σ => (∃ a1, y1 = (.go a1) ∧ x = .exit 0 ∧ ZA e [(2, (.ptr (b1 + 0) 4 0)), (3, (.ptr (b1 + 1) 4 0))] ∧ Hs σ [.blk (b1 + 1) 25 (vF b), .blk (b1 + 0) 25 (vF a)]) ∨ (∃ r', y1 = (.ret r') ∧ x = .ret ∧ Ends CX Try.f24.results.toList (vb r') x e σ)) ⟨EI V, H⟩ ?_) ?_
 ·intro s1 e σ hI z h; obtain ⟨he, H⟩ := hI; obtain ⟨e, rfl⟩ := he.ex; unfold Z5.s0 at h; refine .tR 1 V H fun b5 σ H => (.iV V (.nila H fun H => (.then ?_))); refine .wh h V ?_ ?_ <;> intro h
  ·refine .skip (.then (.inBlock (.tR 5 V H fun b6 σ H => (.mV V ?_)))); obtain ⟨x1, q1, h⟩ := bs h; refine .jV q1 V (.pV V (.aV V (.aV V (.nila H fun H => (.tR 8 V H fun b7 σ H => (.mV V (.fV H 0 V (.lV H 0 V ?_)))))))); refine .mV V ?_; obtain ⟨x2, q2, h⟩ := bs h; refine .jV q2 V (.pV V ?_); obtain ⟨x3, q3, h⟩ := bs h; refine .cV (Z3B q3) V (.tV V (.nila H fun H => ?_)); refine .wh h V ?_ ?_ <;> intro h
   ·refine .tR 1 V H fun b8 σ H => (.aV V (.nila H fun H => (.ret ?_))); obtain rfl := sj h; exact ⟨nofun, (.inr ⟨_, V, V, (Ends.H (xs := [(vb false)]) (.inr V) H (.tmp (v := (vb false)) V .nil) (.one (.c (.v _))))⟩)⟩
   refine .skip (.ZM 2 V H fun b9 σ H => (.iV V (.mV V (.nila H fun H => ?_)))); obtain rfl := sj h; exact ⟨V, EI V, H⟩
  refine .exit ?_; obtain rfl := sj h; exact ⟨nofun, (.inl ⟨_, V, V, EI V, H⟩)⟩
 ·rintro x e σ (⟨a2, rfl, rfl, he, H⟩ | ⟨r', rfl, rfl, hE⟩)
  ·replace h := jgo h; obtain ⟨e, rfl⟩ := he.ex; refine .then (.tR 4 V H fun b10 σ H => (.fV H 1 V (.lV H 1 V (.nV V (.mV V (.nila H fun H => (.inBlock ?_))))))); obtain ⟨y2, hj2, h⟩ := bs h; obtain ⟨n2, hj2⟩ := ZI.1 hj2; refine .mono (Runs.loopO hj2 (fun s2 e σ => ZA e [(3, (.ptr (b1 + 1) 4 0)), (57, (vl Granule.cs a.Odd)), (58, (vi (a.Odd.length : Int))), (59, (vi s2))] ∧ Hs σ [.blk (b1 + 1) 25 (vF b)]) (fun y2 x e σ => (∃ a3, y2 = (.go a3) ∧ x = .exit 2 ∧ ZA e [] ∧ Hs σ []) ∨ (∃ r', y2 = (.ret r') ∧ x = .ret ∧ Ends CX Try.f24.results.toList (vb r') x e σ)) ⟨EI V, (H.erase 1)⟩ ?_) ?_
   ·intro s2 e σ hI z h; obtain ⟨he, H⟩ := hI; obtain ⟨e, rfl⟩ := he.ex; unfold Z5.s1 at h; refine .tR 1 V H fun b11 σ H => (.iV V (.nila H fun H => (.then ?_))); refine .wh h V ?_ ?_ <;> intro h
    ·refine .skip (.then (.inBlock (.tR 6 V H fun b12 σ H => (.mV V ?_)))); obtain ⟨x4, q4, h⟩ := bs h; refine .jV q4 V (.qV [(.int .i64 x4.Index), (.sl (x4.Ticks.map Span.cs))] V (.Z0O (cs := [(vi 0), .nils]) H (by omega) (by omega) V V fun σ H => (.aV V (.sV [(vi x4.Index), (vl Span.cs x4.Ticks)] H 0 V fun σ H => (.nila H fun H => (.then (.Z1B 21 V (by kernel_rfl) H fun b13 σ H B13 => (.ZN H 0 V V V V V (fun _ => .inl ⟨B13 0 _ V _ V, nofun, (fun _ => by kernel_rfl)⟩) V ?_)))))))); refine .ld (vi x4.Index) H 0 V V V V V (fun _ => .inl ⟨B13 0 _ V _ V, nofun, (fun _ => by kernel_rfl)⟩) V (.ZN H 1 V V V V V (fun _ => .inl ⟨B13 1 _ V _ V, nofun, (fun _ => by kernel_rfl)⟩) V (.ld (vl Granule.cs b.Odd) H 1 V V V V V (fun _ => .inl ⟨B13 1 _ V _ V, nofun, (fun _ => by kernel_rfl)⟩) V (.mV V ?_))); obtain ⟨x5, q5, h⟩ := bs h; refine .jV q5 V (.Z0d V V V V (.pV V (.iV V (.mV V ?_)))); obtain ⟨y3, hj3, h⟩ := bs h; refine .md H 11 [(84, (vb y3)), (3, (.ptr (b1 + 1) 4 0)), (57, (vl Granule.cs a.Odd)), (58, (vi (a.Odd.length : Int))), (59, (vi s2))] [.blk (b1 + 1) 25 (vF b)] V ?_ fun e σ H => ?_
     ·refine .sp hj3 V ?_ ?_ <;> intro h
      ·refine .ps 10 V (.kT V (.nil ?_)); obtain rfl := sj h; exact ⟨EI V, (H.erase 0).wk (by omega)⟩
      refine .wt V V (.ZN H 0 V V V V V (fun _ => .inl ⟨B13 0 _ V _ V, nofun, (fun _ => by kernel_rfl)⟩) V (.wt V V (.ld (vl Span.cs x4.Ticks) H 0 V V V V V (fun _ => .inl ⟨B13 0 _ V _ V, nofun, (fun _ => by kernel_rfl)⟩) V (.wt V V (.ZN H 1 V V V V V (fun _ => .inl ⟨B13 1 _ V _ V, nofun, (fun _ => by kernel_rfl)⟩) V (.wt V V (.ld (vl Granule.cs b.Odd) H 1 V V V V V (fun _ => .inl ⟨B13 1 _ V _ V, nofun, (fun _ => by kernel_rfl)⟩) V (.mV V ?_)))))))); refine .wt V V ?_; obtain ⟨x6, q6, h⟩ := bs h; refine .jV q6 V (.wt V V (.Z0d V V V V (.pV V (.wt V V ?_)))); obtain ⟨x7, q7, h⟩ := bs h; refine .cV (Z3B q7) V (.tV V (.kF V (.nil ?_))); obtain rfl := sj h; exact ⟨EI V, (H.erase 0).wk (by omega)⟩
     refine .nila H fun H => ?_; refine .wh h V ?_ ?_ <;> intro h
     ·refine .tR 1 V H fun b14 σ H => (.aV V (.nila H fun H => (.ret ?_))); obtain rfl := sj h; exact ⟨nofun, (.inr ⟨_, V, V, (Ends.H (xs := [(vb false)]) (.inr V) H (.tmp (v := (vb false)) V .nil) (.one (.c (.v _))))⟩)⟩
     refine .skip (.ZM 2 V H fun b15 σ H => (.iV V (.mV V (.nila H fun H => ?_)))); obtain rfl := sj h; exact ⟨V, EI V, H⟩
    refine .exit ?_; obtain rfl := sj h; exact ⟨nofun, (.inl ⟨_, V, V, U, (H.erase 0)⟩)⟩
   ·rintro x e σ (⟨a4, rfl, rfl, he, H⟩ | ⟨r', rfl, rfl, hE⟩)
    ·replace h := jgo h; obtain ⟨e, rfl⟩ := he.ex; refine .tR 1 V H fun b16 σ H => (.aV V (.nila H fun H => (.ret ?_))); obtain rfl := sj h; exact Ends.eR V
    ·replace h := jret h; obtain rfl := sj h; exact hE
  ·replace h := jret h; obtain rfl := sj h; exact hE
theorem Z0o {r : Form} (h : ZB = r) : Fn CX 35 [] (.agg (vs (Form.cs r))) := by
 refine Fn.go Try.func35 V fun σ H => ?_; unfold ZB at h; refine .tR 1 V H fun b1 σ H => (.Z0O (cs := [(vi 0), (vi 0), .nils, .nils]) H (by omega) (by omega) V V fun σ H => (.nila H fun H => (.tR 5 V H fun b2 σ H => (.bV [(vi 0), (vi 4)] V (.Z2R (sz := 2) ([(Span.mk 0 4)].map Span.cs) H (by omega) (by omega) V V V V V V V V V fun σ H => (.buildSF (sz := 1) ([[(Span.mk 0 4)]].map (cL Span.cs)) H (by omega) (by omega) V V (.exp (.c (.s 0 V)) .nil) V V V V V V V nofun fun σ H => (.bV [(vi 7), (vi 1), (.buf (b2 + 2) 1 1), .nils] V (.sV [(vi 7), (vi 1), (.buf (b2 + 2) 1 1), .nils] H 2 V fun σ H => ?_)))))))); refine .nila H fun H => (.ret ?_); subst h; exact (Ends.H (xs := [(.agg [(vi 7), (vi 1), (.buf (b2 + 2) 1 1), .nils])]) (.inr V) H (.agg (cs := [(vi 7), (vi 1), (.buf (b2 + 2) 1 1), .nils]) 2 V V V V V V V .nil) (.one (.a (.cons (.v _) (.cons (.v _) (.cons (.s 0 V) (.cons .n .nil)))))))
end Go.Dn
