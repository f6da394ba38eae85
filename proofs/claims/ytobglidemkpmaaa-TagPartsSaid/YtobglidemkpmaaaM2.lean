/- Part 2 of what the row stands on. -/
import Derived.Test.YtobglidemkpmaaaProg
import Derived.KernelRfl
import Derived.Test.YtobglidemkpmaaaM1
set_option linter.unusedVariables false
set_option linter.unusedSimpArgs false
namespace Go.Dn
open Go

theorem Has.Ze {σ : Heap} {lo hi : Nat} {T : List Res} (A : List Res) (ks : List Nat) (hn : ks.Nodup) (hk : ks.all (Nat.blt · A.length) = true) (H : Has σ lo hi (A ++ T)) : Has σ lo hi (Dn.pick A ks ++ T) := by
 have hk' : ∀ k ∈ ks, k < A.length := fun k h => by
  have := List.all_eq_true.1 hk k h
  exact Nat.le_of_ble_eq_true this
 have h := H.pick (ks ++ (List.range T.length).map (A.length + ·)) (by
  refine List.nodup_append.2 ⟨hn, ?_, ?_⟩
  ·exact List.Pairwise.map _ (fun a b hab => by omega) List.nodup_range
  ·intro a ha b hb
   obtain ⟨j, _, rfl⟩ := List.mem_map.1 hb
   have := hk' a ha
   omega)
 have fc : ∀ (f g : Nat → Option Res) (l : List Nat), (∀ k ∈ l, f k = g k) → l.filterMap f = l.filterMap g := by
  intro f g l
  induction l with
  | nil => intro _; rfl
  | cons k l ih =>
   intro h
   rw [List.filterMap_cons, List.filterMap_cons, h k List.mem_cons_self, ih fun k hk => h k (List.mem_cons_of_mem _ hk)]
 have fr : ∀ (T : List Res), List.filterMap (fun j => T[j]?) (List.range T.length) = T := by
  intro T
  induction T with
  | nil => rfl
  | cons r T ih =>
   rw [List.length_cons, List.range_succ_eq_map, List.filterMap_cons, List.filterMap_map]
   simp only [List.getElem?_cons_zero]
   congr 1
 have e : Dn.pick (A ++ T) (ks ++ (List.range T.length).map (A.length + ·)) = Dn.pick A ks ++ T := by
  unfold Dn.pick
  rw [List.filterMap_append]
  congr 1
  ·exact fc _ _ _ fun k hm => List.getElem?_append_left (hk' k hm)
  ·rw [List.filterMap_map]
   refine Eq.trans (fc _ _ _ fun j _ => ?_) (fr T)
   simp [Function.comp, List.getElem?_append_right]
 rw [← e]; exact h

theorem Has.mem {σ : Heap} {lo hi : Nat} {L : List Res} (H : Has σ lo hi L) : ∀ r ∈ L, r.holds σ ∧ ∀ id, r.owner = some id → (id < lo ∨ hi ≤ id) ∧ id < σ.nx := fun r hr => by
 obtain ⟨k, hk⟩ := List.getElem?_of_mem hr
 exact ⟨H.holds k r hk, H.lt k r hk⟩

abbrev Apart (r s : Res) : Prop := ∀ id, r.owner = some id → s.owner ≠ some id

theorem Has.pw {σ : Heap} {lo hi : Nat} {L : List Res} (H : Has σ lo hi L) : L.Pairwise Apart := by
 rw [List.pairwise_iff_getElem]
 intro i j hi' hj hij
 exact H.sep i j _ _ (by omega) (List.getElem?_eq_getElem hi') (List.getElem?_eq_getElem hj)

theorem Has.mk' {σ : Heap} {lo hi : Nat} {L : List Res} (hm : ∀ r ∈ L, r.holds σ ∧ ∀ id, r.owner = some id → (id < lo ∨ hi ≤ id) ∧ id < σ.nx) (hp : L.Pairwise Apart) (hle : hi ≤ σ.nx) : Has σ lo hi L := by
 refine ⟨fun k r hk => (hm r (List.mem_of_getElem? hk)).1, fun k r hk => (hm r (List.mem_of_getElem? hk)).2, fun i j r s hij h1 h2 => ?_, hle⟩
 obtain ⟨hi', rfl⟩ := List.getElem?_eq_some_iff.1 h1
 obtain ⟨hj', rfl⟩ := List.getElem?_eq_some_iff.1 h2
 rw [List.pairwise_iff_getElem] at hp
 rcases Nat.lt_or_ge i j with h | h
 ·exact hp i j hi' hj' h
 ·intro id h3 h4
  exact hp j i hj' hi' (by omega) id h4 h3

def holes (lo hi : Nat) : List Res := .floor hi :: (List.range (hi - lo)).map fun j => .hole (lo + j)

theorem mem_holes {lo hi : Nat} {r : Res} (h : r ∈ holes lo hi) : r = .floor hi ∨ ∃ id, r = .hole id ∧ lo ≤ id ∧ id < hi := by
 rcases List.mem_cons.1 h with h | h
 ·exact .inl h
 ·obtain ⟨j, hj, rfl⟩ := List.mem_map.1 h
  have := List.mem_range.1 hj
  exact .inr ⟨_, rfl, by omega, by omega⟩

theorem Has.holesIn {σ : Heap} {lo hi : Nat} {L : List Res} (H : Has σ lo hi L) : Hs σ (L ++ holes lo hi) := by
 refine Has.mk' (fun r hr => ?_) ?_ (Nat.le_refl _)
 ·rcases List.mem_append.1 hr with h | h
  ·exact ⟨(H.mem r h).1, fun id ho => ⟨.inl ((H.mem r h).2 id ho).2, ((H.mem r h).2 id ho).2⟩⟩
  ·rcases mem_holes h with rfl | ⟨id, rfl, h1, h2⟩
   ·exact ⟨H.le, fun id ho => by cases ho⟩
   ·refine ⟨trivial, fun id' ho => ?_⟩
    cases ho
    have := H.le
    exact ⟨.inl (by omega), by omega⟩
 ·refine List.pairwise_append.2 ⟨H.pw, ?_, ?_⟩
  ·refine List.pairwise_cons.2 ⟨fun r _ id ho => (by cases ho), ?_⟩
   refine List.Pairwise.map _ ?_ List.nodup_range
   intro a b hab id h1 h2
   have h1 : lo + a = id := Option.some.inj h1
   have h2 : lo + b = id := Option.some.inj h2
   omega
  ·intro r hr s hs id h1 h2
   have := ((H.mem r hr).2 id h1).1
   rcases mem_holes hs with rfl | ⟨id', rfl, h3, h4⟩
   ·cases h2
   ·cases h2; omega

theorem Has.holesOut {σ : Heap} {lo hi : Nat} {A L : List Res} (H : Hs σ (A ++ (L ++ holes lo hi))) : Has σ lo hi (A ++ L) := by
 rw [← List.append_assoc] at H
 have hp := List.pairwise_append.1 H.pw
 refine Has.mk' (fun r hr => ?_) hp.1 ?_
 ·have h1 := H.mem r (List.mem_append_left _ hr)
  refine ⟨h1.1, fun id ho => ⟨?_, (h1.2 id ho).2⟩⟩
  rcases Nat.lt_or_ge id lo with h | h
  ·exact .inl h
  ·rcases Nat.lt_or_ge id hi with h' | h'
   ·exact absurd rfl (hp.2.2 r hr (.hole id) (List.mem_cons_of_mem _ (List.mem_map.2 ⟨id - lo, List.mem_range.2 (by omega), by congr 1; omega⟩)) id ho)
   ·exact .inr h'
 ·exact (H.mem (.floor hi) (List.mem_append_right _ List.mem_cons_self)).1

section
variable {X : Ctx} {f : FuncId} {fu : Func} {c : Code} {m : Nat} {σ : Heap} {cv : PV} {ys args : List PV} {L : List Res} {PostA : PV → List Res → Prop}

def CallI (X : Ctx) (cv : PV) (ys : List PV) (σ : Heap) (T : List Res) (PostA : PV → List Res → Prop) : Prop := ∃ r σ' A, callV X cv ys σ = some (r, σ') ∧ PostA r A ∧ Hs σ' (A ++ T)

theorem callIO_of (hf : X.P.funcs[f]? = some fu) (hb : fu.body = some c) (hcv : ∀ σ, callV X cv ys σ = Z0b X (.fn f) args σ) (hi : X.intr f args = none) (hk : X.keep f = false) (ho : X.opn f = true) (hp : args.all PV.pure = true) (hm : max fu.ntmps args.length = m) {T : List Res}
  (h : Runs X m f c (Z5w args) σ fun x e σ' => (x = .normal ∨ x = .ret) ∧ ∃ xs, Z0O X.P e σ' fu.results.toList = some xs ∧ ∃ A, PostA (Z27 xs) A ∧ Hs σ' (A ++ T)) : CallI X cv ys σ T PostA := by
 obtain ⟨r, σ', h1, A, h2, h3⟩ := callO_of (Post := fun r σ' => ∃ A, PostA r A ∧ Hs σ' (A ++ T)) hf hb hi hk ho hp hm h
 exact ⟨r, σ', A, by rw [hcv]; exact h1, h2, h3⟩
end

section
variable {X : Ctx} {n : Nat} {dr : Bool} {fn : FuncId} {ops : Array Oper} {base i : Nat} {l : List Oper} {e : Env} {σ : Heap} {K : Env → Heap → Prop}
variable {d : Nat} {t t1 : TypeId} {p : String} {af : Array Edge} {x : Operand} {lo hi : Nat} {L : List Res}

theorem callV_step {cv : PV} {args : List PV} {r : PV} {σ' : Heap} {c : Call} {id0 : Nat} (hc : c.callee = .value x) (hx : Z1 X e x = some cv) (ha : Zd X e c.args.toList = some args) (h : Dn.callV X cv args σ = some (r, σ')) : Z06 X (Z0b X) e σ id0 c = some (r, σ') := by
 simp only [Z06, ha, hc, hx]
 unfold Dn.callV at h
 split at h
 ·exact h
 ·exact h
 ·cases h

theorem Sub.more {C L M : List Res} (h : Sub C L) : Sub C (L ++ M) := by
 induction h with
 | nil => exact .nil
 | cons k h t ih =>
  refine .cons k ?_ ih
  rw [List.getElem?_append_left (List.getElem?_eq_some_iff.1 h).1, h]

theorem Z93 {cv : PV} {ys : List PV} {PostA : PV → List Res → Prop} (A : List Res) (H : Has σ lo hi (A ++ L)) (hf : ∀ T, (∀ C, Sub C L → Sub C T) → Hs σ (A ++ T) → CallI X cv ys σ T PostA) :
  ∃ r σ' A', Dn.callV X cv ys σ = some (r, σ') ∧ PostA r A' ∧ Has σ' lo hi (A' ++ L) := by
 have hsub : ∀ C, Sub C L → Sub C (L ++ holes lo hi) := fun C h => h.more
 have H1 := H.holesIn
 rw [List.append_assoc] at H1
 obtain ⟨r, σ', A', h1, h2, h3⟩ := hf (L ++ holes lo hi) hsub H1
 exact ⟨r, σ', A', h1, h2, h3.holesOut⟩

theorem Ops.callI {cv : PV} {args : Array Operand} {ts : Array TypeId} {ys : List PV} {PostA : PV → List Res → Prop} (A : List Res) (H : Has σ lo hi (A ++ L)) (hx : Z1 X e x = some cv) (ha : Zd X e args.toList = some ys) (hf : ∀ T, (∀ C, Sub C L → Sub C T) → Hs σ (A ++ T) → CallI X cv ys σ T PostA) (hdr : dr = true → Z2Q (Region.before ops) ops i = true) (hd : Nat.blt d n = true)
  (hk : ∀ r A' σ', PostA r A' → Has σ' lo hi (A' ++ L) → Ops X n dr ops base (i + 1) l (set e d r) σ' K) :
  Ops X n dr ops base i (⟨some d, .call { callee := .value x, args := args, argTypes := ts }, t, p, af, none⟩ :: l) e σ K := by
 obtain ⟨r, σ', A', q1, q2, q3⟩ := Z93 A H hf
 exact .plain (x := r) (σ1 := σ') (by simp only [ZI]; exact callV_step rfl hx ha q1) (fun h => Z3d (hdr h)) hd (hk r A' σ' q2 q3)

def FnO (X : Ctx) (f : FuncId) (args : List PV) (PostA : PV → List Res → Prop) : Prop := ∀ σ T, Hs σ T → CallI X (.v (.fn f)) args σ T PostA

theorem FnO.of {f : FuncId} {fu : Func} {c : Code} {m : Nat} {args : List PV} {PostA : PV → List Res → Prop} (hf : X.P.funcs[f]? = some fu) (hb : fu.body = some c) (hi : X.intr f args = none) (hk : X.keep f = false) (ho : X.opn f = true) (hp : args.all PV.pure = true) (hm : max fu.ntmps args.length = m)
  (h : ∀ σ T, Hs σ T → Runs X m f c (Z5w args) σ fun x e σ' => (x = .normal ∨ x = .ret) ∧ ∃ xs, Z0O X.P e σ' fu.results.toList = some xs ∧ ∃ A, PostA (Z27 xs) A ∧ Hs σ' (A ++ T)) : FnO X f args PostA :=
 fun σ T H => callIO_of hf hb (fun _ => rfl) hi hk ho hp hm (h σ T H)

theorem Ops.Z8G {f : FuncId} {args : Array Operand} {ts : Array TypeId} {ys : List PV} {PostA : PV → List Res → Prop} (H : Has σ lo hi L) (ha : Zd X e args.toList = some ys) (hf : FnO X f ys PostA) (hdr : dr = true → Z2Q (Region.before ops) ops i = true) (hd : Nat.blt d n = true)
  (hk : ∀ r A' σ', PostA r A' → Has σ' lo hi (A' ++ L) → Ops X n dr ops base (i + 1) l (set e d r) σ' K) :
  Ops X n dr ops base i (⟨some d, .call { callee := .value (.func f), args := args, argTypes := ts }, t, p, af, none⟩ :: l) e σ K :=
 Ops.callI [] H rfl ha (fun T _ H => hf σ T H) hdr hd hk

theorem Ops.callF {f : FuncId} {args : Array Operand} {ts : Array TypeId} {ys : List PV} {r : PV} (hx : Z1 X e x = some (.v (.fn f))) (ha : Zd X e args.toList = some ys) (hf : Fn X f ys r) (hd : Nat.blt d n = true) (hk : Ops X n dr ops base (i + 1) l (set e d r) σ K) :
  Ops X n dr ops base i (⟨some d, .call { callee := .value x, args := args, argTypes := ts }, t, p, af, none⟩ :: l) e σ K :=
 .plain (x := r) (σ1 := σ) (by simp only [ZI, Z06, ha, hx, hf.call σ]) (fun _ => by
  exact ask0 (by simp only [Zq, Z0I, ha, Z4b, hx, Z7r hf.pure, hf.opn, hf.keep, Bool.not_false, Bool.and_self])) hd hk

inductive ExpP : List Res → List (Nat × PV) → List (Nat × PV) → List Res → Prop
 | nil {L : List Res} : ExpP L [] [] L
 | keep {L L' : List Res} {j : Nat} {x : PV} {ps qs : List (Nat × PV)} (h : Z5c x = false) (t : ExpP L ps qs L') : ExpP L ((j, x) :: ps) ((j, x) :: qs) L'
 | exp {L L1 L2 : List Res} {j : Nat} {x y : PV} {ps qs : List (Nat × PV)} (h : ExpV L x y L1) (t : ExpP L1 ps qs L2) : ExpP L ((j, x) :: ps) ((j, y) :: qs) L2

theorem Z9I {x : PV} {y : FV} {L' : List Res} (H : Has σ lo hi L) (h : ExpC L x y L') (hr : isRef x = false) : x = .v y ∧ L' = L := by
 cases h with
 | v y => exact ⟨rfl, rfl⟩
 | n => cases hr
 | ro h =>
  rcases h with ⟨rfl, rfl⟩ | rfl
  ·cases hr
  ·exact ⟨rfl, rfl⟩
 | s k h =>
  rcases (H.sl h).2 with ⟨rfl, _⟩ | ⟨id, rfl, _⟩ <;> cases hr

theorem Z8P : ∀ {xs : List PV} {ys : List FV} {L L' : List Res}, Has σ lo hi L → ExpCs L xs ys L' → xs.any isRef = false → xs = vs ys ∧ L' = L
 | [], ys, L, L', H, h, _ => by cases h; exact ⟨rfl, rfl⟩
 | x :: xs, ys, L, L', H, h, hr => by
  simp only [List.any_cons, Bool.or_eq_false_iff] at hr
  cases h with
  | cons h t =>
   obtain ⟨rfl, rfl⟩ := Z9I H h hr.1
   obtain ⟨rfl, rfl⟩ := Z8P H t hr.2
   exact ⟨rfl, rfl⟩

theorem expV_noref {x y : PV} {L' : List Res} (H : Has σ lo hi L) (h : ExpV L x y L') (hr : Z5c x = false) : y = x ∧ L' = L := by
 cases h with
 | c h =>
  have : isRef x = false := by cases x <;> first | rfl | exact hr
  obtain ⟨rfl, rfl⟩ := Z9I H h this
  exact ⟨rfl, rfl⟩
 | a h =>
  obtain ⟨rfl, rfl⟩ := Z8P H h hr
  exact ⟨rfl, rfl⟩
 | p h => exact ⟨rfl, rfl⟩

theorem fvsOf_vs (l : List FV) : fvsOf (vs l) = some l := by
 induction l with
 | nil => rfl
 | cons x l ih => show (fvsOf (vs l)).map (x :: ·) = _; rw [ih]; rfl

theorem frzC_ok {x : PV} {y : FV} {L' : List Res} (H : Has σ lo hi L) (h : ExpC L x y L') : ∃ σ', Z38 σ x = some (.v y, σ') ∧ Has σ' lo hi L' ∧ σ'.nx = σ.nx := by
 cases h with
 | v y => exact ⟨σ, rfl, H, rfl⟩
 | n => exact ⟨σ, rfl, H, rfl⟩
 | ro h => rcases h with ⟨rfl, rfl⟩ | rfl <;> exact ⟨σ, rfl, H, rfl⟩
 | @s _ et sz xs lv k h =>
  obtain ⟨hs, hv⟩ := H.sl h
  rcases hv with ⟨rfl, rfl⟩ | ⟨id, rfl, hb⟩
  ·exact ⟨σ, rfl, H.say h ⟨by simp, .inl ⟨rfl, rfl⟩⟩ rfl, rfl⟩
  ·refine ⟨σ.put id (.blk et (vs xs.flatten) false), ?_, H.put h rfl (r' := .sl (.buf id xs.length sz) et sz xs false) ⟨hs, .inr ⟨id, rfl, Z1X⟩⟩ rfl, rfl⟩
   simp only [Z38, hb]
   rw [if_pos (by rw [Z2s, Z1k hs]), fvsOf_vs, Option.map_some, Z74 hs]

theorem frzCs_ok : ∀ {xs : List PV} {σ : Heap} {L L' : List Res} {ys : List FV}, Has σ lo hi L → ExpCs L xs ys L' → ∃ σ', Z2K σ xs = some (vs ys, σ') ∧ Has σ' lo hi L' ∧ σ'.nx = σ.nx
 | [], σ, L, L', ys, H, h => by cases h; exact ⟨σ, rfl, H, rfl⟩
 | x :: xs, σ, L, L', ys, H, h => by
  cases h with
  | cons h t =>
   obtain ⟨σ1, q1, q2, q3⟩ := frzC_ok H h
   obtain ⟨σ2, p1, p2, p3⟩ := frzCs_ok q2 t
   exact ⟨σ2, by simp only [Z2K, q1, Option.bind_some, p1]; rfl, p2, p3.trans q3⟩

theorem frzV_ok {x y : PV} {L' : List Res} (H : Has σ lo hi L) (h : ExpV L x y L') (hn : Z5c x = true) : ∃ σ', Z2Z σ x = some (y, σ') ∧ Has σ' lo hi L' ∧ σ'.nx = σ.nx := by
 cases h with
 | c h =>
  obtain ⟨σ', q1, q2, q3⟩ := frzC_ok H h
  refine ⟨σ', ?_, q2, q3⟩
  cases h with
  | v y => cases hn
  | n => simp only [Z2Z, q1]
  | ro h =>
   rcases h with ⟨rfl, rfl⟩ | rfl
   ·simp only [Z2Z, q1]
   ·cases hn
  | s k h =>
   obtain ⟨_, ⟨rfl, rfl⟩ | ⟨id, rfl, hb⟩⟩ := H.sl h
   ·simp only [Z2Z, q1]
   ·simp only [Z2Z, q1]
 | a h =>
  obtain ⟨σ', q1, q2, q3⟩ := frzCs_ok H h
  exact ⟨σ', by simp only [Z2Z, q1, Option.bind_some], q2, q3⟩
 | p h =>
  exfalso
  cases x <;> simp [PV.pure] at h <;> simp [Z5c] at hn
  obtain ⟨z, hz, hz2⟩ := hn
  have := h z hz
  cases z <;> simp [PV.isV] at this
  simp [isRef] at hz2

theorem expP_ok : ∀ {ps qs : List (Nat × PV)} {σ : Heap} {L L' : List Res}, Has σ lo hi L → ExpP L ps qs L' → ∃ σ', Z0X σ ps = some (qs, σ') ∧ Has σ' lo hi L' ∧ σ'.nx = σ.nx
 | [], qs, σ, L, L', H, h => by cases h; exact ⟨σ, rfl, H, rfl⟩
 | p :: ps, qs, σ, L, L', H, h => by
  cases h with
  | keep h t =>
   obtain ⟨σ1, q1, q2, q3⟩ := expP_ok H t
   exact ⟨σ1, by simp only [Z0X, h, Bool.false_eq_true, if_false, q1, Option.bind_some], q2, q3⟩
  | @exp _ L1 _ j x y ps qs h t =>
   by_cases hr : Z5c x = true
   ·obtain ⟨σ1, q1, q2, q3⟩ := frzV_ok H h hr
    obtain ⟨σ2, p1, p2, p3⟩ := expP_ok q2 t
    exact ⟨σ2, by simp only [Z0X, hr, if_true, q1, Option.bind_some, p1], p2, p3.trans q3⟩
   ·have hr : Z5c x = false := by simpa using hr
    obtain ⟨rfl, rfl⟩ := expV_noref H h hr
    obtain ⟨σ2, p1, p2, p3⟩ := expP_ok H t
    exact ⟨σ2, by simp only [Z0X, hr, Bool.false_eq_true, if_false, Option.bind_some, p1], p2, p3⟩

def FrzOK (ops : Array Oper) (base i : Nat) (pp : List (Nat × PV)) : Prop :=
 Z2Q (Region.before ops) ops i = true ∨ ∃ ms : List Nat, (pp.flatMap fun p => Z5H p.2) = ms.map (base + ·) ∧
  (ms.all fun m => Nat.blt m ops.size && ((Region.before ops).getD i 0).testBit m && (List.range ops.size).all fun j => !(unord (Region.before ops) i j && ((Region.before ops).getD j 0).testBit m)) = true

theorem ask_frz {parts : Array (Nat × Operand)} {len : Nat} {pp : List (Nat × PV)} (hp : Z32 X e parts.toList = some pp) (h : FrzOK ops base i pp) : Z0T X ops base i ⟨some d, .buildSlice t1 len parts, t, p, af, none⟩ e = true := by
 rcases h with h | ⟨ms, h1, h2⟩
 ·exact Z3d h
 ·refine ask0 ?_
  have hf : frozen X e (.buildSlice t1 len parts) = ms.map (base + ·) := by simp only [frozen, hp, h1]
  simp only [Zq, Z0I, hf]
  refine List.all_eq_true.2 fun k hk => ?_
  obtain ⟨m, hm, rfl⟩ := List.mem_map.1 hk
  have := List.all_eq_true.1 h2 m hm
  simp only [Bool.and_eq_true] at this
  simp only [Nat.add_sub_cancel_left, Bool.and_eq_true, decide_eq_true_eq]
  exact ⟨⟨⟨Nat.le_add_right _ _, by have := blt_lt this.1.1; omega⟩, this.1.2⟩, this.2⟩

theorem Ops.buildSF {parts : Array (Nat × Operand)} {len sz : Nat} {el : TypeId} {zs : List PV} {pp qq : List (Nat × PV)} {L' : List Res} (xs : List (List FV)) (H : Has σ lo hi L) (hlo : lo ≤ base + i) (hhi : base + i < hi)
  (ht : tslice X.P t1 = some el) (hp : Z32 X e parts.toList = some pp) (hE : ExpP L pp qq L') (hs : tsize X.P el = some sz) (hz : tzero X.P el = some zs) (hc : (zs.length == sz && sz != 0 && Nat.ble (len * sz) 1000000) = true)
  (hf : Z5b (fun i => some (i * sz, sz)) (List.replicate len zs).flatten qq = some (vs xs.flatten)) (hl : xs.length = len) (hx : xs.all (fun y => y.length == sz) = true) (hd : Nat.blt d n = true) (hdr : dr = true → FrzOK ops base i pp)
  (hk : ∀ σ', Has σ' (base + i + 1) hi (.sl (.buf (base + i) len sz) el sz xs true :: L') → Ops X n dr ops base (i + 1) l (set e d (.buf (base + i) len sz)) σ' K) (hlit : X.lit = false := by rfl) :
  Ops X n dr ops base i (⟨some d, .buildSlice t1 len parts, t, p, af, none⟩ :: l) e σ K := by
 simp only [Bool.and_eq_true, beq_iff_eq, bne_iff_ne, ne_eq, Nat.ble_eq] at hc
 obtain ⟨σ1, q1, H1, q3⟩ := expP_ok H hE
 have hl0 : (X.lit && len != 0) = false := by rw [hlit]; rfl
 refine .plain (x := .buf (base + i) len sz) (σ1 := σ1.put (base + i) (.blk el (vs xs.flatten) true)) ?_ (fun h => ask_frz hp (hdr h)) hd (hk _ (H1.push hlo hhi (r' := .sl (.buf (base + i) len sz) el sz xs true) ?_ rfl))
 ·simp only [ZI, Z12, hp, Option.bind_some, q1, Z1j, ht, hs, hz]
  rw [if_pos ⟨hc.1.1, hc.1.2, hc.2⟩, hf]; simp only [litR, hl0]; rfl
 ·exact ⟨fun y hy => by have := List.all_eq_true.1 hx y hy; simpa using this, .inr ⟨base + i, by rw [hl], Z1X⟩⟩
end

theorem loopD_up (step step' : Env → Heap → Option Out) (hst : ∀ e σ r, step e σ = some r → step' e σ = some r) (j j' : Nat) (hj : j ≤ j') (e : Env) (σ : Heap) (r : Out) (h : Z1M step j e σ = some r) : Z1M step' j' e σ = some r := by
 induction j generalizing j' e σ r with
 | zero => simp [Z1M] at h
 | succ j ihj =>
  obtain ⟨j', rfl⟩ : ∃ i, j' = i + 1 := ⟨j' - 1, by omega⟩
  simp only [Z1M] at h ⊢
  split at h
  ·rename_i h1
   rw [hst _ _ _ h1]
   exact ihj j' (by omega) _ _ _ h
  ·rename_i hn
   rw [hst _ _ _ h]
   split
   ·rename_i heq; rw [h] at hn; cases heq; exact absurd rfl (hn _ _)
   ·rfl
theorem Runs.again {X : Ctx} {n : Nat} {fn : FuncId} {c : Code} {e : Env} {σ : Heap} {Q : Ex → Env → Heap → Prop} (h : Runs X n fn c e σ (Then' (fun e σ => Runs X n fn (.loop c) e σ Q) Q)) : Runs X n fn (.loop c) e σ Q := by
 obtain ⟨l1, x, e1, σ1, h1, h2⟩ := h.run
 cases x with
 | normal =>
  obtain ⟨l2, y, e2, σ2, h3, h4⟩ := Runs.run h2
  refine ⟨max l1 l2 + 1, y, e2, σ2, ?_, h4⟩
  simp only [ZE] at h3 ⊢
  simp only [Z1M, Z0x (show l1 ≤ max l1 l2 + 1 by omega) h1]
  exact loopD_up _ _ (fun e σ r h => Z0x (show l2 ≤ max l1 l2 + 1 by omega) h) l2 _ (by omega) _ _ _ h3
 | exit id =>
  refine ⟨l1 + 1, _, e1, σ1, ?_, h2⟩
  simp only [ZE, Z1M, Z0x (show l1 ≤ l1 + 1 by omega) h1]
 | ret =>
  refine ⟨l1 + 1, _, e1, σ1, ?_, h2⟩
  simp only [ZE, Z1M, Z0x (show l1 ≤ l1 + 1 by omega) h1]

end Go.Dn

namespace Go.Dn
open Go

section
variable {X : Ctx} {n : Nat} {fn : FuncId} {ops : Array Oper} {base i : Nat} {l : List Oper} {e : Env} {σ : Heap} {K : Env → Heap → Prop}
variable {d : Nat} {t t1 : TypeId} {p : String} {af : Array Edge} {x y z : Operand} {lo hi k : Nat} {L : List Res}

theorem Ops.makeMapH (H : Has σ lo hi L) (hlo : lo ≤ base + i) (hhi : base + i < hi) (ht : tmap X.P t1 = true) (hd : Nat.blt d n = true)
  (hk : ∀ σ', Has σ' (base + i + 1) hi (.mp (base + i) [] :: L) → Ops X n false ops base (i + 1) l (set e d (.mp (base + i))) σ' K) :
  Ops X n false ops base i (⟨some d, .makeMap t1 none, t, p, af, none⟩ :: l) e σ K :=
 .plain (x := .mp (base + i)) (σ1 := σ.put (base + i) (.map [])) (by simp only [ZI, ht, if_true]) (fun h => by cases h) hd
  (hk _ (H.push hlo hhi (r' := .mp (base + i) []) Z1X rfl))

theorem Has.mpE (H : Has σ lo hi L) {id : Nat} {kv : List (Int × Int)} (hk : L[k]? = some (.mp id kv)) : σ.ent id = .map kv := H.holds k _ hk

theorem Ops.lookupH {id : Nat} {kv : List (Int × Int)} {a : Int} (H : Has σ lo hi L) (k : Nat) (hk : L[k]? = some (.mp id kv)) (hx : Z1 X e x = some (.mp id)) (hy : Z1 X e y = some (.v (.int .i64 a))) (ht : tmap X.P t1 = true) (hd : Nat.blt d n = true)
  (hk' : Ops X n false ops base (i + 1) l (set e d (.v (.int .i64 (mget kv a)))) σ K) : Ops X n false ops base i (⟨some d, .lookup t1 x y false, t, p, af, none⟩ :: l) e σ K :=
 .plain (x := .v (.int .i64 (mget kv a))) (σ1 := σ) (by simp only [ZI, hx, hy, mgetD, ht, if_true, H.mpE hk, Option.map_some]) (fun h => by cases h) hd hk'

theorem Ops.mapUpdateH {id : Nat} {kv : List (Int × Int)} {a b : Int} (H : Has σ lo hi L) (k : Nat) (hk : L[k]? = some (.mp id kv)) (hx : Z1 X e x = some (.mp id)) (hy : Z1 X e y = some (.v (.int .i64 a))) (hz : Z1 X e z = some (.v (.int .i64 b))) (ht : tmap X.P t1 = true)
  (hk' : ∀ σ', Has σ' lo hi (L.set k (.mp id (mput kv a b))) → Ops X n false ops base (i + 1) l e σ' K) : Ops X n false ops base i (⟨none, .mapUpdate t1 x y z, t, p, af, none⟩ :: l) e σ K :=
 .plain0 (x := .undef) (σ1 := σ.put id (.map (mput kv a b))) (by simp only [ZI, hx, hy, hz, mupdD, ht, if_true, H.mpE hk, Option.map_some]) (fun h => by cases h)
  (hk' _ (H.put hk rfl (r' := .mp id (mput kv a b)) Z1X rfl))
end

theorem Ops.nila {X : Ctx} {n : Nat} {dr : Bool} {ops : Array Oper} {base i : Nat} {e : Env} {σ : Heap} {K : Env → Heap → Prop} {lo hi : Nat} {L : List Res} (H : Has σ lo hi L) (h : Hs σ L → K e σ) : Ops X n dr ops base i [] e σ K := .nil (h H.all)

theorem Ops.callFX {X : Ctx} {n : Nat} {dr : Bool} {ops : Array Oper} {base i : Nat} {l : List Oper} {e : Env} {σ : Heap} {K : Env → Heap → Prop} {d : Nat} {t : TypeId} {p : String} {af : Array Edge} {x : Operand} {lo hi : Nat} {L : List Res}
  {f : FuncId} {args : Array Operand} {ts : Array TypeId} {xs ys : List PV} {r : PV} {L' : List Res} (H : Has σ lo hi L) (hx : Z1 X e x = some (.v (.fn f))) (ha : Zd X e args.toList = some xs) (hE : ExpVs L xs ys L') (hf : Fn X f ys r) (hi0 : X.intr f xs = none) (hi1 : X.intr f ys = none) (hdr : dr = true → Z2Q (Region.before ops) ops i = true) (hd : Nat.blt d n = true)
  (hk : ∀ σ', Has σ' lo hi L' → Ops X n dr ops base (i + 1) l (set e d r) σ' K) :
  Ops X n dr ops base i (⟨some d, .call { callee := .value x, args := args, argTypes := ts }, t, p, af, none⟩ :: l) e σ K := by
 obtain ⟨σ', q1, q2, q3, _⟩ := Z5s H hE
 exact .plain (x := r) (σ1 := σ') (by simp only [ZI, Z06, ha, hx, callL_exp hf hi0 hi1 q2]) (fun h => Z3d (hdr h)) hd (hk σ' q3)

theorem callO_exp {X : Ctx} {f : FuncId} {args ys : List PV} {r : PV} {σ σ' σ2 : Heap} (hk : X.keep f = false) (ho : X.opn f = true) (hi0 : X.intr f args = none) (hi1 : X.intr f ys = none) (he : Z0j σ args = some (ys, σ')) (hp : ys.all PV.pure = true) (h : Z0b X (.fn f) ys σ' = some (r, σ2)) : Z0b X (.fn f) args σ = some (r, σ2) := by
 obtain ⟨k, hk'⟩ := Z2r.1 h
 refine Z2r.2 ⟨k, ?_⟩
 cases k with
 | zero => simp [Z0h] at hk'
 | succ k =>
  simp only [Z0h, hi1, hk, Bool.false_eq_true, if_false, Z1l hp, ho, if_true] at hk'
  simp only [Z0h, hi0, hk, Bool.false_eq_true, if_false, he, ho, if_true]
  exact hk'

theorem Ops.callFOX {X : Ctx} {n : Nat} {dr : Bool} {ops : Array Oper} {base i : Nat} {l : List Oper} {e : Env} {σ : Heap} {K : Env → Heap → Prop} {d : Nat} {t : TypeId} {p : String} {af : Array Edge} {lo hi : Nat} {L : List Res}
  {f : FuncId} {args : Array Operand} {ts : Array TypeId} {xs ys : List PV} {PostA : PV → List Res → Prop} {L' : List Res} (H : Has σ lo hi L) (ha : Zd X e args.toList = some xs) (hE : ExpVs L xs ys L') (hf : FnO X f ys PostA) (hk0 : X.keep f = false) (ho : X.opn f = true) (hi0 : X.intr f xs = none) (hi1 : X.intr f ys = none) (hdr : dr = true → Z2Q (Region.before ops) ops i = true) (hd : Nat.blt d n = true)
  (hk : ∀ r A' σ', PostA r A' → Has σ' lo hi (A' ++ L') → Ops X n dr ops base (i + 1) l (set e d r) σ' K) :
  Ops X n dr ops base i (⟨some d, .call { callee := .value (.func f), args := args, argTypes := ts }, t, p, af, none⟩ :: l) e σ K := by
 obtain ⟨σ', _, q1, q2, _, q3⟩ := Z5s H hE
 obtain ⟨r, σ2, A', p1, p2, p3⟩ := Z93 (X := X) (cv := .v (.fn f)) (ys := ys) (PostA := PostA) [] q2 (fun T _ H => hf σ' T H)
 refine .plain (x := r) (σ1 := σ2) ?_ (fun h => Z3d (hdr h)) hd (hk r A' σ2 p2 p3)
 simp only [ZI, Z06, ha, Z1]
 exact callO_exp hk0 ho hi0 hi1 q1 q3 p1

section
variable {X : Ctx} {n : Nat} {dr : Bool} {ops : Array Oper} {base i : Nat} {l : List Oper} {e : Env} {σ : Heap} {K : Env → Heap → Prop}
variable {d : Nat} {t t1 : TypeId} {p : String} {af : Array Edge} {x y z : Operand} {lo hi k : Nat} {L : List Res}

theorem sliceF_ok {α : Type} {c : α → List FV} {xs r : List α} {i0 j0 : Int} {P : Program} {el : TypeId} {m : Nat} {lo : Option PV} {hi mx : PV} (h : cut? xs i0 j0 = some r) (ht : tslice P t1 = some el) (hs : tsize P el = some m) (hm : ∀ u, (c u).length = m)
  (hlo : (match lo with | none => some 0 | some v => Z3e v) = some i0.toNat) (hhi : Z3e hi = some j0.toNat) (hmx : Z3e mx = some j0.toNat) : Z61 P t1 (.v (.sl (xs.map c))) lo (some hi) (some mx) = some (.full (r.map c)) := by
 obtain ⟨h1, h2, h3, rfl⟩ := cut?_some h
 have hc : i0.toNat ≤ j0.toNat ∧ j0.toNat ≤ xs.length ∧ Z4X (xs.map c) i0.toNat m = true := by
  refine ⟨by omega, by omega, ?_⟩
  simp only [Z4X, List.getElem?_map]
  cases xs[i0.toNat]? with
  | none => rfl
  | some u => simp [hm]
 cases lo <;> simp only [Option.some.injEq] at hlo <;> simp only [Z61, ht, Option.bind_some, hs, List.length_map, hlo, hhi, hmx, List.map_drop, List.map_take, Option.isSome_some, and_self, if_true] <;> rw [if_pos hc]

theorem Ops.sliceF {α : Type} {c : α → List FV} {xs r : List α} {el : TypeId} {m : Nat} {k1 k2 : IntKind} {j0 : Int} (h : cut? xs 0 j0 = some r) (hx : Z1 X e x = some (.v (.sl (xs.map c)))) (hl : Z1 X e y = some (.v (.int k1 j0))) (hm' : Z1 X e z = some (.v (.int k2 j0))) (ht : tslice X.P t1 = some el) (hs : tsize X.P el = some m) (hm : ∀ u, (c u).length = m) (hd : Nat.blt d n = true)
  (hk : Ops X n dr ops base (i + 1) l (set e d (.full (r.map c))) σ K) : Ops X n dr ops base i (⟨some d, .slice t1 x none (some y) (some z), t, p, af, none⟩ :: l) e σ K := by
 refine .plain (x := .full (r.map c)) (σ1 := σ) ?_ (fun _ => ?_) hd hk
 ·have h' := cut?_some h
  simp only [ZI, hx, hl, hm', optD, Option.map_some, sliceF_ok h ht hs hm (lo := none) rfl (Z3W (by omega)) (Z3W (by omega))]
 ·exact ask0 (by simp only [Zq, Z0I, hx])

theorem buf_exp {α : Type} {c : α → List FV} {xs : List α} {el : TypeId} {id m sz : Nat} {lv : Bool} (H : Has σ lo hi L) (hk : L[k]? = some (.sl (.buf id m sz) el sz (xs.map c) lv)) :
  ∃ σ', Z03 6 σ (.buf id m sz) = some (.sl (xs.map c), σ') ∧ Has σ' lo hi (L.set k (.sl (.buf id m sz) el sz (xs.map c) false)) := by
 obtain ⟨σ', a, b, _⟩ := expC_ok H (.s k hk)
 exact ⟨σ', a, b⟩

theorem Ops.sliceS {α : Type} {c : α → List FV} {xs r : List α} {el : TypeId} {m id m0 : Nat} {k1 : IntKind} {j0 : Int} {lv : Bool} (h : cut? xs 0 j0 = some r) (H : Has σ lo hi L) (k : Nat) (hk : L[k]? = some (.sl (.buf id m0 m) el m (xs.map c) lv)) (hx : Z1 X e x = some (.buf id m0 m)) (hl : Z1 X e y = some (.v (.int k1 j0))) (ht : tslice X.P t1 = some el) (hs : tsize X.P el = some m) (hm : ∀ u, (c u).length = m) (hdr : dr = true → Z2Q (Region.before ops) ops i = true) (hd : Nat.blt d n = true)
  (hk' : ∀ σ', Has σ' lo hi (L.set k (.sl (.buf id m0 m) el m (xs.map c) false)) → Ops X n dr ops base (i + 1) l (set e d (.v (.sl (r.map c)))) σ' K) : Ops X n dr ops base i (⟨some d, .slice t1 x none (some y) none, t, p, af, none⟩ :: l) e σ K := by
 obtain ⟨σ', q1, q2⟩ := buf_exp H hk
 refine .plain (x := .v (.sl (r.map c))) (σ1 := σ') ?_ (fun h => Z3d (hdr h)) hd (hk' σ' q2)
 have h' := cut?_some h
 simp only [ZI, hx, hl, optD, Option.map_some, q1, Option.bind_some, Z82 h ht hs hm (lo := none) (hi := some (.v (.int k1 j0))) rfl (Z3W (by omega))]

theorem Ops.sliceSF {α : Type} {c : α → List FV} {xs r : List α} {el : TypeId} {m id m0 : Nat} {k1 k2 : IntKind} {j0 : Int} {lv : Bool} (h : cut? xs 0 j0 = some r) (H : Has σ lo hi L) (k : Nat) (hk : L[k]? = some (.sl (.buf id m0 m) el m (xs.map c) lv)) (hx : Z1 X e x = some (.buf id m0 m)) (hl : Z1 X e y = some (.v (.int k1 j0))) (hm' : Z1 X e z = some (.v (.int k2 j0))) (ht : tslice X.P t1 = some el) (hs : tsize X.P el = some m) (hm : ∀ u, (c u).length = m) (hdr : dr = true → Z2Q (Region.before ops) ops i = true) (hd : Nat.blt d n = true)
  (hk' : ∀ σ', Has σ' lo hi (L.set k (.sl (.buf id m0 m) el m (xs.map c) false)) → Ops X n dr ops base (i + 1) l (set e d (.full (r.map c))) σ' K) : Ops X n dr ops base i (⟨some d, .slice t1 x none (some y) (some z), t, p, af, none⟩ :: l) e σ K := by
 obtain ⟨σ', q1, q2⟩ := buf_exp H hk
 refine .plain (x := .full (r.map c)) (σ1 := σ') ?_ (fun h => Z3d (hdr h)) hd (hk' σ' q2)
 have h' := cut?_some h
 simp only [ZI, hx, hl, hm', optD, Option.map_some, q1, Option.bind_some, sliceF_ok h ht hs hm (lo := none) rfl (Z3W (by omega)) (Z3W (by omega))]

theorem Ops.appendF {α : Type} {c : α → List FV} {xs ys r : List α} {el : TypeId} {sz by_ : Nat} {w : PV} {zs : List PV} (H : Has σ lo hi L) (hlo : lo ≤ base + i) (hhi : base + i < hi) (hm : ∀ u, (c u).length = sz)
  (hx : Z1 X e x = some (.full (xs.map c))) (hy : Z1 X e y = some w) (hb : Bring L sz w (ys.map c)) (hne : Nat.beq ys.length 0 = false) (hr : app? by_ xs ys = some r) (ht : tslice X.P t1 = some el) (hs : tsize X.P el = some sz) (hby : tbytes X.P el = some by_) (hz : tzero X.P el = some zs)
  (hc : (sz != 0 && by_ != 0 && zs.length == sz) = true)
  (ha : dr = true → ∀ id, w.owner = some id → Seen ops base i id true) (hd : Nat.blt d n = true)
  (hk' : ∀ σ', Has σ' (base + i + 1) hi (.sl (.buf (base + i) r.length sz) el sz (r.map c) true :: L) → Ops X n dr ops base (i + 1) l (set e d (.buf (base + i) r.length sz)) σ' K) :
  Ops X n dr ops base i (⟨some d, .call { callee := .builtin .append, args := #[x, y], argTypes := #[t1, t1] }, t, p, af, none⟩ :: l) e σ K := by
 unfold app? at hr
 split at hr
 ·rename_i hroom
  cases hr
  simp only [Bool.and_eq_true, beq_iff_eq, bne_iff_ne, ne_eq] at hc
  obtain ⟨hb1, hb2⟩ := brought H hb
  have hxa : ∀ y ∈ xs.map c, y.length = sz := fun y hy => by obtain ⟨u, _, rfl⟩ := List.mem_map.1 hy; exact hm u
  have hall : ∀ y ∈ (xs ++ ys).map c, y.length = sz := fun y hy => by obtain ⟨u, _, rfl⟩ := List.mem_map.1 hy; exact hm u
  have hn : ¬(sz = 0 ∨ by_ = 0 ∨ (some zs).map List.length ≠ some sz) := by
   rintro (h | h | h)
   ·exact hc.1.1 h
   ·exact hc.1.2 h
   ·exact h (by rw [Option.map_some, hc.2])
  have hl0 : (ys.map c).length ≠ 0 := by
   rw [List.length_map]
   intro h
   rw [h] at hne
   cases hne
  have ask : dr = true → Z0T X ops base i ⟨some d, .call { callee := .builtin .append, args := #[x, y], argTypes := #[t1, t1] }, t, p, af, none⟩ e = true := fun h =>
   Z9f (ids := vids w) rfl (by simp only [touched, Z04, List.flatMap_cons, List.flatMap_nil, hx, hy, vids, List.append_nil, List.nil_append]) (fun id2 hid2 => (ha h) id2 (Z73 hid2 (Z8H H hb)))
  have hxall : (xs.map c).all (fun y => y.length == sz) = true := by simp [hm]
  refine .plain (x := .buf (base + i) (xs ++ ys).length sz) (σ1 := σ.put (base + i) (.blk el (vs (xs.map c).flatten ++ vs (ys.map c).flatten) true)) ?_ ask hd
   (hk' _ (H.push hlo hhi (r' := .sl (.buf (base + i) (xs ++ ys).length sz) el sz ((xs ++ ys).map c) true) ⟨hall, .inr ⟨base + i, by rw [List.length_map], ?_⟩⟩ rfl))
  ·simp only [ZI, Z06, Zd, hx, hy, Option.bind_some, Z0p, if_true, Z1J, ht, hs, hby, hb1, hz, if_neg hn, if_neg hl0]
   rw [if_pos ⟨by simpa using hroom, hxall⟩]
   simp only [List.length_map, List.length_append]
  ·rw [Z1X, List.map_append, List.flatten_append, vs_append]
 ·cases hr
end
end Go.Dn

namespace Go.Dn
open Go Go.Proofs
def cloneV (sz by_ : Nat) : List PV → Option PV
 | [.v (.sl xs)] => if (xs.all fun y => y.length == sz) = true ∧ xs.length * by_ ≤ room then some (.v (.sl xs)) else none
 | _ => none
noncomputable def CA : Ctx := { P := Try.prog, glob := fun _ => none, intr := fun f args => none, opn := fun f => f == 25, keep := fun f => false, lit := true }
noncomputable def C0 : Ctx := { P := Try.prog, glob := fun _ => none, intr := fun _ _ => none, opn := fun _ => false, keep := fun _ => false }
theorem prog_ok : ProgOK Try.prog := by
 refine ⟨fun f fn h => ?_, by kernel_rfl⟩
 have hall : Try.prog.funcs.all (fun fn => !(fn.name == "runtime.NumGoroutine")) = true := by kernel_rfl
 have := Array.all_eq_true_iff_forall_mem.1 hall fn (Array.mem_of_getElem? h)
 simpa using this
theorem ca_ok : CtxOK CA := by
 refine ⟨prog_ok, fun f args r h s hi hG vs hv hp => ?_⟩
 simp only [CA] at h
 cases h
noncomputable def CX : Ctx := { P := Try.prog, glob := fun _ => none, intr := fun f args => CA.intr f args, opn := fun f => f == 11 || f == 25, keep := fun f => false }
theorem cx_ok : CtxOK CX := by
 refine ⟨prog_ok, fun f args r h s hi hG vs hv hp => ?_⟩
 simp only [CX] at h
 exact ca_ok.intr f args r h s hi hG vs hv hp

end Go.Dn

namespace Go.Dn
open Go

structure Span where
 From : Int
 To : Int
 deriving DecidableEq

def Span.cs (x : Span) : List FV := [(.int .i64 x.From), (.int .i64 x.To)]

def Span.ok (x : Span) : Prop := okI .i64 x.From ∧ okI .i64 x.To

structure Granule where
 Index : Int
 Ticks : (List Span)
 deriving DecidableEq

def Granule.cs (x : Granule) : List FV := [(.int .i64 x.Index), (.sl (x.Ticks.map Span.cs))]

def Granule.ok (x : Granule) : Prop := okI .i64 x.Index ∧ okL 16 Span.ok x.Ticks

structure Form where
 Period : Int
 Count : Int
 Core : (List (List Span))
 Odd : (List Granule)
 deriving DecidableEq

def Form.cs (x : Form) : List FV := [(.int .i64 x.Period), (.int .i64 x.Count), (.sl (x.Core.map (cL Span.cs))), (.sl (x.Odd.map Granule.cs))]

def Form.ok (x : Form) : Prop := okI .i64 x.Period ∧ okI .i64 x.Count ∧ okL 24 (okL 16 Span.ok) x.Core ∧ okL 32 Granule.ok x.Odd

structure Bound where
 Inf : Int
 N : Int
 deriving DecidableEq

def Bound.cs (x : Bound) : List FV := [(.int .i8 x.Inf), (.int .i64 x.N)]

def Bound.ok (x : Bound) : Prop := okI .i8 x.Inf ∧ okI .i64 x.N

structure Range where
 Low : Int
 High : Int
 HasLow : Bool
 HasHigh : Bool
 deriving DecidableEq

def Range.cs (x : Range) : List FV := [(.int .i64 x.Low), (.int .i64 x.High), (.bool x.HasLow), (.bool x.HasHigh)]

def Range.ok (x : Range) : Prop := okI .i64 x.Low ∧ okI .i64 x.High ∧ okB x.HasLow ∧ okB x.HasHigh

structure size_place where
 first : Int
 last : Int
 deriving DecidableEq

def size_place.cs (x : size_place) : List FV := [(.int .i64 x.first), (.int .i64 x.last)]

def size_place.ok (x : size_place) : Prop := okI .i64 x.first ∧ okI .i64 x.last

structure size_spot where
 index : Int
 place : size_place
 deriving DecidableEq

def size_spot.cs (x : size_spot) : List FV := [(.int .i64 x.index), (.int .i64 x.place.first), (.int .i64 x.place.last)]

def size_spot.ok (x : size_spot) : Prop := okI .i64 x.index ∧ size_place.ok x.place

structure size_form where
 Form : Form
 spots : (List size_spot)
 deriving DecidableEq

def size_form.cs (x : size_form) : List FV := [(.int .i64 x.Form.Period), (.int .i64 x.Form.Count), (.sl (x.Form.Core.map (cL Span.cs))), (.sl (x.Form.Odd.map Granule.cs)), (.sl (x.spots.map size_spot.cs))]

def size_form.ok (x : size_form) : Prop := Form.ok x.Form ∧ okL 24 size_spot.ok x.spots

structure carry_asked where
 f : Form
 m : Int
 deriving DecidableEq

def carry_asked.cs (x : carry_asked) : List FV := [(.int .i64 x.f.Period), (.int .i64 x.f.Count), (.sl (x.f.Core.map (cL Span.cs))), (.sl (x.f.Odd.map Granule.cs)), (.int .i64 x.m)]

def carry_asked.ok (x : carry_asked) : Prop := Form.ok x.f ∧ okI .i64 x.m

structure Con where
 X : Int
 Y : Int
 Form : Int
 Range : Range
 deriving DecidableEq

def Con.cs (x : Con) : List FV := [(.int .i64 x.X), (.int .i64 x.Y), (.int .i64 x.Form), (.int .i64 x.Range.Low), (.int .i64 x.Range.High), (.bool x.Range.HasLow), (.bool x.Range.HasHigh)]

def Con.ok (x : Con) : Prop := okI .i64 x.X ∧ okI .i64 x.Y ∧ okI .i64 x.Form ∧ Range.ok x.Range

structure Net where
 Vars : Int
 Forms : (List Form)
 Cons : (List Con)
 deriving DecidableEq

def Net.cs (x : Net) : List FV := [(.int .i64 x.Vars), (.sl (x.Forms.map Form.cs)), (.sl (x.Cons.map Con.cs))]

def Net.ok (x : Net) : Prop := okI .i64 x.Vars ∧ okL 64 Form.ok x.Forms ∧ okL 48 Con.ok x.Cons

noncomputable def Z05.s0 (f : Form) (s1 : Int × Int) : Option ((Int × Int) ⊕ (Int)) :=
 (bif (decide (s1.2 < (f.Core.length : Int))) then
  (at? f.Core s1.2).bind fun x1 =>
  some (.inl ((w64 (s1.1 + (x1.length : Int))), (w64 (s1.2 + 1))))
 else
  some (.inr s1.1))

noncomputable def Z05.s1 (f : Form) (s2 : Int × Int) : Option ((Int × Int) ⊕ (Int)) :=
 (bif (decide (s2.2 < (f.Odd.length : Int))) then
  (at? f.Odd s2.2).bind fun x2 =>
  some (.inl ((w64 (s2.1 + (x2.Ticks.length : Int))), (w64 (s2.2 + 1))))
 else
  some (.inr s2.1))

noncomputable def Z05 (f : Form) : Option (Int) :=
 (ZJ (Z05.s0 f) (0, 0)).bind fun (y1 : Int) =>
 (ZJ (Z05.s1 f) (y1, 0)).bind fun (y2 : Int) =>
 some y2

noncomputable def Z0e (f : Form) : Option (Bool) :=
 (
  (bif ((decide ((f.Core.length : Int) ≤ 12)) && (decide ((f.Odd.length : Int) ≤ 8))) then
   (Z05 f).bind fun x1 =>
   some (decide (x1 ≤ 60))
  else
   some false)).bind fun (y1 : Bool) =>
 some y1

noncomputable def Za (t : Int) : Bool :=
 ((decide (t ≥ (-1099511627776))) && (decide (t ≤ 1099511627776)))

noncomputable def Z07.s0 (l : (List Span)) (s1 : Int) : Option ((Int) ⊕ (Jx (Unit) (Bool))) :=
 (bif (decide (s1 < (l.length : Int))) then
  (at? l s1).bind fun x1 =>
  (
   (bif (((!(Za x1.From)) || (!(Za x1.To))) || (decide (x1.From > x1.To))) then
    some true
   else
    (
     (bif (decide (s1 > 0)) then
      (at? l (w64 (s1 - 1))).bind fun x2 =>
      some (decide (x1.From < (w64 (x2.To + 2))))
     else
      some false)).bind fun (y3 : Bool) =>
    some y3)).bind fun (y2 : Bool) =>
  (bif y2 then
   some (.inr (.ret false))
  else
   some (.inl (w64 (s1 + 1))))
 else
  some (.inr (.go ())))

noncomputable def Z07 (l : (List Span)) : Option (Bool) :=
 (ZJ (Z07.s0 l) 0).bind fun (y1 : Jx (Unit) (Bool)) =>
 y1.elim (fun r' =>
   some r') fun a2 =>
 some true

noncomputable def Zp (i : Int) : Bool :=
 ((decide (i ≥ (-1099511627776))) && (decide (i ≤ 1099511627776)))

noncomputable def Zj.s0 (f : Form) (s1 : Int) : Option ((Int) ⊕ (Jx (Unit) (Bool))) :=
 (bif (decide (s1 < (f.Core.length : Int))) then
  (at? f.Core s1).bind fun x1 =>
  (Z07 x1).bind fun x2 =>
  (bif (!x2) then
   some (.inr (.ret false))
  else
   some (.inl (w64 (s1 + 1))))
 else
  some (.inr (.go ())))

noncomputable def Zj.s1 (f : Form) (s2 : Int) : Option ((Int) ⊕ (Jx (Unit) (Bool))) :=
 (bif (decide (s2 < (f.Odd.length : Int))) then
  (at? f.Odd s2).bind fun x3 =>
  (Z07 x3.Ticks).bind fun x4 =>
  (
   (bif ((!x4) || (!(Zp x3.Index))) then
    some true
   else
    (
     (bif (decide (s2 > 0)) then
      (at? f.Odd (w64 (s2 - 1))).bind fun x5 =>
      some (decide (x3.Index ≤ x5.Index))
     else
      some false)).bind fun (y4 : Bool) =>
    some y4)).bind fun (y3 : Bool) =>
  (bif y3 then
   some (.inr (.ret false))
  else
   some (.inl (w64 (s2 + 1))))
 else
  some (.inr (.go ())))

noncomputable def Zj (f : Form) : Option (Bool) :=
 (bif ((((f.Count != (f.Core.length : Int)) || ((f.Count == 0) != (f.Period == 0))) || (decide (f.Period < 0))) || (decide (f.Period > 1099511627776))) then
  some false
 else
  (ZJ (Zj.s0 f) 0).bind fun (y1 : Jx (Unit) (Bool)) =>
  y1.elim (fun r' =>
    some r') fun a2 =>
  (ZJ (Zj.s1 f) 0).bind fun (y2 : Jx (Unit) (Bool)) =>
  y2.elim (fun r' =>
    some r') fun a4 =>
  some true)

noncomputable def Z0A.s0 (f : Form) (s2 : Int × (List (List Span))) : Option ((Int × (List (List Span))) ⊕ ((List (List Span)))) :=
 (bif (decide (s2.1 < (f.Core.length : Int))) then
  (
   (
    (at? f.Core s2.1).bind fun x1 =>
    (bif (decide ((x1.length : Int) > 0)) then
     (app? 24 s2.2 [x1]).bind fun x2 =>
     some x2
    else
     some s2.2)).bind fun (y3 : (List (List Span))) =>
   some y3).bind fun (y2 : (List (List Span))) =>
  some (.inl ((w64 (s2.1 + 1)), y2))
 else
  some (.inr s2.2))

noncomputable def Z0A.s1 (f : Form) (y1 : (List (List Span))) (s3 : Int) : Option ((Int) ⊕ (Jx (Unit) (Bool))) :=
 (bif (decide (s3 < (y1.length : Int))) then
  (
   (
    (at? y1 s3).bind fun x3 =>
    (nz? (y1.length : Int)).bind fun u1 =>
    (at? y1 ((w64 (s3 + 1)).tmod (y1.length : Int))).bind fun x4 =>
    (
     (bif ((w64 (s3 + 1)) == (y1.length : Int)) then
      some f.Period
     else
      some 0)).bind fun (y7 : Int) =>
    (at? x3 (w64 ((x3.length : Int) - 1))).bind fun x5 =>
    (at? x4 0).bind fun x6 =>
    (bif (decide (x5.To ≥ (w64 (x6.From + y7)))) then
     some (.ret false)
    else
     some (.go ()))).bind fun (y6 : Jx (Unit) (Bool)) =>
   y6.elim (fun r' =>
     some (.ret r')) fun a4 =>
   some (.go ())).bind fun (y5 : Jx (Unit) (Bool)) =>
  y5.elim (fun r' =>
    some (.inr (.ret r'))) fun a5 =>
  some (.inl (w64 (s3 + 1)))
 else
  some (.inr (.go ())))

noncomputable def Z0A (f : Form) : Option (Bool) :=
 (ZJ (Z0A.s0 f) (0, [])).bind fun (y1 : (List (List Span))) =>
 (ZJ (Z0A.s1 f y1) 0).bind fun (y4 : Jx (Unit) (Bool)) =>
 y4.elim (fun r' =>
   some r') fun a6 =>
 some true

noncomputable def Z5.s0 (x' : (List Granule)) (target : Int) (cmp : Granule → Int → Option Int) (s1 : Int × Int) : Option ((Int × Int) ⊕ (Int)) :=
 (bif (decide (s1.1 < s1.2)) then
  (
   (at? x' (w64 ((IntKind.u64.wrap (w64 (s1.1 + s1.2))).fdiv (2 ^ 1)))).bind fun x1 =>
   (cmp x1 target).bind fun x2 =>
   (bif (decide (x2 < 0)) then
    some ((w64 ((w64 ((IntKind.u64.wrap (w64 (s1.1 + s1.2))).fdiv (2 ^ 1))) + 1)), s1.2)
   else
    some (s1.1, (w64 ((IntKind.u64.wrap (w64 (s1.1 + s1.2))).fdiv (2 ^ 1)))))).bind fun (y2 : Int × Int) =>
  some (.inl (y2.1, y2.2))
 else
  some (.inr s1.1))

noncomputable def Z5 (x' : (List Granule)) (target : Int) (cmp : Granule → Int → Option Int) : Option (Int × Bool) :=
 (ZJ (Z5.s0 x' target cmp) (0, (x'.length : Int))).bind fun (y1 : Int) =>
 (
  (bif (decide (y1 < (x'.length : Int))) then
   (at? x' y1).bind fun x3 =>
   (cmp x3 target).bind fun x4 =>
   some (x4 == 0)
  else
   some false)).bind fun (y3 : Bool) =>
 some (y1, y3)

noncomputable def Z01 (x' : Int) : Bool :=
 (x' != x')

noncomputable def Z0P (x' : Int) (y : Int) : Int :=
 (bif (Z01 x') then
  (bif (Z01 y) then
   0
  else
   (-1))
 else
  (bif (Z01 y) then
   1
  else
   (bif (decide (x' < y)) then
    (-1)
   else
    (bif (decide (x' > y)) then
     1
    else
     0))))

noncomputable def Z2m (g : Granule) (i : Int) : Int :=
 (Z0P g.Index i)

noncomputable def Z3i (f : Form) (i : Int) : Option (Int × Bool) :=
 (Z5 f.Odd i (fun z0 z1 => some (Z2m z0 z1))).bind fun x1 =>
 some (x1.1, x1.2)

noncomputable def Z15 (a : Int) (b : Int) : Option (Int × Int × Int) :=
 (bif (b == 0) then
  some (0, 0, 11)
 else
  (bif ((b == (-1)) && (a == (-9223372036854775808))) then
   some (0, 0, 10)
  else
   (nz? b).bind fun u1 =>
   (nz? b).bind fun u2 =>
   (
    (bif (((a.tmod b) != 0) && ((decide ((a.tmod b) < 0)) != (decide (b < 0)))) then
     some ((w64 ((w64 (a.tdiv b)) - 1)), (w64 ((a.tmod b) + b)))
    else
     some ((w64 (a.tdiv b)), (a.tmod b)))).bind fun (y1 : Int × Int) =>
   some (y1.1, y1.2, 0)))

noncomputable def ZD (a : Int) : Int :=
 (bif (decide (a < 0)) then
  (IntKind.u64.wrap (0 - (IntKind.u64.wrap a)))
 else
  (IntKind.u64.wrap a))

noncomputable def ZH (x' : Int) (y : Int) : Int × Int :=
 ((IntKind.u64.wrap ((IntKind.u64.wrap ((IntKind.u64.wrap ((x'.fdiv (2 ^ 32)) * (y.fdiv (2 ^ 32)))) + ((IntKind.u64.wrap ((IntKind.u64.wrap ((x'.fdiv (2 ^ 32)) * (iAnd .u64 y 4294967295))) + ((IntKind.u64.wrap ((iAnd .u64 x' 4294967295) * (iAnd .u64 y 4294967295))).fdiv (2 ^ 32)))).fdiv (2 ^ 32)))) + ((IntKind.u64.wrap ((iAnd .u64 (IntKind.u64.wrap ((IntKind.u64.wrap ((x'.fdiv (2 ^ 32)) * (iAnd .u64 y 4294967295))) + ((IntKind.u64.wrap ((iAnd .u64 x' 4294967295) * (iAnd .u64 y 4294967295))).fdiv (2 ^ 32)))) 4294967295) + (IntKind.u64.wrap ((iAnd .u64 x' 4294967295) * (y.fdiv (2 ^ 32)))))).fdiv (2 ^ 32)))), (IntKind.u64.wrap (x' * y)))

noncomputable def Z0K (n : Int) (minus : Bool) : Int × Int :=
 (bif (minus && (decide (n ≤ 9223372036854775808))) then
  ((w64 (IntKind.u64.wrap (0 - n))), 0)
 else
  (bif ((!minus) && (decide (n ≤ 9223372036854775807))) then
   ((w64 n), 0)
  else
   (0, 10)))

noncomputable def Z0L (a : Int) (b : Int) : Int × Int :=
 (bif (((ZH (ZD a) (ZD b)).1) != 0) then
  (0, 10)
 else
  ((Z0K ((ZH (ZD a) (ZD b)).2) ((decide (a < 0)) != (decide (b < 0)))).1, (Z0K ((ZH (ZD a) (ZD b)).2) ((decide (a < 0)) != (decide (b < 0)))).2))

noncomputable def Z20 (f : Form) (i : Int) : Option ((List Span) × Int × Int) :=
 (Z3i f i).bind fun x1 =>
 (bif x1.2 then
  (at? f.Odd x1.1).bind fun x2 =>
  some (x2.Ticks, 0, 0)
 else
  (bif (f.Count == 0) then
   some ([], 0, 0)
  else
   (Z15 i f.Count).bind fun x3 =>
   (at? f.Core x3.2.1).bind fun x4 =>
   some (x4, (Z0L x3.1 f.Period).1, (Z0L x3.1 f.Period).2)))

noncomputable def ZB (a : Int) (b : Int) : Int × Int :=
 (bif (((decide ((w64 (a + b)) > a)) != (decide (b > 0))) && (b != 0)) then
  (0, 10)
 else
  ((w64 (a + b)), 0))

noncomputable def Z0F.s0 (l : (List Span)) (by' : Int) (s2 : Int × (List Span)) : Option ((Int × (List Span)) ⊕ (Jx ((List Span)) ((List Span) × Int))) :=
 (bif (decide (s2.1 < (l.length : Int))) then
  (at? l s2.1).bind fun x1 =>
  (bif ((((((ZB x1.From by').2) != 0) || (((ZB x1.To by').2) != 0)) || (!(Za ((ZB x1.From by').1)))) || (!(Za ((ZB x1.To by').1)))) then
   some (.inr (.ret ([], 20)))
  else
   (app? 16 s2.2 [(Span.mk ((ZB x1.From by').1) ((ZB x1.To by').1))]).bind fun x2 =>
   some (.inl ((w64 (s2.1 + 1)), x2)))
 else
  some (.inr (.go s2.2)))

noncomputable def Z0F (l : (List Span)) (by' : Int) : Option ((List Span) × Int) :=
 (ZJ (Z0F.s0 l by') (0, [])).bind fun (y1 : Jx ((List Span)) ((List Span) × Int)) =>
 y1.elim (fun r' =>
   some r') fun a2 =>
 some (a2, 0)

noncomputable def Z0H (f : Form) (i : Int) : Option ((List Span) × Int) :=
 (bif (!(Zp i)) then
  some ([], 20)
 else
  (Z20 f i).bind fun x1 =>
  (bif ((x1.1.length : Int) == 0) then
   some ([], 0)
  else
   (bif (x1.2.2 != 0) then
    some ([], 20)
   else
    (Z0F x1.1 x1.2.1).bind fun x2 =>
    some (x2.1, x2.2))))

noncomputable def ZF.s0 (s : (List (List Span))) (f : (List Span) → Option Bool) (s1 : Int) : Option ((Int) ⊕ (Jx (Unit) (Int))) :=
 (bif (decide (s1 < (s.length : Int))) then
  (at? s s1).bind fun x1 =>
  (f x1).bind fun x2 =>
  (bif x2 then
   some (.inr (.ret s1))
  else
   some (.inl (w64 (s1 + 1))))
 else
  some (.inr (.go ())))

noncomputable def ZF (s : (List (List Span))) (f : (List Span) → Option Bool) : Option (Int) :=
 (ZJ (ZF.s0 s f) 0).bind fun (y1 : Jx (Unit) (Int)) =>
 y1.elim (fun r' =>
   some r') fun a2 =>
 some (-1)

noncomputable def Zb (s : (List (List Span))) (f : (List Span) → Option Bool) : Option (Bool) :=
 (ZF s f).bind fun x1 =>
 some (decide (x1 ≥ 0))

noncomputable def Z3o (l : (List Span)) : Bool :=
 (decide ((l.length : Int) > 0))

noncomputable def Z3V (f : Form) : Option (Bool) :=
 (Zb f.Core (fun z0 => some (Z3o z0))).bind fun x1 =>
 some (!x1)

noncomputable def Z3G (f : Form) (i : Int) : Option (Bool) :=
 (Z20 f i).bind fun x1 =>
 some (decide ((x1.1.length : Int) > 0))

noncomputable def Zz.s0 (f : Form) (by' : Int) (s1 : Int) : Option ((Int) ⊕ (Jx (Unit) (Int × Bool))) :=
 (bif ((decide (s1 ≥ 0)) && (decide (s1 < (f.Odd.length : Int)))) then
  (at? f.Odd s1).bind fun x3 =>
  (bif (decide ((x3.Ticks.length : Int) > 0)) then
   (at? f.Odd s1).bind fun x4 =>
   some (.inr (.ret (x4.Index, true)))
  else
   some (.inl (w64 (s1 + by'))))
 else
  some (.inr (.go ())))

noncomputable def Zz.s1 (f : Form) (by' : Int) (s2 : Int) : Option ((Int) ⊕ (Jx (Unit) (Int × Bool))) :=
 (bif (Zp s2) then
  (Z3G f s2).bind fun x5 =>
  (bif x5 then
   some (.inr (.ret (s2, true)))
  else
   some (.inl (w64 (s2 + by'))))
 else
  some (.inr (.go ())))

noncomputable def Zz (f : Form) (from' : Int) (by' : Int) : Option (Int × Bool) :=
 (Z3V f).bind fun x1 =>
 (bif x1 then
  (Z3i f from').bind fun x2 =>
  (
   (bif ((decide (by' < 0)) && (!x2.2)) then
    some (w64 (x2.1 - 1))
   else
    some x2.1)).bind fun (y1 : Int) =>
  (ZJ (Zz.s0 f by') y1).bind fun (y2 : Jx (Unit) (Int × Bool)) =>
  y2.elim (fun r' =>
    some r') fun a2 =>
  some (0, false)
 else
  (ZJ (Zz.s1 f by') from').bind fun (y3 : Jx (Unit) (Int × Bool)) =>
  y3.elim (fun r' =>
    some r') fun a4 =>
  some (0, false))

noncomputable def Z13 (f : Form) (i : Int) : Option (Int × Bool) :=
 (bif (decide (i ≤ (-1099511627776))) then
  some (0, false)
 else
  (Zz f (iMin (w64 (i - 1)) 1099511627776) (-1)).bind fun x1 =>
  some (x1.1, x1.2))

noncomputable def Z0v (f : Form) (i : Int) : Option (Int × Bool) :=
 (bif (decide (i ≥ 1099511627776)) then
  some (0, false)
 else
  (Zz f (iMax (w64 (i + 1)) (-1099511627776)) 1).bind fun x1 =>
  some (x1.1, x1.2))

noncomputable def Z0W (a : (List Span)) (b : (List Span)) : Option (Bool) :=
 (
  (bif (((a.length : Int) == 0) || ((b.length : Int) == 0)) then
   some true
  else
   (at? a (w64 ((a.length : Int) - 1))).bind fun x1 =>
   (at? b 0).bind fun x2 =>
   some (decide (x1.To < x2.From)))).bind fun (y1 : Bool) =>
 some y1

noncomputable def Z1N (f : Form) (i : Int) : Option (Bool) :=
 (Z0H f i).bind fun x1 =>
 (bif (x1.2 != 0) then
  some false
 else
  (Z13 f i).bind fun x2 =>
  (Z0v f i).bind fun x3 =>
  (
   (bif x2.2 then
    (Z0H f x2.1).bind fun x4 =>
    (bif (x4.2 != 0) then
     some (.ret false)
    else
     some (.go x4.1))
   else
    some (.go []))).bind fun (y1 : Jx ((List Span)) (Bool)) =>
  y1.elim (fun r' =>
    some r') fun a2 =>
  (
   (bif x3.2 then
    (Z0H f x3.1).bind fun x5 =>
    (bif (x5.2 != 0) then
     some (.ret false)
    else
     some (.go x5.1))
   else
    some (.go []))).bind fun (y2 : Jx ((List Span)) (Bool)) =>
  y2.elim (fun r' =>
    some r') fun a4 =>
  (Z0W a2 x1.1).bind fun x6 =>
  (
   (bif x6 then
    (Z0W x1.1 a4).bind fun x7 =>
    some x7
   else
    some false)).bind fun (y3 : Bool) =>
  (
   (bif y3 then
    (Z0W a2 a4).bind fun x8 =>
    some x8
   else
    some false)).bind fun (y4 : Bool) =>
  some y4)

noncomputable def Zx.s0 (f : Form) (s1 : Int) : Option ((Int) ⊕ (Jx (Unit) (Int))) :=
 (bif (decide (s1 < (f.Odd.length : Int))) then
  (at? f.Odd s1).bind fun x4 =>
  (Z1N f x4.Index).bind fun x5 =>
  (bif (!x5) then
   some (.inr (.ret 50))
  else
   some (.inl (w64 (s1 + 1))))
 else
  some (.inr (.go ())))

noncomputable def Zx (f : Form) : Option (Int) :=
 (
  (bif ((decide ((f.Core.length : Int) > 6000)) || (decide ((f.Odd.length : Int) > 6000))) then
   some true
  else
   (Z05 f).bind fun x1 =>
   some (decide (x1 > 60000)))).bind fun (y1 : Bool) =>
 (bif y1 then
  some 3
 else
  (Zj f).bind fun x2 =>
  (
   (bif (!x2) then
    some true
   else
    (Z0A f).bind fun x3 =>
    some (!x3))).bind fun (y2 : Bool) =>
  (bif y2 then
   some 50
  else
   (ZJ (Zx.s0 f) 0).bind fun (y3 : Jx (Unit) (Int)) =>
   y3.elim (fun r' =>
     some r') fun a2 =>
   some 0))

noncomputable def Z3M (f : Form) : Option (Bool) :=
 (Z0e f).bind fun x1 =>
 (
  (bif x1 then
   (Zx f).bind fun x2 =>
   some (x2 == 0)
  else
   some false)).bind fun (y1 : Bool) =>
 some y1

def Z0c : Bool := true

noncomputable def Z1a.s0 (s1' : (List Span)) (s2' : (List Span)) (s1 : Int) : Option ((Int) ⊕ (Jx (Unit) (Bool))) :=
 (bif (decide (s1 < (s1'.length : Int))) then
  (at? s1' s1).bind fun x1 =>
  (at? s2' s1).bind fun x2 =>
  (bif (!((x1.From == x2.From) && ((x1.To == x2.To) && true))) then
   some (.inr (.ret false))
  else
   some (.inl (w64 (s1 + 1))))
 else
  some (.inr (.go ())))

noncomputable def Z1a (s1' : (List Span)) (s2' : (List Span)) : Option (Bool) :=
 (bif ((s1'.length : Int) != (s2'.length : Int)) then
  some false
 else
  (ZJ (Z1a.s0 s1' s2') 0).bind fun (y1 : Jx (Unit) (Bool)) =>
  y1.elim (fun r' =>
    some r') fun a2 =>
  some true)

noncomputable def Z2l (a : (List Span)) (b : (List Span)) : Option (Bool) :=
 (Z1a a b).bind fun x1 =>
 some x1

noncomputable def epactlaw05_FormOrder (f : Form) (i : Int) (k : Int) : Option (Bool) :=
 (Z3M f).bind fun x1 =>
 (bif (!x1) then
  some Z0c
 else
  (Z0H f (iMin i k)).bind fun x2 =>
  (Z0H f (iMax i k)).bind fun x3 =>
  (bif ((x2.2 != 0) || (x3.2 != 0)) then
   some ((((x2.2 == 0) || ((x2.2 == 20) && ((x2.1.length : Int) == 0))) && ((x3.2 == 0) || ((x3.2 == 20) && ((x3.1.length : Int) == 0)))) && Z0c)
  else
   (Z07 x2.1).bind fun x4 =>
   (
    (bif x4 then
     (Z07 x3.1).bind fun x5 =>
     some x5
    else
     some false)).bind fun (y1 : Bool) =>
   (
    (bif y1 then
     (
      (bif ((iMin i k) == (iMax i k)) then
       (Z2l x2.1 x3.1).bind fun x6 =>
       some x6
      else
       some false)).bind fun (y3 : Bool) =>
     (
      (bif y3 then
       some true
      else
       (
        (bif (decide ((iMin i k) < (iMax i k))) then
         (Z0W x2.1 x3.1).bind fun x7 =>
         some x7
        else
         some false)).bind fun (y5 : Bool) =>
       some y5)).bind fun (y4 : Bool) =>
     some y4
    else
     some false)).bind fun (y2 : Bool) =>
   some (y2 && Z0c)))

noncomputable def Z2z.s0 (f : Form) (i : Int) (s1 : Int) : Option ((Int) ⊕ (Jx (Unit) (Bool))) :=
 (bif (decide (s1 < (f.Odd.length : Int))) then
  (at? f.Odd s1).bind fun x1 =>
  (bif (x1.Index == i) then
   some (.inr (.ret true))
  else
   some (.inl (w64 (s1 + 1))))
 else
  some (.inr (.go ())))

noncomputable def Z2z (f : Form) (i : Int) : Option (Bool) :=
 (ZJ (Z2z.s0 f i) 0).bind fun (y1 : Jx (Unit) (Bool)) =>
 y1.elim (fun r' =>
   some r') fun a2 =>
 some false

noncomputable def epactlaw05_FormTurns (f : Form) (i : Int) : Option (Bool) :=
 (Z3M f).bind fun x1 =>
 (
  (bif ((!x1) || (f.Count == 0)) then
   some true
  else
   (Z2z f ((w64 i).tmod 1048576)).bind fun x2 =>
   some x2)).bind fun (y1 : Bool) =>
 (
  (bif y1 then
   some true
  else
   (Z2z f (w64 (((w64 i).tmod 1048576) + f.Count))).bind fun x3 =>
   some x3)).bind fun (y2 : Bool) =>
 (bif y2 then
  some Z0c
 else
  (Z0H f ((w64 i).tmod 1048576)).bind fun x4 =>
  (Z0H f (w64 (((w64 i).tmod 1048576) + f.Count))).bind fun x5 =>
  (bif ((x4.2 != 0) || (x5.2 != 0)) then
   some Z0c
  else
   (Z0F x4.1 f.Period).bind fun x6 =>
   (
    (bif (x6.2 == 0) then
     (Z2l x6.1 x5.1).bind fun x7 =>
     some x7
    else
     some false)).bind fun (y3 : Bool) =>
   some (y3 && Z0c)))

noncomputable def Z1Z.s0 (f : Form) (i : Int) (x2 : Int × Bool) (s1 : Int) : Option ((Int) ⊕ (Jx (Int) (Bool))) :=
 (bif ((x2.2 && (decide (s1 < x2.1))) && (decide (s1 < (w64 (((w64 i).fdiv (2 ^ 1)) + 40))))) then
  (Z0H f s1).bind fun x4 =>
  (bif ((x4.2 == 0) && (decide ((x4.1.length : Int) > 0))) then
   some (.inr (.ret false))
  else
   some (.inl (w64 (s1 + 1))))
 else
  some (.inr (.go ((w64 i).fdiv (2 ^ 1)))))

noncomputable def Z1Z.s1 (f : Form) (x3 : Int × Bool) (a2 : Int) (s2 : Int) : Option ((Int) ⊕ (Jx (Unit) (Bool))) :=
 (bif ((x3.2 && (decide (s2 > x3.1))) && (decide (s2 > (w64 (a2 - 40))))) then
  (Z0H f s2).bind fun x5 =>
  (bif ((x5.2 == 0) && (decide ((x5.1.length : Int) > 0))) then
   some (.inr (.ret false))
  else
   some (.inl (w64 (s2 - 1))))
 else
  some (.inr (.go ())))

noncomputable def Z1Z (f : Form) (i : Int) : Option (Bool) :=
 (Z3M f).bind fun x1 =>
 (bif (!x1) then
  some Z0c
 else
  (Z0v f ((w64 i).fdiv (2 ^ 1))).bind fun x2 =>
  (Z13 f ((w64 i).fdiv (2 ^ 1))).bind fun x3 =>
  (bif ((x2.2 && (decide (x2.1 ≤ ((w64 i).fdiv (2 ^ 1))))) || (x3.2 && (decide (x3.1 ≥ ((w64 i).fdiv (2 ^ 1)))))) then
   some false
  else
   (ZJ (Z1Z.s0 f i x2) (w64 (((w64 i).fdiv (2 ^ 1)) + 1))).bind fun (y1 : Jx (Int) (Bool)) =>
   y1.elim (fun r' =>
     some r') fun a2 =>
   (ZJ (Z1Z.s1 f x3 a2) (w64 (a2 - 1))).bind fun (y2 : Jx (Unit) (Bool)) =>
   y2.elim (fun r' =>
     some r') fun a4 =>
   (
    (bif x2.2 then
     (Z13 f x2.1).bind fun x6 =>
     (bif ((x6.2 && (decide (x6.1 > a2))) || (x3.2 && ((!x6.2) || (decide (x6.1 < x3.1))))) then
      some (.ret false)
     else
      some (.go ()))
    else
     some (.go ()))).bind fun (y3 : Jx (Unit) (Bool)) =>
   y3.elim (fun r' =>
     some r') fun a6 =>
   some Z0c))

noncomputable def Z0N.s0 (s1' : (List Span)) (s2' : (List Span)) (eq : Span → Span → Option Bool) (s1 : Int) : Option ((Int) ⊕ (Jx (Unit) (Bool))) :=
 (bif (decide (s1 < (s1'.length : Int))) then
  (at? s1' s1).bind fun x1 =>
  (at? s2' s1).bind fun x2 =>
  (eq x1 x2).bind fun x3 =>
  (bif (!x3) then
   some (.inr (.ret false))
  else
   some (.inl (w64 (s1 + 1))))
 else
  some (.inr (.go ())))

noncomputable def Z0N (s1' : (List Span)) (s2' : (List Span)) (eq : Span → Span → Option Bool) : Option (Bool) :=
 (bif ((s1'.length : Int) != (s2'.length : Int)) then
  some false
 else
  (ZJ (Z0N.s0 s1' s2' eq) 0).bind fun (y1 : Jx (Unit) (Bool)) =>
  y1.elim (fun r' =>
    some r') fun a2 =>
  some true)

noncomputable def Z0G.s0 (s1' : (List (List Span))) (s2' : (List (List Span))) (eq : (List Span) → (List Span) → Option Bool) (s1 : Int) : Option ((Int) ⊕ (Jx (Unit) (Bool))) :=
 (bif (decide (s1 < (s1'.length : Int))) then
  (at? s1' s1).bind fun x1 =>
  (at? s2' s1).bind fun x2 =>
  (eq x1 x2).bind fun x3 =>
  (bif (!x3) then
   some (.inr (.ret false))
  else
   some (.inl (w64 (s1 + 1))))
 else
  some (.inr (.go ())))

noncomputable def Z0G (s1' : (List (List Span))) (s2' : (List (List Span))) (eq : (List Span) → (List Span) → Option Bool) : Option (Bool) :=
 (bif ((s1'.length : Int) != (s2'.length : Int)) then
  some false
 else
  (ZJ (Z0G.s0 s1' s2' eq) 0).bind fun (y1 : Jx (Unit) (Bool)) =>
  y1.elim (fun r' =>
    some r') fun a2 =>
  some true)

noncomputable def Z00.s0 (s1' : (List Granule)) (s2' : (List Granule)) (eq : Granule → Granule → Option Bool) (s1 : Int) : Option ((Int) ⊕ (Jx (Unit) (Bool))) :=
 (bif (decide (s1 < (s1'.length : Int))) then
  (at? s1' s1).bind fun x1 =>
  (at? s2' s1).bind fun x2 =>
  (eq x1 x2).bind fun x3 =>
  (bif (!x3) then
   some (.inr (.ret false))
  else
   some (.inl (w64 (s1 + 1))))
 else
  some (.inr (.go ())))

noncomputable def Z00 (s1' : (List Granule)) (s2' : (List Granule)) (eq : Granule → Granule → Option Bool) : Option (Bool) :=
 (bif ((s1'.length : Int) != (s2'.length : Int)) then
  some false
 else
  (ZJ (Z00.s0 s1' s2' eq) 0).bind fun (y1 : Jx (Unit) (Bool)) =>
  y1.elim (fun r' =>
    some r') fun a2 =>
  some true)

noncomputable def Z30.s0 (a : (List Span)) (b : (List Span)) (s1 : Int) : Option ((Int) ⊕ (Jx (Unit) (Bool))) :=
 (bif (decide (s1 < (a.length : Int))) then
  (at? a s1).bind fun x1 =>
  (at? b s1).bind fun x2 =>
  (bif (!((x2.From == x1.From) && ((x2.To == x1.To) && true))) then
   some (.inr (.ret false))
  else
   some (.inl (w64 (s1 + 1))))
 else
  some (.inr (.go ())))

noncomputable def Z30 (a : (List Span)) (b : (List Span)) : Option (Bool) :=
 (bif ((a.length : Int) != (b.length : Int)) then
  some false
 else
  (ZJ (Z30.s0 a b) 0).bind fun (y1 : Jx (Unit) (Bool)) =>
  y1.elim (fun r' =>
    some r') fun a2 =>
  some true)

noncomputable def Z08.s0 (a : Form) (b : Form) (s1 : Int) : Option ((Int) ⊕ (Jx (Unit) (Bool))) :=
 (bif (decide (s1 < (a.Core.length : Int))) then
  (at? a.Core s1).bind fun x1 =>
  (at? b.Core s1).bind fun x2 =>
  (Z30 x1 x2).bind fun x3 =>
  (bif (!x3) then
   some (.inr (.ret false))
  else
   some (.inl (w64 (s1 + 1))))
 else
  some (.inr (.go ())))

noncomputable def Z08.s1 (a : Form) (b : Form) (s2 : Int) : Option ((Int) ⊕ (Jx (Unit) (Bool))) :=
 (bif (decide (s2 < (a.Odd.length : Int))) then
  (at? a.Odd s2).bind fun x4 =>
  (at? b.Odd s2).bind fun x5 =>
  (
   (bif (x4.Index != x5.Index) then
    some true
   else
    (at? b.Odd s2).bind fun x6 =>
    (Z30 x4.Ticks x6.Ticks).bind fun x7 =>
    some (!x7))).bind fun (y3 : Bool) =>
  (bif y3 then
   some (.inr (.ret false))
  else
   some (.inl (w64 (s2 + 1))))
 else
  some (.inr (.go ())))

noncomputable def Z08 (a : Form) (b : Form) : Option (Bool) :=
 (bif ((((a.Period != b.Period) || (a.Count != b.Count)) || ((a.Core.length : Int) != (b.Core.length : Int))) || ((a.Odd.length : Int) != (b.Odd.length : Int))) then
  some false
 else
  (ZJ (Z08.s0 a b) 0).bind fun (y1 : Jx (Unit) (Bool)) =>
  y1.elim (fun r' =>
    some r') fun a2 =>
  (ZJ (Z08.s1 a b) 0).bind fun (y2 : Jx (Unit) (Bool)) =>
  y2.elim (fun r' =>
    some r') fun a4 =>
  some true)

noncomputable def Z2V (f : Form) : Option (Bool) :=
 (Z0e f).bind fun x1 =>
 (
  (bif x1 then
   (Zx f).bind fun x2 =>
   some (x2 == 0)
  else
   some false)).bind fun (y1 : Bool) =>
 some y1

noncomputable def Z2i.s0 (f : Form) (most : Int) (s1 : Int) : Option ((Int) ⊕ (Jx (Unit) (Bool))) :=
 (bif (decide (s1 < (f.Odd.length : Int))) then
  (at? f.Odd s1).bind fun x1 =>
  (bif ((decide (x1.Index < (w64 (0 - most)))) || (decide (x1.Index > most))) then
   some (.inr (.ret false))
  else
   some (.inl (w64 (s1 + 1))))
 else
  some (.inr (.go ())))

noncomputable def Z2i (f : Form) (most : Int) : Option (Bool) :=
 (ZJ (Z2i.s0 f most) 0).bind fun (y1 : Jx (Unit) (Bool)) =>
 y1.elim (fun r' =>
   some r') fun a2 =>
 some true

def Z0s : Bool := true

noncomputable def canon_bare_1 (l : (List Span)) : Bool :=
 (decide ((l.length : Int) > 0))

noncomputable def canon_bare (f : Form) : Option (Bool) :=
 (Zb f.Core (fun z0 => some (canon_bare_1 z0))).bind fun x1 =>
 some (!x1)

noncomputable def Z3P.s0 (p1' : Int) {S : Type} (yield : S → Int → Option (S × Bool)) (s1 : Int × S) : Option ((Int × S) ⊕ (Jx (S) (S))) :=
 (bif (decide (s1.1 ≤ p1')) then
  (nz? s1.1).bind fun u1 =>
  (
   (bif ((p1'.tmod s1.1) == 0) then
    (yield s1.2 s1.1).bind fun x1 =>
    some ((!x1.2), x1.1)
   else
    some (false, s1.2))).bind fun (y2 : Bool × S) =>
  (bif y2.1 then
   some (.inr (.ret y2.2))
  else
   some (.inl ((w64 (s1.1 + 1)), y2.2)))
 else
  some (.inr (.go s1.2)))

noncomputable def Z3P {S : Type} (p1' : Int) (yield : S → Int → Option (S × Bool)) (st' : S) : Option (S) :=
 (ZJ (Z3P.s0 p1' yield) (1, st')).bind fun (y1 : Jx (S) (S)) =>
 y1.elim (fun r' =>
   some r') fun a2 =>
 some a2

noncomputable def Z8j (x' : Span) (y : Span) (p2' : Int) : Bool :=
 (((w64 (y.From - x'.From)) == p2') && ((w64 (y.To - x'.To)) == p2'))

noncomputable def canon_shifted (a : (List Span)) (b : (List Span)) (by' : Int) : Option (Bool) :=
 (Z0N a b (fun z0 z1 => some (Z8j z0 z1 by'))).bind fun x1 =>
 some x1

noncomputable def Z6s.s0 (f : Form) (d : Int) (by' : Int) (s1 : Int) : Option ((Int) ⊕ (Jx (Unit) (Bool))) :=
 (bif (decide (s1 < (f.Core.length : Int))) then
  (
   (
    (at? f.Core s1).bind fun x1 =>
    (
     (bif (decide ((w64 (s1 + d)) ≥ f.Count)) then
      some ((w64 ((w64 (s1 + d)) - f.Count)), f.Period)
     else
      some ((w64 (s1 + d)), 0))).bind fun (y4 : Int × Int) =>
    (at? f.Core y4.1).bind fun x2 =>
    (canon_shifted x1 x2 (w64 (by' - y4.2))).bind fun x3 =>
    (bif (!x3) then
     some (.ret false)
    else
     some (.go ()))).bind fun (y3 : Jx (Unit) (Bool)) =>
   y3.elim (fun r' =>
     some (.ret r')) fun a4 =>
   some (.go ())).bind fun (y2 : Jx (Unit) (Bool)) =>
  y2.elim (fun r' =>
    some (.inr (.ret r'))) fun a5 =>
  some (.inl (w64 (s1 + 1)))
 else
  some (.inr (.go ())))

noncomputable def Z6s (f : Form) (d : Int) (by' : Int) : Option (Bool) :=
 (ZJ (Z6s.s0 f d by') 0).bind fun (y1 : Jx (Unit) (Bool)) =>
 y1.elim (fun r' =>
   some r') fun a6 =>
 some true

noncomputable def Z4L.s1 (x4 : (List (List Span))) (s3 : Int × (List (List Span))) : Option ((Int × (List (List Span))) ⊕ ((List (List Span)))) :=
 (bif (decide (s3.1 < (x4.length : Int))) then
  (at? x4 s3.1).bind fun x5 =>
  (clone? 16 x5).bind fun x6 =>
  (app? 24 s3.2 [x6]).bind fun x7 =>
  some (.inl ((w64 (s3.1 + 1)), x7))
 else
  some (.inr s3.2))

noncomputable def Z4L.b0 (f : Form) (s2 : (List (List Span)) × Int × Int) (z2 : Int) : Option (((List (List Span)) × Int × Int) × Nat) :=
 (nz? z2).bind fun u1 =>
 (Z15 f.Period (w64 (f.Count.tdiv z2))).bind fun x2 =>
 (
  (bif (x2.2.1 != 0) then
   some true
  else
   (Z6s f z2 x2.1).bind fun x3 =>
   some (!x3))).bind fun (y3 : Bool) =>
 (bif y3 then
  some ((s2.1, s2.2.1, s2.2.2), 0)
 else
  (cut? f.Core 0 z2).bind fun x4 =>
  (ZJ (Z4L.s1 x4) (0, s2.1)).bind fun (y4 : (List (List Span))) =>
  some ((y4, x2.1, z2), 1))

noncomputable def Z4L (f : Form) : Option (Form) :=
 (canon_bare f).bind fun x1 =>
 (bif x1 then
  some (Form.mk 0 0 [] [])
 else
  (
   (Z3P f.Count (Z1c (Z4L.b0 f)) (([], 0, 0), 0)).bind fun (y2 : ((List (List Span)) × Int × Int) × Nat) =>
   (bif (y2.2 == 0) then
    some (y2.1.1, y2.1.2.1, y2.1.2.2)
   else
    some (y2.1.1, y2.1.2.1, y2.1.2.2))).bind fun (y1 : (List (List Span)) × Int × Int) =>
  some (Form.mk y1.2.1 y1.2.2 y1.1 []))

noncomputable def canon_plain (f : Form) (g : Granule) : Option (Bool) :=
 (Z0H f g.Index).bind fun x1 =>
 (
  (bif (x1.2 == 0) then
   (Z2l x1.1 g.Ticks).bind fun x2 =>
   some x2
  else
   some false)).bind fun (y1 : Bool) =>
 some y1

noncomputable def Z1A.s0 (f : Form) (x1 : Form) (s2 : Int × (List Granule)) : Option ((Int × (List Granule)) ⊕ ((List Granule))) :=
 (bif (decide (s2.1 < (f.Odd.length : Int))) then
  (
   (
    (at? f.Odd s2.1).bind fun x2 =>
    (canon_plain x1 x2).bind fun x3 =>
    (bif (!x3) then
     (clone? 16 x2.Ticks).bind fun x4 =>
     (app? 32 s2.2 [(Granule.mk x2.Index x4)]).bind fun x5 =>
     some x5
    else
     some s2.2)).bind fun (y3 : (List Granule)) =>
   some y3).bind fun (y2 : (List Granule)) =>
  some (.inl ((w64 (s2.1 + 1)), y2))
 else
  some (.inr s2.2))

noncomputable def Z1A (f : Form) : Option (Form) :=
 (Z4L f).bind fun x1 =>
 (ZJ (Z1A.s0 f x1) (0, [])).bind fun (y1 : (List Granule)) =>
 some (Form.mk x1.Period x1.Count x1.Core y1)

noncomputable def canon_equal_1 (x' : Granule) (y : Granule) : Option (Bool) :=
 (
  (bif (x'.Index == y.Index) then
   (Z2l x'.Ticks y.Ticks).bind fun x1 =>
   some x1
  else
   some false)).bind fun (y1 : Bool) =>
 some y1

noncomputable def Z8Z (a : Form) (b : Form) : Option (Bool) :=
 (
  (bif ((a.Period == b.Period) && (a.Count == b.Count)) then
   (Z0G a.Core b.Core (fun z0 z1 => Z2l z0 z1)).bind fun x1 =>
   some x1
  else
   some false)).bind fun (y1 : Bool) =>
 (
  (bif y1 then
   (Z00 a.Odd b.Odd (fun z0 z1 => canon_equal_1 z0 z1)).bind fun x2 =>
   some x2
  else
   some false)).bind fun (y2 : Bool) =>
 some y2

noncomputable def Z9V (f : Form) (g : Form) : Option (Bool) :=
 (Z1A f).bind fun x1 =>
 (Z1A g).bind fun x2 =>
 (Z8Z x1 x2).bind fun x3 =>
 some x3

noncomputable def Z3n.s0 (f : Form) (g : Form) (s1 : Int) : Option ((Int) ⊕ (Jx (Bool) (Bool))) :=
 (bif (decide (s1 ≤ 2000)) then
  (Z0H f s1).bind fun x5 =>
  (Z0H g s1).bind fun x6 =>
  (bif ((x5.2 != 0) || (x6.2 != 0)) then
   some (.inr (.ret Z0s))
  else
   (Z2l x5.1 x6.1).bind fun x7 =>
   (bif (!x7) then
    some (.inr (.go false))
   else
    some (.inl (w64 (s1 + 1)))))
 else
  some (.inr (.go true)))

noncomputable def Z3n (f : Form) (g : Form) : Option (Bool) :=
 (Z2V f).bind fun x1 =>
 (
  (bif (!x1) then
   some true
  else
   (Z2V g).bind fun x2 =>
   some (!x2))).bind fun (y1 : Bool) =>
 (
  (bif y1 then
   some true
  else
   (Z2i f 200).bind fun x3 =>
   some (!x3))).bind fun (y2 : Bool) =>
 (
  (bif y2 then
   some true
  else
   (Z2i g 200).bind fun x4 =>
   some (!x4))).bind fun (y3 : Bool) =>
 (bif ((y3 || (decide (f.Period > 32768))) || (decide (g.Period > 32768))) then
  some Z0s
 else
  (ZJ (Z3n.s0 f g) (-2000)).bind fun (y4 : Jx (Bool) (Bool)) =>
  y4.elim (fun r' =>
    some r') fun a2 =>
  (Z9V f g).bind fun x8 =>
  (
   (bif (x8 == a2) then
    (Z1A f).bind fun x9 =>
    (Z1A g).bind fun x10 =>
    (Z08 x9 x10).bind fun x11 =>
    some (x11 == a2)
   else
    some false)).bind fun (y5 : Bool) =>
  some (y5 && Z0s))

noncomputable def canon_Is (f : Form) : Option (Bool) :=
 (Z1A f).bind fun x1 =>
 (Z8Z f x1).bind fun x2 =>
 some x2

noncomputable def Z3E.s0 (f : Form) (i : Int) (x2 : Form) (s1 : Int) : Option ((Int) ⊕ (Jx (Unit) (Bool))) :=
 (bif (decide (s1 < ([i, 0, 1, (-1), (w64 ((i.tmod 50) - 25))].length : Int))) then
  (at? [i, 0, 1, (-1), (w64 ((i.tmod 50) - 25))] s1).bind fun x9 =>
  (Z0H f x9).bind fun x10 =>
  (Z0H x2 x9).bind fun x11 =>
  (
   (bif (x10.2 != x11.2) then
    some true
   else
    (Z2l x10.1 x11.1).bind fun x12 =>
    some (!x12))).bind fun (y5 : Bool) =>
  (bif y5 then
   some (.inr (.ret false))
  else
   some (.inl (w64 (s1 + 1))))
 else
  some (.inr (.go ())))

noncomputable def Z3E (f : Form) (i : Int) : Option (Bool) :=
 (Z2V f).bind fun x1 =>
 (bif (!x1) then
  some Z0s
 else
  (Z1A f).bind fun x2 =>
  (Zx x2).bind fun x3 =>
  (
   (bif (x3 != 0) then
    some true
   else
    (canon_Is x2).bind fun x4 =>
    some (!x4))).bind fun (y1 : Bool) =>
  (
   (bif y1 then
    some true
   else
    (Z1A x2).bind fun x5 =>
    (Z08 x5 x2).bind fun x6 =>
    some (!x6))).bind fun (y2 : Bool) =>
  (
   (bif (((y2 || (decide (x2.Count > f.Count))) || (decide (x2.Period > f.Period))) || (decide ((x2.Odd.length : Int) > (f.Odd.length : Int)))) then
    some true
   else
    (Z05 x2).bind fun x7 =>
    (Z05 f).bind fun x8 =>
    some (decide (x7 > x8)))).bind fun (y3 : Bool) =>
  (bif y3 then
   some false
  else
   (ZJ (Z3E.s0 f i x2) 0).bind fun (y4 : Jx (Unit) (Bool)) =>
   y4.elim (fun r' =>
     some r') fun a2 =>
   (Z9V f x2).bind fun x13 =>
   some (x13 && Z0s)))

noncomputable def Z6Y (l : (List Span)) : Option ((List Span)) :=
 (new? 16 (l.length : Int) (Span.mk 0 0)).bind fun x1 =>
 some (cpy x1 l)

noncomputable def Z1G.s0 (f : Form) (s2 : Int × (List (List Span))) : Option ((Int × (List (List Span))) ⊕ ((List (List Span)))) :=
 (bif (decide (s2.1 < (f.Core.length : Int))) then
  (at? f.Core s2.1).bind fun x1 =>
  (Z6Y x1).bind fun x2 =>
  (app? 24 s2.2 [x2]).bind fun x3 =>
  some (.inl ((w64 (s2.1 + 1)), x3))
 else
  some (.inr s2.2))

noncomputable def Z1G.s1 (f : Form) (s4 : Int × (List Granule)) : Option ((Int × (List Granule)) ⊕ ((List Granule))) :=
 (bif (decide (s4.1 < (f.Odd.length : Int))) then
  (at? f.Odd s4.1).bind fun x4 =>
  (Z6Y x4.Ticks).bind fun x5 =>
  (app? 32 s4.2 [(Granule.mk x4.Index x5)]).bind fun x6 =>
  some (.inl ((w64 (s4.1 + 1)), x6))
 else
  some (.inr s4.2))

noncomputable def Z1G (f : Form) : Option (Form) :=
 (ZJ (Z1G.s0 f) (0, [])).bind fun (y1 : (List (List Span))) =>
 (ZJ (Z1G.s1 f) (0, [])).bind fun (y2 : (List Granule)) =>
 some (Form.mk f.Period f.Count y1 y2)

noncomputable def Z3r.s0 (f : Form) (s1 : Int) : Option ((Int) ⊕ (Jx (Unit) (Bool))) :=
 (bif (decide (s1 < (f.Core.length : Int))) then
  (at? f.Core s1).bind fun x1 =>
  (bif (decide ((x1.length : Int) > 0)) then
   some (.inr (.ret false))
  else
   some (.inl (w64 (s1 + 1))))
 else
  some (.inr (.go ())))

noncomputable def Z3r (f : Form) : Option (Bool) :=
 (ZJ (Z3r.s0 f) 0).bind fun (y1 : Jx (Unit) (Bool)) =>
 y1.elim (fun r' =>
   some r') fun a2 =>
 some true

noncomputable def Z5d (a : Int) (b : Int) : Option (Int × Int) :=
 (nz? b).bind fun u1 =>
 (nz? b).bind fun u2 =>
 (
  (bif (decide ((a.tmod b) < 0)) then
   some ((w64 ((w64 (a.tdiv b)) - 1)), (w64 ((a.tmod b) + b)))
  else
   some ((w64 (a.tdiv b)), (a.tmod b)))).bind fun (y1 : Int × Int) =>
 some (y1.1, y1.2)

noncomputable def Z4C (f : Form) (i : Int) : Option ((List Span) × Int) :=
 (Z5d i f.Count).bind fun x1 =>
 (at? f.Core x1.2).bind fun x2 =>
 some (x2, (w64 (x1.1 * f.Period)))

noncomputable def Z2h.s0 (a : (List Span)) (x' : Int) (b : (List Span)) (y : Int) (s1 : Int) : Option ((Int) ⊕ (Jx (Unit) (Bool))) :=
 (bif (decide (s1 < (a.length : Int))) then
  (at? a s1).bind fun x1 =>
  (at? b s1).bind fun x2 =>
  (
   (bif ((w64 (x1.From + x')) != (w64 (x2.From + y))) then
    some true
   else
    (at? a s1).bind fun x3 =>
    (at? b s1).bind fun x4 =>
    some ((w64 (x3.To + x')) != (w64 (x4.To + y))))).bind fun (y2 : Bool) =>
  (bif y2 then
   some (.inr (.ret false))
  else
   some (.inl (w64 (s1 + 1))))
 else
  some (.inr (.go ())))

noncomputable def Z2h (a : (List Span)) (x' : Int) (b : (List Span)) (y : Int) : Option (Bool) :=
 (bif ((a.length : Int) != (b.length : Int)) then
  some false
 else
  (ZJ (Z2h.s0 a x' b y) 0).bind fun (y1 : Jx (Unit) (Bool)) =>
  y1.elim (fun r' =>
    some r') fun a2 =>
  some true)

noncomputable def Z3K.s0 (f : Form) (d : Int) (s1 : Int) : Option ((Int) ⊕ (Jx (Unit) (Bool))) :=
 (bif (decide (s1 < f.Count)) then
  (Z4C f s1).bind fun x1 =>
  (Z4C f (w64 (s1 + d))).bind fun x2 =>
  (nz? f.Count).bind fun u3 =>
  (Z2h x1.1 (w64 (x1.2 + (w64 ((w64 (f.Period * d)).tdiv f.Count)))) x2.1 x2.2).bind fun x3 =>
  (bif (!x3) then
   some (.inr (.ret false))
  else
   some (.inl (w64 (s1 + 1))))
 else
  some (.inr (.go ())))

noncomputable def Z3K (f : Form) (d : Int) : Option (Bool) :=
 (nz? d).bind fun u1 =>
 (
  (bif ((f.Count.tmod d) != 0) then
   some true
  else
   (nz? f.Count).bind fun u2 =>
   some (((w64 (f.Period * d)).tmod f.Count) != 0))).bind fun (y1 : Bool) =>
 (bif y1 then
  some false
 else
  (ZJ (Z3K.s0 f d) 0).bind fun (y2 : Jx (Unit) (Bool)) =>
  y2.elim (fun r' =>
    some r') fun a2 =>
  some true)

noncomputable def Z0w.s0 (f : Form) (s1 : Int) : Option ((Int) ⊕ (Int)) :=
 (Z3K f s1).bind fun x2 =>
 (bif (!x2) then
  some (.inl (w64 (s1 + 1)))
 else
  some (.inr s1))

noncomputable def Z0w.s1 (f : Form) (y2 : Int) (s2 : Int × (List (List Span))) : Option ((Int × (List (List Span))) ⊕ ((List (List Span)) × Int)) :=
 (bif (decide (s2.1 < y2)) then
  (at? f.Core s2.1).bind fun x3 =>
  (app? 16 [] x3).bind fun x4 =>
  (app? 24 s2.2 [x4]).bind fun x5 =>
  some (.inl ((w64 (s2.1 + 1)), x5))
 else
  some (.inr (s2.2, (w64 ((w64 (f.Period * y2)).tdiv f.Count)))))

noncomputable def Z0w.s2 (f : Form) (y1 : (List (List Span)) × Int × Int) (s3 : Int × (List Granule)) : Option ((Int × (List Granule)) ⊕ ((List Granule))) :=
 (bif (decide (s3.1 < (f.Odd.length : Int))) then
  (
   (
    (
     (bif (decide (y1.2.2 > 0)) then
      (at? f.Odd s3.1).bind fun x6 =>
      (Z4C (Form.mk y1.2.1 y1.2.2 y1.1 []) x6.Index).bind fun x7 =>
      some (x7.1, x7.2)
     else
      some ([], 0))).bind fun (y7 : (List Span) × Int) =>
    (at? f.Odd s3.1).bind fun x8 =>
    (Z2h y7.1 y7.2 x8.Ticks 0).bind fun x9 =>
    (bif (!x9) then
     (at? f.Odd s3.1).bind fun x10 =>
     (at? f.Odd s3.1).bind fun x11 =>
     (app? 16 [] x11.Ticks).bind fun x12 =>
     (app? 32 s3.2 [(Granule.mk x10.Index x12)]).bind fun x13 =>
     some x13
    else
     some s3.2)).bind fun (y6 : (List Granule)) =>
   some y6).bind fun (y5 : (List Granule)) =>
  some (.inl ((w64 (s3.1 + 1)), y5))
 else
  some (.inr s3.2))

noncomputable def Z0w (f : Form) : Option (Form) :=
 (
  (Z3r f).bind fun x1 =>
  (bif (!x1) then
   (ZJ (Z0w.s0 f) 1).bind fun (y2 : Int) =>
   (nz? f.Count).bind fun u1 =>
   (ZJ (Z0w.s1 f y2) (0, [])).bind fun (y3 : (List (List Span)) × Int) =>
   some (y3.1, y3.2, y2)
  else
   some ([], 0, 0))).bind fun (y1 : (List (List Span)) × Int × Int) =>
 (ZJ (Z0w.s2 f y1) (0, [])).bind fun (y4 : (List Granule)) =>
 some (Form.mk y1.2.1 y1.2.2 y1.1 y4)

noncomputable def epactlaw06_CanonTells (f : Form) : Option (Bool) :=
 (Z2V f).bind fun x1 =>
 (bif (!x1) then
  some Z0s
 else
  (Z1G f).bind fun x2 =>
  (Z1A x2).bind fun x3 =>
  (Z0w f).bind fun x4 =>
  (Z08 x3 x4).bind fun x5 =>
  (
   (bif x5 then
    (canon_Is x2).bind fun x6 =>
    (Z08 f x4).bind fun x7 =>
    some (x6 == x7)
   else
    some false)).bind fun (y1 : Bool) =>
  (
   (bif y1 then
    (Z08 x2 f).bind fun x8 =>
    some x8
   else
    some false)).bind fun (y2 : Bool) =>
  some (y2 && Z0s))

noncomputable def Z57 (f : Form) : Option (Bool) :=
 (Z0e f).bind fun x1 =>
 (
  (bif x1 then
   (Zx f).bind fun x2 =>
   some (x2 == 0)
  else
   some false)).bind fun (y1 : Bool) =>
 some y1

def Z0q : Bool := true

noncomputable def Z18 (a : Bound) : Bool :=
 ((a.Inf == 0) || (((a.Inf == 1) || (a.Inf == (-1))) && (a.N == 0)))

noncomputable def size_inRange (k : Int) : Bool :=
 ((decide (k ≥ (-1099511627776))) && (decide (k ≤ 1099511627776)))

noncomputable def Z16 (l : (List Span)) : Option (Span × Bool) :=
 (bif ((l.length : Int) == 0) then
  some ((Span.mk 0 0), false)
 else
  (at? l 0).bind fun x1 =>
  (at? l (w64 ((l.length : Int) - 1))).bind fun x2 =>
  some ((Span.mk x1.From x2.To), true))

noncomputable def Z7z.s0 (x1 : Form) (s2 : Int × (List size_spot)) : Option ((Int × (List size_spot)) ⊕ ((List size_spot))) :=
 (bif (decide (s2.1 < (x1.Core.length : Int))) then
  (
   (
    (at? x1.Core s2.1).bind fun x2 =>
    (Z16 x2).bind fun x3 =>
    (bif x3.2 then
     (app? 24 s2.2 [(size_spot.mk s2.1 (size_place.mk x3.1.From x3.1.To))]).bind fun x4 =>
     some x4
    else
     some s2.2)).bind fun (y3 : (List size_spot)) =>
   some y3).bind fun (y2 : (List size_spot)) =>
  some (.inl ((w64 (s2.1 + 1)), y2))
 else
  some (.inr s2.2))

noncomputable def Z7z (f : Form) : Option (size_form) :=
 (Z1A f).bind fun x1 =>
 (ZJ (Z7z.s0 x1) (0, [])).bind fun (y1 : (List size_spot)) =>
 some (size_form.mk x1 y1)

noncomputable def Z3h.s0 (f : Int → Option Bool) (s1 : Int × Int) : Option ((Int × Int) ⊕ (Int)) :=
 (bif (decide (s1.1 < s1.2)) then
  (
   (f (w64 ((IntKind.u64.wrap (w64 (s1.1 + s1.2))).fdiv (2 ^ 1)))).bind fun x1 =>
   (bif (!x1) then
    some ((w64 ((w64 ((IntKind.u64.wrap (w64 (s1.1 + s1.2))).fdiv (2 ^ 1))) + 1)), s1.2)
   else
    some (s1.1, (w64 ((IntKind.u64.wrap (w64 (s1.1 + s1.2))).fdiv (2 ^ 1)))))).bind fun (y2 : Int × Int) =>
  some (.inl (y2.1, y2.2))
 else
  some (.inr s1.1))

noncomputable def Z3h (n : Int) (f : Int → Option Bool) : Option (Int) :=
 (ZJ (Z3h.s0 f) (0, n)).bind fun (y1 : Int) =>
 some y1

noncomputable def Z8A (n : Int) (p1' : size_form) (p2' : Int) (p3' : Int) : Option (Bool) :=
 (at? p1'.spots n).bind fun x1 =>
 some (decide ((w64 (x1.place.last - (w64 (p2' * p1'.Form.Period)))) ≥ p3'))

noncomputable def Z80 (n : Int) (p1' : size_form) (p2' : Int) (p3' : Int) : Option (Bool) :=
 (at? p1'.spots n).bind fun x1 =>
 some (decide ((w64 (x1.place.first + (w64 (p2' * p1'.Form.Period)))) > p3'))

noncomputable def Z64 (f : size_form) (t : Int) (up : Bool) : Option (Int) :=
 (bif up then
  (at? f.spots (w64 ((f.spots.length : Int) - 1))).bind fun x1 =>
  (Z15 (w64 (x1.place.last - t)) f.Form.Period).bind fun x2 =>
  (Z3h (f.spots.length : Int) (fun z0 => Z8A z0 f x2.1 t)).bind fun x3 =>
  (at? f.spots x3).bind fun x4 =>
  some (w64 (x4.index - (w64 (x2.1 * f.Form.Count))))
 else
  (at? f.spots 0).bind fun x5 =>
  (Z15 (w64 (t - x5.place.first)) f.Form.Period).bind fun x6 =>
  (Z3h (f.spots.length : Int) (fun z0 => Z80 z0 f x6.1 t)).bind fun x7 =>
  (at? f.spots (w64 (x7 - 1))).bind fun x8 =>
  some (w64 (x8.index + (w64 (x6.1 * f.Form.Count)))))

noncomputable def Z8m (g : Granule) (i : Int) : Int :=
 (Z0P g.Index i)

noncomputable def size_form_odd (f : size_form) (i : Int) : Option (Int) :=
 (Z5 f.Form.Odd i (fun z0 z1 => some (Z8m z0 z1))).bind fun x1 =>
 (bif (!x1.2) then
  some (-1)
 else
  some x1.1)

noncomputable def size_form_has (f : size_form) (i : Int) : Option (Bool) :=
 (Z15 i f.Form.Count).bind fun x1 =>
 (at? f.Form.Core x1.2.1).bind fun x2 =>
 some (decide ((x2.length : Int) > 0))

noncomputable def Z0Q.s0 (f : size_form) (y1 : Int) (s1 : Int) : Option ((Int) ⊕ (Int)) :=
 (size_form_odd f s1).bind fun x2 =>
 (
  (bif (decide (x2 ≥ 0)) then
   some true
  else
   (size_form_has f s1).bind fun x3 =>
   some (!x3))).bind fun (y4 : Bool) =>
 (bif y4 then
  some (.inl (w64 (s1 + y1)))
 else
  some (.inr s1))

noncomputable def Z0Q.s1 (s2 : Int × Int × (List Int) × Int × Bool) : Option ((Int × Int × (List Int) × Int × Bool) ⊕ ((List Int) × Int × Bool)) :=
 (bif (decide (s2.2.1 < s2.1)) then
  (
   (
    (at? s2.2.2.1 s2.2.1).bind fun x4 =>
    (bif ((!s2.2.2.2.2) || (decide (x4 > s2.2.2.2.1))) then
     some (x4, true)
    else
     some (s2.2.2.2.1, s2.2.2.2.2))).bind fun (y8 : Int × Bool) =>
   some (y8.1, y8.2)).bind fun (y7 : Int × Bool) =>
  some (.inl (s2.1, (w64 (s2.2.1 + 1)), s2.2.2.1, y7.1, y7.2))
 else
  some (.inr (s2.2.2.1, s2.2.2.2.1, s2.2.2.2.2)))

noncomputable def Z0Q.s3 (s4 : Int × Int × (List Int) × Int × Bool) : Option ((Int × Int × (List Int) × Int × Bool) ⊕ ((List Int) × Int × Bool)) :=
 (bif (decide (s4.2.1 < s4.1)) then
  (
   (
    (at? s4.2.2.1 s4.2.1).bind fun x7 =>
    (bif ((!s4.2.2.2.2) || (decide (x7 > s4.2.2.2.1))) then
     some (x7, true)
    else
     some (s4.2.2.2.1, s4.2.2.2.2))).bind fun (y15 : Int × Bool) =>
   some (y15.1, y15.2)).bind fun (y14 : Int × Bool) =>
  some (.inl (s4.1, (w64 (s4.2.1 + 1)), s4.2.2.1, y14.1, y14.2))
 else
  some (.inr (s4.2.2.1, s4.2.2.2.1, s4.2.2.2.2)))

noncomputable def Z0Q.s2 (f : size_form) (t : Int) (up : Bool) (y1 : Int) (s3 : Int × Int × Bool) : Option ((Int × Int × Bool) ⊕ (Int × Bool)) :=
 (bif (decide (s3.1 < (f.Form.Odd.length : Int))) then
  (
   (
    (at? f.Form.Odd s3.1).bind fun x5 =>
    (Z16 x5.Ticks).bind fun x6 =>
    (bif (x6.2 && ((up && (decide (x6.1.To ≥ t))) || ((!up) && (decide (x6.1.From ≤ t))))) then
     (
      (ZJ (Z0Q.s3) (([(w64 ((w64 (0 - y1)) * x5.Index))].length : Int), 0, [(w64 ((w64 (0 - y1)) * x5.Index))], s3.2.1, s3.2.2)).bind fun (y13 : (List Int) × Int × Bool) =>
      some (y13.1, y13.2.1, y13.2.2)).bind fun (y12 : (List Int) × Int × Bool) =>
     some (y12.2.1, y12.2.2)
    else
     some (s3.2.1, s3.2.2))).bind fun (y11 : Int × Bool) =>
   some (y11.1, y11.2)).bind fun (y10 : Int × Bool) =>
  some (.inl ((w64 (s3.1 + 1)), y10.1, y10.2))
 else
  some (.inr (s3.2.1, s3.2.2)))

noncomputable def Z0Q (f : size_form) (t : Int) (up : Bool) : Option (Int × Bool) :=
 (
  (bif up then
   some 1
  else
   some (-1))).bind fun (y1 : Int) =>
 (
  (bif (decide (f.Form.Count > 0)) then
   (Z64 f t up).bind fun x1 =>
   (ZJ (Z0Q.s0 f y1) x1).bind fun (y3 : Int) =>
   (
    (ZJ (Z0Q.s1) (([(w64 ((w64 (0 - y1)) * y3))].length : Int), 0, [(w64 ((w64 (0 - y1)) * y3))], 0, false)).bind fun (y6 : (List Int) × Int × Bool) =>
    some (y6.1, y6.2.1, y6.2.2)).bind fun (y5 : (List Int) × Int × Bool) =>
   some (y5.2.1, y5.2.2)
  else
   some (0, false))).bind fun (y2 : Int × Bool) =>
 (ZJ (Z0Q.s2 f t up y1) (0, y2.1, y2.2)).bind fun (y9 : Int × Bool) =>
 some ((w64 ((w64 (0 - y1)) * y9.1)), y9.2)

noncomputable def Z1s.s1 (s2 : Int × Int × (List Int) × Int × Bool) : Option ((Int × Int × (List Int) × Int × Bool) ⊕ ((List Int) × Int × Bool)) :=
 (bif (decide (s2.2.1 < s2.1)) then
  (
   (
    (at? s2.2.2.1 s2.2.1).bind fun x4 =>
    (bif ((!s2.2.2.2.2) || (decide (x4 > s2.2.2.2.1))) then
     some (x4, true)
    else
     some (s2.2.2.2.1, s2.2.2.2.2))).bind fun (y9 : Int × Bool) =>
   some (y9.1, y9.2)).bind fun (y8 : Int × Bool) =>
  some (.inl (s2.1, (w64 (s2.2.1 + 1)), s2.2.2.1, y8.1, y8.2))
 else
  some (.inr (s2.2.2.1, s2.2.2.2.1, s2.2.2.2.2)))

noncomputable def Z1s.s0 (d : Int) (up : Bool) (x1 : size_form) (y1 : Int) (s1 : Int × Int × Bool) : Option ((Int × Int × Bool) ⊕ (Int × Bool)) :=
 (bif (decide (s1.1 < (x1.spots.length : Int))) then
  (
   (
    (at? x1.spots s1.1).bind fun x2 =>
    (
     (bif up then
      some x2.place.first
     else
      some x2.place.last)).bind fun (y5 : Int) =>
    (Z64 x1 (w64 (y5 + d)) up).bind fun x3 =>
    (
     (ZJ (Z1s.s1) (([(w64 (y1 * (w64 (x3 - x2.index))))].length : Int), 0, [(w64 (y1 * (w64 (x3 - x2.index))))], s1.2.1, s1.2.2)).bind fun (y7 : (List Int) × Int × Bool) =>
     some (y7.1, y7.2.1, y7.2.2)).bind fun (y6 : (List Int) × Int × Bool) =>
    some (y6.2.1, y6.2.2)).bind fun (y4 : Int × Bool) =>
   some (y4.1, y4.2)).bind fun (y3 : Int × Bool) =>
  some (.inl ((w64 (s1.1 + 1)), y3.1, y3.2))
 else
  some (.inr (s1.2.1, s1.2.2)))

noncomputable def Z1s.s3 (s4 : Int × Int × (List Int) × Int × Bool) : Option ((Int × Int × (List Int) × Int × Bool) ⊕ ((List Int) × Int × Bool)) :=
 (bif (decide (s4.2.1 < s4.1)) then
  (
   (
    (at? s4.2.2.1 s4.2.1).bind fun x8 =>
    (bif ((!s4.2.2.2.2) || (decide (x8 > s4.2.2.2.1))) then
     some (x8, true)
    else
     some (s4.2.2.2.1, s4.2.2.2.2))).bind fun (y18 : Int × Bool) =>
   some (y18.1, y18.2)).bind fun (y17 : Int × Bool) =>
  some (.inl (s4.1, (w64 (s4.2.1 + 1)), s4.2.2.1, y17.1, y17.2))
 else
  some (.inr (s4.2.2.1, s4.2.2.2.1, s4.2.2.2.2)))

noncomputable def Z1s.s4 (s5 : Int × Int × (List Int) × Int × Bool) : Option ((Int × Int × (List Int) × Int × Bool) ⊕ ((List Int) × Int × Bool)) :=
 (bif (decide (s5.2.1 < s5.1)) then
  (
   (
    (at? s5.2.2.1 s5.2.1).bind fun x10 =>
    (bif ((!s5.2.2.2.2) || (decide (x10 > s5.2.2.2.1))) then
     some (x10, true)
    else
     some (s5.2.2.2.1, s5.2.2.2.2))).bind fun (y22 : Int × Bool) =>
   some (y22.1, y22.2)).bind fun (y21 : Int × Bool) =>
  some (.inl (s5.1, (w64 (s5.2.1 + 1)), s5.2.2.1, y21.1, y21.2))
 else
  some (.inr (s5.2.2.1, s5.2.2.2.1, s5.2.2.2.2)))

noncomputable def Z1s.s2 (d : Int) (up : Bool) (x1 : size_form) (y1 : Int) (s3 : Int × Int × Bool) : Option ((Int × Int × Bool) ⊕ (Int × Bool)) :=
 (bif (decide (s3.1 < (x1.Form.Odd.length : Int))) then
  (
   (
    (at? x1.Form.Odd s3.1).bind fun x5 =>
    (Z16 x5.Ticks).bind fun x6 =>
    (bif (!x6.2) then
     some (.ret ())
    else
     (
      (bif up then
       some (x6.1.To, x6.1.From)
      else
       some (x6.1.From, x6.1.To))).bind fun (y13 : Int × Int) =>
     (
      (Z0Q x1 (w64 (y13.2 + d)) up).bind fun x7 =>
      (bif x7.2 then
       (
        (ZJ (Z1s.s3) (([(w64 (y1 * (w64 (x7.1 - x5.Index))))].length : Int), 0, [(w64 (y1 * (w64 (x7.1 - x5.Index))))], s3.2.1, s3.2.2)).bind fun (y16 : (List Int) × Int × Bool) =>
        some (y16.1, y16.2.1, y16.2.2)).bind fun (y15 : (List Int) × Int × Bool) =>
       some (y15.2.1, y15.2.2)
      else
       some (s3.2.1, s3.2.2))).bind fun (y14 : Int × Bool) =>
     (Z0Q x1 (w64 (y13.1 - d)) (!up)).bind fun x9 =>
     (bif x9.2 then
      (
       (ZJ (Z1s.s4) (([(w64 (y1 * (w64 (x5.Index - x9.1))))].length : Int), 0, [(w64 (y1 * (w64 (x5.Index - x9.1))))], y14.1, y14.2)).bind fun (y20 : (List Int) × Int × Bool) =>
       some (y20.1, y20.2.1, y20.2.2)).bind fun (y19 : (List Int) × Int × Bool) =>
      some (.go (y19.2.1, y19.2.2))
     else
      some (.go (y14.1, y14.2))))).bind fun (y12 : Jx (Int × Bool) (Unit)) =>
   y12.elim (fun a4 =>
     some (s3.2.1, s3.2.2)) fun a3 =>
   some (a3.1, a3.2)).bind fun (y11 : Int × Bool) =>
  some (.inl ((w64 (s3.1 + 1)), y11.1, y11.2))
 else
  some (.inr (s3.2.1, s3.2.2)))

noncomputable def Z1s (g : Form) (d : Int) (up : Bool) : Option (Int × Bool × Int) :=
 (bif (!(size_inRange d)) then
  some (0, false, 2)
 else
  (Z7z g).bind fun x1 =>
  (
   (bif up then
    some (-1)
   else
    some 1)).bind fun (y1 : Int) =>
  (ZJ (Z1s.s0 d up x1 y1) (0, 0, false)).bind fun (y2 : Int × Bool) =>
  (ZJ (Z1s.s2 d up x1 y1) (0, y2.1, y2.2)).bind fun (y10 : Int × Bool) =>
  some ((w64 (y1 * y10.1)), y10.2, 0))

noncomputable def size_Down (f : Form) (d : Int) : Option (Int × Bool × Int) :=
 (Z1s f d false).bind fun x1 =>
 some (x1.1, x1.2.1, x1.2.2)

noncomputable def size_Up (f : Form) (d : Int) : Option (Int × Bool × Int) :=
 (Z1s f d true).bind fun x1 =>
 some (x1.1, x1.2.1, x1.2.2)

noncomputable def Z4a (f : Form) (low : Bound) (high : Bound) : Option (Range × Bool × Int) :=
 (bif ((((!(Z18 low)) || (!(Z18 high))) || (low.Inf == 1)) || (high.Inf == (-1))) then
  some ((Range.mk 0 0 false false), false, 2)
 else
  (
   (bif ((high.Inf == 0) && (decide (high.N ≤ 1099511627776))) then
    (size_Down f (iMax high.N (-1099511627776))).bind fun x1 =>
    (bif (!x1.2.1) then
     some (.ret ((Range.mk 0 0 false false), false, 0))
    else
     some (.go (x1.1, true)))
   else
    some (.go (0, false)))).bind fun (y1 : Jx (Int × Bool) (Range × Bool × Int)) =>
  y1.elim (fun r' =>
    some r') fun a2 =>
  (
   (bif ((low.Inf == 0) && (decide (low.N ≥ (-1099511627776)))) then
    (size_Up f (iMin low.N 1099511627776)).bind fun x2 =>
    (bif (!x2.2.1) then
     some (.ret ((Range.mk 0 0 false false), false, 0))
    else
     some (.go (x2.1, true)))
   else
    some (.go (0, false)))).bind fun (y2 : Jx (Int × Bool) (Range × Bool × Int)) =>
  y2.elim (fun r' =>
    some r') fun a4 =>
  some ((Range.mk a4.1 a2.1 a4.2 a2.2), true, 0))

noncomputable def epactlaw25_CarryArgs (f : Form) (low : Bound) (high : Bound) : Option (Bool) :=
 (Z57 f).bind fun x1 =>
 (bif (!x1) then
  some Z0q
 else
  (Z4a f low high).bind fun x2 =>
  (bif ((((!(Z18 low)) || (!(Z18 high))) || (low.Inf == 1)) || (high.Inf == (-1))) then
   some ((((x2.2.2 == 2) && (!x2.2.1)) && ((x2.1.Low == 0) && ((x2.1.High == 0) && ((x2.1.HasLow == false) && ((x2.1.HasHigh == false) && true))))) && Z0q)
  else
   (bif (((x2.2.2 != 0) || ((low.Inf == (-1)) && x2.1.HasLow)) || ((high.Inf == 1) && x2.1.HasHigh)) then
    some false
   else
    (Z4a f (Bound.mk (-1) 0) (Bound.mk 1 0)).bind fun x3 =>
    some ((((x3.2.2 == 0) && x3.2.1) && ((x3.1.Low == 0) && ((x3.1.High == 0) && ((x3.1.HasLow == false) && ((x3.1.HasHigh == false) && true))))) && Z0q))))

noncomputable def Z6Q (a : carry_asked) (gap : Int) : Option (Bool) :=
 (size_Down a.f (w64 (gap - 1099511627776))).bind fun x1 =>
 some ((x1.2.1 && (x1.2.2 == 0)) && (decide (x1.1 ≥ a.m)))

noncomputable def Z50 (f : Form) (m : Int) : Option (Bound) :=
 (Z3h 2199023255553 (fun z0 => Z6Q (carry_asked.mk f (iMin (iMax m (-4611686018427387904)) 4611686018427387904)) z0)).bind fun x1 =>
 (bif ((w64 ((iMin x1 2199023255552) - 1099511627776)) == (-1099511627776)) then
  some (Bound.mk (-1) 0)
 else
  some (Bound.mk 0 (w64 ((iMin x1 2199023255552) - 1099511627776))))

noncomputable def safe_Sub (a : Int) (b : Int) : Int × Int :=
 (bif (((decide ((w64 (a - b)) < a)) != (decide (b > 0))) && (b != 0)) then
  (0, 10)
 else
  ((w64 (a - b)), 0))

noncomputable def safe_Minus (a : Bound) : Bound × Int :=
 (bif (!(Z18 a)) then
  ((Bound.mk 0 0), 2)
 else
  (bif (((safe_Sub 0 a.N).2) != 0) then
   ((Bound.mk 0 0), (safe_Sub 0 a.N).2)
  else
   ((Bound.mk (IntKind.i8.wrap (0 - a.Inf)) ((safe_Sub 0 a.N).1)), 0)))

noncomputable def Z5a (f : Form) (n : Int) : Option (Bound) :=
 (Z50 f (w64 (0 - (iMax n (-4611686018427387904))))).bind fun x1 =>
 some ((safe_Minus x1).1)

noncomputable def safe_Less (a : Bound) (b : Bound) : Bool :=
 (bif ((!(Z18 a)) || (!(Z18 b))) then
  false
 else
  (bif (a.Inf != b.Inf) then
   (decide (a.Inf < b.Inf))
  else
   (decide (a.N < b.N))))

noncomputable def Z3F.s0 (x2 : Bound) (x3 : Bound) (x4 : Bound) (x5 : Bound) (s1 : Int) : Option ((Int) ⊕ (Jx (Unit) (Bool))) :=
 (bif (decide (s1 < ([x2, x3, x4, x5].length : Int))) then
  (at? [x2, x3, x4, x5] s1).bind fun x6 =>
  (bif (((!(Z18 x6)) || (decide (x6.N > 1099511627776))) || (decide (x6.N < (-1099511627776)))) then
   some (.inr (.ret false))
  else
   some (.inl (w64 (s1 + 1))))
 else
  some (.inr (.go ())))

noncomputable def Z3F (f : Form) (m : Int) (n : Int) (low : Int) (high : Int) (wide : Int) : Option (Bool) :=
 (Z57 f).bind fun x1 =>
 (bif (!x1) then
  some Z0q
 else
  (Z50 f (iMin m n)).bind fun x2 =>
  (Z50 f (iMax m n)).bind fun x3 =>
  (Z5a f (iMin m n)).bind fun x4 =>
  (Z5a f (iMax m n)).bind fun x5 =>
  (ZJ (Z3F.s0 x2 x3 x4 x5) 0).bind fun (y1 : Jx (Unit) (Bool)) =>
  y1.elim (fun r' =>
    some r') fun a2 =>
  (bif ((((safe_Less x3 x2) || (safe_Less x5 x4)) || (x2.Inf == 1)) || (x4.Inf == (-1))) then
   some false
  else
   (Z4a f (Bound.mk 0 (low.tmod 4398046511104)) (Bound.mk 0 (high.tmod 4398046511104))).bind fun x7 =>
   (Z4a f (Bound.mk 0 (w64 ((low.tmod 4398046511104) - (iAnd .i64 wide 65535)))) (Bound.mk 0 (w64 ((high.tmod 4398046511104) + (iAnd .i64 wide 65535))))).bind fun x8 =>
   (bif (((((x7.2.2 != 0) || (x8.2.2 != 0)) || ((!x7.1.HasLow) && (x7.1.Low != 0))) || ((!x7.1.HasHigh) && (x7.1.High != 0))) || ((!x7.2.1) && (!((x7.1.Low == 0) && ((x7.1.High == 0) && ((x7.1.HasLow == false) && ((x7.1.HasHigh == false) && true))))))) then
    some false
   else
    (bif (((x7.2.1 && (!x8.2.1)) && (decide ((high.tmod 4398046511104) ≥ (-1099511627776)))) && (decide ((low.tmod 4398046511104) ≤ 1099511627776))) then
     some false
    else
     (bif ((x7.2.1 && x8.2.1) && ((x8.1.HasLow && ((!x7.1.HasLow) || (decide (x8.1.Low > x7.1.Low)))) || (x8.1.HasHigh && ((!x7.1.HasHigh) || (decide (x8.1.High < x7.1.High)))))) then
      some false
     else
      some Z0q)))))

noncomputable def ZW.s0 (f : Form) (s1 : Int) : Option ((Int) ⊕ (Jx (Unit) (Bool))) :=
 (bif (decide (s1 < (f.Core.length : Int))) then
  (at? f.Core s1).bind fun x3 =>
  (Z16 x3).bind fun x4 =>
  (bif (x4.2 && ((decide (x4.1.From < (-100))) || (decide (x4.1.To > 100)))) then
   some (.inr (.ret false))
  else
   some (.inl (w64 (s1 + 1))))
 else
  some (.inr (.go ())))

noncomputable def ZW.s1 (f : Form) (s2 : Int) : Option ((Int) ⊕ (Jx (Unit) (Bool))) :=
 (bif (decide (s2 < (f.Odd.length : Int))) then
  (at? f.Odd s2).bind fun x5 =>
  (bif ((decide (x5.Index < (-100))) || (decide (x5.Index > 100))) then
   some (.inr (.ret false))
  else
   some (.inl (w64 (s2 + 1))))
 else
  some (.inr (.go ())))

noncomputable def ZW (f : Form) : Option (Bool) :=
 (Z0e f).bind fun x1 =>
 (
  (bif (!x1) then
   some true
  else
   (Zx f).bind fun x2 =>
   some (x2 != 0))).bind fun (y1 : Bool) =>
 (bif (y1 || (decide (f.Period > 200))) then
  some false
 else
  (ZJ (ZW.s0 f) 0).bind fun (y2 : Jx (Unit) (Bool)) =>
  y2.elim (fun r' =>
    some r') fun a2 =>
  (ZJ (ZW.s1 f) 0).bind fun (y3 : Jx (Unit) (Bool)) =>
  y3.elim (fun r' =>
    some r') fun a4 =>
  some true)

noncomputable def Z4Q.s0 (f : Form) (i : Int) (s1 : Int) : Option ((Int) ⊕ (Jx (Unit) ((List Span) × Int))) :=
 (bif (decide (s1 < (f.Odd.length : Int))) then
  (at? f.Odd s1).bind fun x1 =>
  (bif (x1.Index == i) then
   (at? f.Odd s1).bind fun x2 =>
   some (.inr (.ret (x2.Ticks, 0)))
  else
   some (.inl (w64 (s1 + 1))))
 else
  some (.inr (.go ())))

noncomputable def Z4Q (f : Form) (i : Int) : Option ((List Span) × Int) :=
 (ZJ (Z4Q.s0 f i) 0).bind fun (y1 : Jx (Unit) ((List Span) × Int)) =>
 y1.elim (fun r' =>
   some r') fun a2 =>
 (bif (f.Count == 0) then
  some ([], 0)
 else
  (Z5d i f.Count).bind fun x3 =>
  (at? f.Core x3.2).bind fun x4 =>
  some (x4, x3.1))

noncomputable def Z3u.s0 (l : (List Span)) (by' : Int) (s2 : Int × (List Span)) : Option ((Int × (List Span)) ⊕ (Jx ((List Span)) ((List Span) × Int))) :=
 (bif (decide (s2.1 < (l.length : Int))) then
  (at? l s2.1).bind fun x1 =>
  (
   (bif (decide (by' > (w64 (1099511627776 - x1.To)))) then
    some true
   else
    (at? l s2.1).bind fun x2 =>
    some (decide (by' < (w64 ((-1099511627776) - x2.From)))))).bind fun (y2 : Bool) =>
  (bif y2 then
   some (.inr (.ret ([], 20)))
  else
   (at? l s2.1).bind fun x3 =>
   (at? l s2.1).bind fun x4 =>
   (app? 16 s2.2 [(Span.mk (w64 (x3.From + by')) (w64 (x4.To + by')))]).bind fun x5 =>
   some (.inl ((w64 (s2.1 + 1)), x5)))
 else
  some (.inr (.go s2.2)))

noncomputable def Z3u (l : (List Span)) (by' : Int) : Option ((List Span) × Int) :=
 (ZJ (Z3u.s0 l by') (0, [])).bind fun (y1 : Jx ((List Span)) ((List Span) × Int)) =>
 y1.elim (fun r' =>
   some r') fun a2 =>
 some (a2, 0)

noncomputable def Z67 (f : Form) (i : Int) : Option ((List Span) × Int) :=
 (bif ((decide (i < (-1099511627776))) || (decide (i > 1099511627776))) then
  some ([], 20)
 else
  (Z4Q f i).bind fun x1 =>
  (bif (((x1.1.length : Int) == 0) || (x1.2 == 0)) then
   (app? 16 [] x1.1).bind fun x2 =>
   some (x2, 0)
  else
   (nz? f.Period).bind fun u1 =>
   (
    (bif (decide (x1.2 > (w64 ((w64 ((2199023255552 : Int).tdiv f.Period)) + 1)))) then
     some true
    else
     (nz? f.Period).bind fun u2 =>
     some (decide (x1.2 < (w64 ((w64 ((-2199023255552).tdiv f.Period)) - 1)))))).bind fun (y1 : Bool) =>
   (bif y1 then
    some ([], 20)
   else
    (Z3u x1.1 (w64 (x1.2 * f.Period))).bind fun x3 =>
    some (x3.1, x3.2))))

noncomputable def Z36.s0 (f : Form) (to' : Int) (s1 : Int) : Option ((Int) ⊕ (Jx (Unit) ((List Span) × Bool))) :=
 (bif (decide (s1 ≤ to')) then
  (Z67 f s1).bind fun x1 =>
  (bif ((x1.2 == 0) && (decide ((x1.1.length : Int) > 0))) then
   some (.inr (.ret (x1.1, true)))
  else
   some (.inl (w64 (s1 + 1))))
 else
  some (.inr (.go ())))

noncomputable def Z36 (f : Form) (i : Int) (to' : Int) : Option ((List Span) × Bool) :=
 (ZJ (Z36.s0 f to') i).bind fun (y1 : Jx (Unit) ((List Span) × Bool)) =>
 y1.elim (fun r' =>
   some r') fun a2 =>
 some ([], false)

noncomputable def Z4R.s0 (f : Form) (m : Int) (s1 : Int × Bool × Int) : Option ((Int × Bool × Int) ⊕ (Int × Bool)) :=
 (bif (decide (s1.2.2 ≤ 600)) then
  (
   (
    (Z67 f s1.2.2).bind fun x1 =>
    (bif ((x1.2 != 0) || ((x1.1.length : Int) == 0)) then
     some (.ret ())
    else
     (Z36 f (w64 (s1.2.2 + m)) (iMax (w64 ((w64 (s1.2.2 + m)) + 30)) 130)).bind fun x2 =>
     (bif (!x2.2) then
      some (.ret ())
     else
      (at? x2.1 0).bind fun x3 =>
      (at? x1.1 (w64 ((x1.1.length : Int) - 1))).bind fun x4 =>
      (bif ((!s1.2.1) || (decide ((w64 (x3.From - x4.To)) < s1.1))) then
       some (.go ((w64 (x3.From - x4.To)), true))
      else
       some (.go (s1.1, s1.2.1)))))).bind fun (y3 : Jx (Int × Bool) (Unit)) =>
   y3.elim (fun a4 =>
     some (s1.1, s1.2.1)) fun a3 =>
   some (a3.1, a3.2)).bind fun (y2 : Int × Bool) =>
  some (.inl (y2.1, y2.2, (w64 (s1.2.2 + 1))))
 else
  some (.inr (s1.1, s1.2.1)))

noncomputable def Z4R (f : Form) (m : Int) : Option (Int × Bool) :=
 (ZJ (Z4R.s0 f m) (0, false, (-600))).bind fun (y1 : Int × Bool) =>
 some (y1.1, y1.2)

noncomputable def Z4J (f : Form) (m : Int) : Option (Bound) :=
 (Z4R f m).bind fun x1 =>
 (bif ((!x1.2) || (decide (x1.1 > 1099511627776))) then
  some (Bound.mk 0 1099511627776)
 else
  (bif (decide (x1.1 ≤ (-1099511627776))) then
   some (Bound.mk (-1) 0)
  else
   some (Bound.mk 0 x1.1)))

noncomputable def Z5g (f : Form) (n : Int) : Option (Bound) :=
 (Z4J f (w64 (0 - n))).bind fun x1 =>
 some (Bound.mk (IntKind.i8.wrap (0 - x1.Inf)) (w64 (0 - x1.N)))

noncomputable def carry_Ticks (f : Form) (r' : Range) : Option (Bound × Bound) :=
 (
  (bif r'.HasLow then
   (Z50 f r'.Low).bind fun x1 =>
   some (x1.Inf, x1.N)
  else
   some ((-1), 0))).bind fun (y1 : Int × Int) =>
 (
  (bif r'.HasHigh then
   (Z5a f r'.High).bind fun x2 =>
   some (x2.Inf, x2.N)
  else
   some (1, 0))).bind fun (y2 : Int × Int) =>
 some ((Bound.mk y1.1 y1.2), (Bound.mk y2.1 y2.2))

noncomputable def epactlaw25_CarryTells (f : Form) (r' : Range) : Option (Bool) :=
 (ZW f).bind fun x1 =>
 (bif (!x1) then
  some Z0q
 else
  (
   (bif r'.HasLow then
    (Z4J f (r'.Low.tmod 200)).bind fun x2 =>
    some (x2.Inf, x2.N)
   else
    some ((-1), 0))).bind fun (y1 : Int × Int) =>
  (
   (bif r'.HasHigh then
    (Z5g f (r'.High.tmod 200)).bind fun x3 =>
    some (x3.Inf, x3.N)
   else
    some (1, 0))).bind fun (y2 : Int × Int) =>
  (carry_Ticks f (Range.mk (r'.Low.tmod 200) (r'.High.tmod 200) r'.HasLow r'.HasHigh)).bind fun x4 =>
  (
   (bif (((x4.1.Inf == y1.1) && ((x4.1.N == y1.2) && true)) && ((x4.2.Inf == y2.1) && ((x4.2.N == y2.2) && true))) then
    (Z50 f (r'.Low.tmod 200)).bind fun x5 =>
    (Z4J f (r'.Low.tmod 200)).bind fun x6 =>
    some ((x5.Inf == x6.Inf) && ((x5.N == x6.N) && true))
   else
    some false)).bind fun (y3 : Bool) =>
  (
   (bif y3 then
    (Z5a f (r'.High.tmod 200)).bind fun x7 =>
    (Z5g f (r'.High.tmod 200)).bind fun x8 =>
    some ((x7.Inf == x8.Inf) && ((x7.N == x8.N) && true))
   else
    some false)).bind fun (y4 : Bool) =>
  some (y4 && Z0q))

noncomputable def ZG : Form :=
 (Form.mk 7 1 [[(Span.mk 0 4)]] [])

noncomputable def find_up : Unit :=
 ()

noncomputable def Z6O (h' : Span) (t : Int) (period : Int) : Option (Int) :=
 (Z15 (w64 (h'.To - t)) period).bind fun x1 =>
 some (w64 (0 - x1.1))

noncomputable def ZA.s0 (f : Form) (t : Int) (s1 : Int × Bool × Int) : Option ((Int × Bool × Int) ⊕ (Int × Bool)) :=
 (bif (decide (s1.2.2 < (f.Core.length : Int))) then
  (
   (
    (at? f.Core s1.2.2).bind fun x1 =>
    (Z16 x1).bind fun x2 =>
    (bif (!x2.2) then
     some (.ret ())
    else
     (Z6O x2.1 t f.Period).bind fun x3 =>
     (bif ((!s1.2.1) || (decide ((w64 ((w64 ((w64 ((w64 (x3 * f.Count)) + s1.2.2)) - s1.1)) * 1)) < 0))) then
      some (.go ((w64 ((w64 (x3 * f.Count)) + s1.2.2)), true))
     else
      some (.go (s1.1, s1.2.1))))).bind fun (y3 : Jx (Int × Bool) (Unit)) =>
   y3.elim (fun a4 =>
     some (s1.1, s1.2.1)) fun a3 =>
   some (a3.1, a3.2)).bind fun (y2 : Int × Bool) =>
  some (.inl (y2.1, y2.2, (w64 (s1.2.2 + 1))))
 else
  some (.inr (s1.1, s1.2.1)))

noncomputable def ZA (f : Form) (t : Int) : Option (Int × Bool) :=
 (ZJ (ZA.s0 f t) (0, false, 0)).bind fun (y1 : Int × Bool) =>
 some (y1.1, y1.2)

noncomputable def Z3.s0 (f : Form) (s1 : Int × (List (Int × Int))) : Option ((Int × (List (Int × Int))) ⊕ ((List (Int × Int)))) :=
 (bif (decide (s1.1 < (f.Odd.length : Int))) then
  (at? f.Odd s1.1).bind fun x2 =>
  some (.inl ((w64 (s1.1 + 1)), (mput s1.2 x2.Index (w64 ((mget s1.2 x2.Index) + 1)))))
 else
  some (.inr s1.2))

noncomputable def Z3.s1 (f : Form) (y1 : (List (Int × Int))) (s2 : Int × Bool × Int) : Option ((Int × Bool × Int) ⊕ (Jx (Unit) (Int × Bool))) :=
 (bif (s2.2.1 && (decide (s2.2.2 < 2))) then
  (
   (
    (Z0H (Form.mk f.Period f.Count f.Core []) s2.1).bind fun x4 =>
    (bif (x4.2 != 0) then
     some (.go (w64 (s2.2.2 + 1)))
    else
     (bif ((mget y1 s2.1) == 0) then
      some (.ret (s2.1, true))
     else
      some (.go s2.2.2)))).bind fun (y4 : Jx (Int) (Int × Bool)) =>
   y4.elim (fun r' =>
     some (.ret r')) fun a4 =>
   some (.go a4)).bind fun (y3 : Jx (Int) (Int × Bool)) =>
  y3.elim (fun r' =>
    some (.inr (.ret r'))) fun a5 =>
  (Z0v (Form.mk f.Period f.Count f.Core []) s2.1).bind fun x5 =>
  some (.inl (x5.1, x5.2, a5))
 else
  some (.inr (.go ())))

noncomputable def Z3 (f : Form) (t : Int) : Option (Int × Bool) :=
 (ZA f t).bind fun x1 =>
 (bif (!x1.2) then
  some (0, false)
 else
  (ZJ (Z3.s0 f) (0, [])).bind fun (y1 : (List (Int × Int))) =>
  (Z0v (Form.mk f.Period f.Count f.Core []) (w64 (x1.1 - 1))).bind fun x3 =>
  (ZJ (Z3.s1 f y1) (x3.1, x3.2, 0)).bind fun (y2 : Jx (Unit) (Int × Bool)) =>
  y2.elim (fun r' =>
    some r') fun a6 =>
  some (0, false))

noncomputable def Z22 (h' : Span) (t : Int) : Bool :=
 (decide (h'.To ≥ t))

noncomputable def Z8.s0 (f : Form) (t : Int) (s1 : Int × Bool × Int) : Option ((Int × Bool × Int) ⊕ (Int × Bool)) :=
 (bif (decide (s1.2.2 < (f.Odd.length : Int))) then
  (
   (
    (at? f.Odd s1.2.2).bind fun x2 =>
    (Z16 x2.Ticks).bind fun x3 =>
    (bif ((x3.2 && (Z22 x3.1 (iMax (iMin t 1099511627777) (-1099511627777)))) && ((!s1.2.1) || (decide ((w64 ((w64 (x2.Index - s1.1)) * 1)) < 0)))) then
     some (x2.Index, true)
    else
     some (s1.1, s1.2.1))).bind fun (y3 : Int × Bool) =>
   some (y3.1, y3.2)).bind fun (y2 : Int × Bool) =>
  some (.inl (y2.1, y2.2, (w64 (s1.2.2 + 1))))
 else
  some (.inr (s1.1, s1.2.1)))

noncomputable def Z8 (f : Form) (t : Int) : Option (Int × Bool) :=
 (Z3 f (iMax (iMin t 1099511627777) (-1099511627777))).bind fun x1 =>
 (ZJ (Z8.s0 f t) (x1.1, x1.2, 0)).bind fun (y1 : Int × Bool) =>
 some (y1.1, y1.2)

noncomputable def Z45 (f : Form) (t : Int) : Option (Int × Bool) :=
 (Z8 f t).bind fun x1 =>
 some (x1.1, x1.2)

noncomputable def Z9.s0 (x' : (List Span)) (target : Int) (cmp : Span → Int → Option Int) (s1 : Int × Int) : Option ((Int × Int) ⊕ (Int)) :=
 (bif (decide (s1.1 < s1.2)) then
  (
   (at? x' (w64 ((IntKind.u64.wrap (w64 (s1.1 + s1.2))).fdiv (2 ^ 1)))).bind fun x1 =>
   (cmp x1 target).bind fun x2 =>
   (bif (decide (x2 < 0)) then
    some ((w64 ((w64 ((IntKind.u64.wrap (w64 (s1.1 + s1.2))).fdiv (2 ^ 1))) + 1)), s1.2)
   else
    some (s1.1, (w64 ((IntKind.u64.wrap (w64 (s1.1 + s1.2))).fdiv (2 ^ 1)))))).bind fun (y2 : Int × Int) =>
  some (.inl (y2.1, y2.2))
 else
  some (.inr s1.1))

noncomputable def Z9 (x' : (List Span)) (target : Int) (cmp : Span → Int → Option Int) : Option (Int × Bool) :=
 (ZJ (Z9.s0 x' target cmp) (0, (x'.length : Int))).bind fun (y1 : Int) =>
 (
  (bif (decide (y1 < (x'.length : Int))) then
   (at? x' y1).bind fun x3 =>
   (cmp x3 target).bind fun x4 =>
   some (x4 == 0)
  else
   some false)).bind fun (y3 : Bool) =>
 some (y1, y3)

noncomputable def Z2E (s : Span) (t : Int) : Int :=
 (bif (decide (s.To < t)) then
  (-1)
 else
  (bif (decide (s.From > t)) then
   1
  else
   0))

noncomputable def Z3O (l : (List Span)) (t : Int) : Option (Bool) :=
 (Z9 l t (fun z0 z1 => some (Z2E z0 z1))).bind fun x1 =>
 some (x1.2 && (decide (x1.1 < (l.length : Int))))

noncomputable def Z3a (f : Form) (t : Int) : Option (Int × Bool) :=
 (Z45 f t).bind fun x1 =>
 (bif (!x1.2) then
  some (0, false)
 else
  (Z0H f x1.1).bind fun x2 =>
  (Z3O x2.1 t).bind fun x3 =>
  (bif (!x3) then
   some (0, false)
  else
   some (x1.1, true)))

noncomputable def Z0y (f : Form) (a : Int) (b : Int) : Option (Int × Bool) :=
 (Z3a f a).bind fun x1 =>
 (bif (!x1.2) then
  some (0, false)
 else
  (Z3a f b).bind fun x2 =>
  (bif (!x2.2) then
   some (0, false)
  else
   some ((w64 (x2.1 - x1.1)), true)))

noncomputable def ZO.s0 (s : (List Int)) (f : Int → Option Bool) (s1 : Int) : Option ((Int) ⊕ (Jx (Unit) (Int))) :=
 (bif (decide (s1 < (s.length : Int))) then
  (at? s s1).bind fun x1 =>
  (f x1).bind fun x2 =>
  (bif x2 then
   some (.inr (.ret s1))
  else
   some (.inl (w64 (s1 + 1))))
 else
  some (.inr (.go ())))

noncomputable def ZO (s : (List Int)) (f : Int → Option Bool) : Option (Int) :=
 (ZJ (ZO.s0 s f) 0).bind fun (y1 : Jx (Unit) (Int)) =>
 y1.elim (fun r' =>
   some r') fun a2 =>
 some (-1)

noncomputable def Zu (s : (List Int)) (f : Int → Option Bool) : Option (Bool) :=
 (ZO s f).bind fun x1 =>
 some (decide (x1 ≥ 0))

noncomputable def Z56 (t : Int) : Bool :=
 ((decide (t < (-1099511627776))) || (decide (t > 1099511627776)))

noncomputable def Z2U (n : Net) (ticks : (List Int)) : Option (Bool) :=
 (
  (bif ((ticks.length : Int) == n.Vars) then
   (Zu ticks (fun z0 => some (Z56 z0))).bind fun x1 =>
   some (!x1)
  else
   some false)).bind fun (y1 : Bool) =>
 some y1

noncomputable def Z1Y (n : Net) (c : Con) (ticks : (List Int)) : Option (Bool) :=
 (at? n.Forms c.Form).bind fun x1 =>
 (at? ticks c.X).bind fun x2 =>
 (at? ticks c.Y).bind fun x3 =>
 (Z0y x1 x2 x3).bind fun x4 =>
 (
  (
   (
    (bif (!x4.2) then
     some (!x4.2)
    else
     (bif (c.Range.HasLow && (decide (x4.1 < c.Range.Low))) then
      some (c.Range.HasLow && (decide (x4.1 < c.Range.Low)))
     else
      some (c.Range.HasHigh && (decide (x4.1 > c.Range.High)))))).bind fun (y3 : Bool) =>
   (bif y3 then
    some (.ret false)
   else
    some (.go ()))).bind fun (y2 : Jx (Unit) (Bool)) =>
  y2.elim (fun r' =>
    some (.ret r')) fun a3 =>
  some (.go ())).bind fun (y1 : Jx (Unit) (Bool)) =>
 y1.elim (fun r' =>
   some r') fun a4 =>
 some true

noncomputable def Zl.s0 (p1' : Net) (p2' : (List Int)) {S : Type} (yield : S → Int → Option (S × Bool)) (s1 : Int × S) : Option ((Int × S) ⊕ (Jx (S) (S))) :=
 (bif (decide (s1.1 < (p1'.Cons.length : Int))) then
  (at? p1'.Cons s1.1).bind fun x1 =>
  (Z1Y p1' x1 p2').bind fun x2 =>
  (
   (bif (!x2) then
    (yield s1.2 s1.1).bind fun x3 =>
    some ((!x3.2), x3.1)
   else
    some (false, s1.2))).bind fun (y2 : Bool × S) =>
  (bif y2.1 then
   some (.inr (.ret y2.2))
  else
   some (.inl ((w64 (s1.1 + 1)), y2.2)))
 else
  some (.inr (.go s1.2)))

noncomputable def Zl {S : Type} (p1' : Net) (p2' : (List Int)) (yield : S → Int → Option (S × Bool)) (st' : S) : Option (S) :=
 (ZJ (Zl.s0 p1' p2' yield) (0, st')).bind fun (y1 : Jx (S) (S)) =>
 y1.elim (fun r' =>
   some r') fun a2 =>
 some a2

noncomputable def Zy.b0 (s2 : (List Int)) (z2 : Int) : Option (((List Int)) × Nat) :=
 (app? 8 s2 [z2]).bind fun x2 =>
 some (x2, 0)

noncomputable def Zy (n : Net) (ticks : (List Int)) : Option ((List Int) × Int) :=
 (Z2U n ticks).bind fun x1 =>
 (bif (!x1) then
  some ([], 230)
 else
  (Zl n ticks (Z1c Zy.b0) ([], 0)).bind fun (y1 : ((List Int)) × Nat) =>
  some (y1.1, 0))

noncomputable def ZT (i : Int) (many : Int) : Bool :=
 ((decide (i ≥ 0)) && (decide (i < many)))

noncomputable def ZL.s0 (s : (List Form)) (f : Form → Option Bool) (s1 : Int) : Option ((Int) ⊕ (Jx (Unit) (Int))) :=
 (bif (decide (s1 < (s.length : Int))) then
  (at? s s1).bind fun x1 =>
  (f x1).bind fun x2 =>
  (bif x2 then
   some (.inr (.ret s1))
  else
   some (.inl (w64 (s1 + 1))))
 else
  some (.inr (.go ())))

noncomputable def ZL (s : (List Form)) (f : Form → Option Bool) : Option (Int) :=
 (ZJ (ZL.s0 s f) 0).bind fun (y1 : Jx (Unit) (Int)) =>
 y1.elim (fun r' =>
   some r') fun a2 =>
 some (-1)

noncomputable def Zi (s : (List Form)) (f : Form → Option Bool) : Option (Bool) :=
 (ZL s f).bind fun x1 =>
 some (decide (x1 ≥ 0))

noncomputable def Z1i (f : Form) : Option (Bool) :=
 (Zx f).bind fun x1 =>
 some (x1 != 0)

noncomputable def ZN.s0 (s : (List Con)) (f : Con → Option Bool) (s1 : Int) : Option ((Int) ⊕ (Jx (Unit) (Int))) :=
 (bif (decide (s1 < (s.length : Int))) then
  (at? s s1).bind fun x1 =>
  (f x1).bind fun x2 =>
  (bif x2 then
   some (.inr (.ret s1))
  else
   some (.inl (w64 (s1 + 1))))
 else
  some (.inr (.go ())))

noncomputable def ZN (s : (List Con)) (f : Con → Option Bool) : Option (Int) :=
 (ZJ (ZN.s0 s f) 0).bind fun (y1 : Jx (Unit) (Int)) =>
 y1.elim (fun r' =>
   some r') fun a2 =>
 some (-1)

noncomputable def Zs (s : (List Con)) (f : Con → Option Bool) : Option (Bool) :=
 (ZN s f).bind fun x1 =>
 some (decide (x1 ≥ 0))

noncomputable def Z1U (r' : Range) : Bool :=
 ((r'.HasLow || (r'.Low == 0)) && (r'.HasHigh || (r'.High == 0)))

noncomputable def Z21 (n : Net) (c : Con) : Bool :=
 ((((ZT c.X n.Vars) && (ZT c.Y n.Vars)) && (ZT c.Form (n.Forms.length : Int))) && (Z1U c.Range))

noncomputable def Z1h (c : Con) (p1' : Net) : Bool :=
 (!(Z21 p1' c))

noncomputable def Z2p (n : Net) : Option (Int) :=
 (
  (
   (
    (bif (!(ZT n.Vars 25)) then
     some (!(ZT n.Vars 25))
    else
     (bif (decide ((n.Forms.length : Int) > 20)) then
      some (decide ((n.Forms.length : Int) > 20))
     else
      some (decide ((n.Cons.length : Int) > 200))))).bind fun (y3 : Bool) =>
   (bif y3 then
    some (.ret 230)
   else
    (
     (Zi n.Forms (fun z0 => Z1i z0)).bind fun x1 =>
     (bif x1 then
      some x1
     else
      (Zs n.Cons (fun z0 => some (Z1h z0 n))).bind fun x2 =>
      some x2)).bind fun (y4 : Bool) =>
    (bif y4 then
     some (.ret 230)
    else
     some (.go ())))).bind fun (y2 : Jx (Unit) (Int)) =>
  y2.elim (fun r' =>
    some (.ret r')) fun a3 =>
  some (.go ())).bind fun (y1 : Jx (Unit) (Int)) =>
 y1.elim (fun r' =>
   some r') fun a4 =>
 some 0

noncomputable def Z0Y.s0 (n : Net) (s1 : Int) : Option ((Int) ⊕ (Jx (Unit) (Bool))) :=
 (bif (decide (s1 < (n.Forms.length : Int))) then
  (at? n.Forms s1).bind fun x1 =>
  (ZW x1).bind fun x2 =>
  (bif (!x2) then
   some (.inr (.ret false))
  else
   some (.inl (w64 (s1 + 1))))
 else
  some (.inr (.go ())))

noncomputable def Z0Y (n : Net) : Option (Bool) :=
 (bif (((decide ((n.Forms.length : Int) > 4)) || (decide ((n.Cons.length : Int) > 8))) || (decide (n.Vars > 8))) then
  some false
 else
  (ZJ (Z0Y.s0 n) 0).bind fun (y1 : Jx (Unit) (Bool)) =>
  y1.elim (fun r' =>
    some r') fun a2 =>
  (Z2p n).bind fun x3 =>
  some (x3 == 0))

noncomputable def Zo.b0 (s1 : Unit) (z1 : Int) : Option ((Unit) × Nat) :=
 some ((), 1)

noncomputable def Zo (n : Net) (ticks : (List Int)) : Option (Bool) :=
 (Z2U n ticks).bind fun x1 =>
 (bif (!x1) then
  some false
 else
  (Zl n ticks (Z1c Zo.b0) ((), 0)).bind fun (y1 : (Unit) × Nat) =>
  (bif (y1.2 == 0) then
   some true
  else
   some false))

noncomputable def Zh.s0 (a : (List Int)) (b : (List Int)) (s1 : Int) : Option ((Int) ⊕ (Jx (Unit) (Bool))) :=
 (bif (decide (s1 < (a.length : Int))) then
  (at? a s1).bind fun x1 =>
  (at? b s1).bind fun x2 =>
  (bif (x1 != x2) then
   some (.inr (.ret false))
  else
   some (.inl (w64 (s1 + 1))))
 else
  some (.inr (.go ())))

noncomputable def Zh (a : (List Int)) (b : (List Int)) : Option (Bool) :=
 (bif ((a.length : Int) != (b.length : Int)) then
  some false
 else
  (ZJ (Zh.s0 a b) 0).bind fun (y1 : Jx (Unit) (Bool)) =>
  y1.elim (fun r' =>
    some r') fun a2 =>
  some true)

noncomputable def Z1O : Option (Bool) :=
 (Z0y ZG 3 9).bind fun x1 =>
 (Z0y ZG 3 5).bind fun x2 =>
 (Zy (Net.mk 2 [ZG] [(Con.mk 0 1 0 (Range.mk 1 2 true true))]) [3, 4]).bind fun x3 =>
 (Zy (Net.mk 2 [ZG] [(Con.mk 0 1 0 (Range.mk 1 2 true true))]) [3, 5]).bind fun x4 =>
 (
  (bif ((x1.2 && (x1.1 == 1)) && (!x2.2)) then
   (Z2p (Net.mk 2 [ZG] [(Con.mk 0 1 0 (Range.mk 1 2 true true))])).bind fun x5 =>
   some (x5 == 0)
  else
   some false)).bind fun (y1 : Bool) =>
 (
  (bif y1 then
   (Zo (Net.mk 2 [ZG] [(Con.mk 0 1 0 (Range.mk 1 2 true true))]) [3, 9]).bind fun x6 =>
   some x6
  else
   some false)).bind fun (y2 : Bool) =>
 (
  (bif (y2 && (x3.2 == 0)) then
   (Zh x3.1 [0]).bind fun x7 =>
   some x7
  else
   some false)).bind fun (y3 : Bool) =>
 (
  (bif (y3 && (x4.2 == 0)) then
   (Zh x4.1 [0]).bind fun x8 =>
   some x8
  else
   some false)).bind fun (y4 : Bool) =>
 some y4

def ZV : Bool := true

noncomputable def ZR.s0 (n : Net) (cut : Int) (s1 : (List Int)) : Option (((List Int)) ⊕ ((List Int))) :=
 (bif (decide ((s1.length : Int) < n.Vars)) then
  (cut? s1 0 (s1.length : Int)).bind fun x4 =>
  (app? 8 x4 [0]).bind fun x5 =>
  some (.inl x5)
 else
  some (.inr s1))

noncomputable def ZR.s1 (n : Net) (cut : Int) (x10 : (List Int) × Int) (s2 : Int × (List Int)) : Option ((Int × (List Int)) ⊕ ((List Int))) :=
 (bif (decide (s2.1 < (x10.1.length : Int))) then
  (at? x10.1 s2.1).bind fun x12 =>
  (app? 8 s2.2 [(w64 (x12 + ((w64 cut).tmod (w64 ((n.Cons.length : Int) + 1)))))]).bind fun x13 =>
  some (.inl ((w64 (s2.1 + 1)), x13))
 else
  some (.inr s2.2))

noncomputable def ZR.s2 (n : Net) (cut : Int) (x23 : (List Int) × Int) (s3 : Int × (List Int)) : Option ((Int × (List Int)) ⊕ ((List Int))) :=
 (bif (decide (s3.1 < (x23.1.length : Int))) then
  (at? x23.1 s3.1).bind fun x25 =>
  (app? 8 s3.2 [(w64 (x25 + ((w64 cut).tmod (w64 ((n.Cons.length : Int) + 1)))))]).bind fun x26 =>
  some (.inl ((w64 (s3.1 + 1)), x26))
 else
  some (.inr s3.2))

noncomputable def ZR (n : Net) (ticks : (List Int)) (cut : Int) : Option (Bool) :=
 (Z0Y n).bind fun x1 =>
 (bif (!x1) then
  some ZV
 else
  (bif (decide ((ticks.length : Int) < n.Vars)) then
   (cut? ticks 0 (ticks.length : Int)).bind fun x2 =>
   (app? 8 x2 [0]).bind fun x3 =>
   (ZJ (ZR.s0 n cut) x3).bind fun (y1 : (List Int)) =>
   (cut? y1 0 n.Vars).bind fun x6 =>
   (nz? (w64 ((n.Cons.length : Int) + 1))).bind fun u1 =>
   (cut? n.Cons 0 ((w64 cut).tmod (w64 ((n.Cons.length : Int) + 1)))).bind fun x7 =>
   (cut? n.Cons ((w64 cut).tmod (w64 ((n.Cons.length : Int) + 1))) (n.Cons.length : Int)).bind fun x8 =>
   (Zy (Net.mk n.Vars n.Forms x7) x6).bind fun x9 =>
   (Zy (Net.mk n.Vars n.Forms x8) x6).bind fun x10 =>
   (Zy n x6).bind fun x11 =>
   (bif ((x9.2 != x10.2) || (x9.2 != x11.2)) then
    some false
   else
    (ZJ (ZR.s1 n cut x10) (0, x9.1)).bind fun (y2 : (List Int)) =>
    (Zh y2 x11.1).bind fun x14 =>
    (
     (bif x14 then
      (Zo n x6).bind fun x15 =>
      some (x15 == ((x9.2 == 0) && ((x11.1.length : Int) == 0)))
     else
      some false)).bind fun (y3 : Bool) =>
    (
     (bif y3 then
      (Zo n x6).bind fun x16 =>
      (Zo (Net.mk n.Vars n.Forms x7) x6).bind fun x17 =>
      (
       (bif x17 then
        (Zo (Net.mk n.Vars n.Forms x8) x6).bind fun x18 =>
        some x18
       else
        some false)).bind fun (y5 : Bool) =>
      some (x16 == y5)
     else
      some false)).bind fun (y4 : Bool) =>
    some (y4 && ZV))
  else
   (cut? ticks 0 n.Vars).bind fun x19 =>
   (nz? (w64 ((n.Cons.length : Int) + 1))).bind fun u2 =>
   (cut? n.Cons 0 ((w64 cut).tmod (w64 ((n.Cons.length : Int) + 1)))).bind fun x20 =>
   (cut? n.Cons ((w64 cut).tmod (w64 ((n.Cons.length : Int) + 1))) (n.Cons.length : Int)).bind fun x21 =>
   (Zy (Net.mk n.Vars n.Forms x20) x19).bind fun x22 =>
   (Zy (Net.mk n.Vars n.Forms x21) x19).bind fun x23 =>
   (Zy n x19).bind fun x24 =>
   (bif ((x22.2 != x23.2) || (x22.2 != x24.2)) then
    some false
   else
    (ZJ (ZR.s2 n cut x23) (0, x22.1)).bind fun (y6 : (List Int)) =>
    (Zh y6 x24.1).bind fun x27 =>
    (
     (bif x27 then
      (Zo n x19).bind fun x28 =>
      some (x28 == ((x22.2 == 0) && ((x24.1.length : Int) == 0)))
     else
      some false)).bind fun (y7 : Bool) =>
    (
     (bif y7 then
      (Zo n x19).bind fun x29 =>
      (Zo (Net.mk n.Vars n.Forms x20) x19).bind fun x30 =>
      (
       (bif x30 then
        (Zo (Net.mk n.Vars n.Forms x21) x19).bind fun x31 =>
        some x31
       else
        some false)).bind fun (y9 : Bool) =>
      some (x29 == y9)
     else
      some false)).bind fun (y8 : Bool) =>
    some (y8 && ZV))))

end Go.Dn

namespace Go.Dn
open Go

def Le {α : Type} (a b : Option α) : Prop := ∀ r, a = some r → b = some r
theorem Le.refl {α : Type} (a : Option α) : Le a a := fun _ h => h
theorem Le.bind {α β : Type} {a b : Option α} {f g : α → Option β} (h : Le a b) (hf : ∀ x, Le (f x) (g x)) : Le (a.bind f) (b.bind g) := fun r hr => by
 cases ha : a with
 | none => rw [ha] at hr; cases hr
 | some x => rw [ha] at hr; rw [h x ha]; exact hf x r hr
theorem Le.cond {α : Type} {c : Bool} {a b a' b' : Option α} (h : Le a a') (h' : Le b b') : Le (bif c then a else b) (bif c then a' else b') := by
 cases c
 ·exact h'
 ·exact h
theorem Le.elim {A B C : Type} {y : Jx A B} {f f' : B → Option C} {g g' : A → Option C} (h : ∀ r, Le (f r) (f' r)) (h' : ∀ a, Le (g a) (g' a)) : Le (y.elim f g) (y.elim f' g') := by
 cases y
 ·exact h' _
 ·exact h _
theorem Le.Z1c {S T : Type} {f g : S → T → Option (S × Nat)} (h : ∀ s t, Le (f s t) (g s t)) (s : S × Nat) (t : T) : Le (Z1c f s t) (Z1c g s t) := fun r hr => by
 unfold Go.Dn.Z1c at hr ⊢
 split at hr
 ·rename_i h0
  rw [if_pos h0]
  cases ha : f s.1 t with
  | none => rw [ha] at hr; cases hr
  | some x => rw [ha] at hr; rw [h _ _ x ha]; exact hr
 ·cases hr
def Z26 {S R : Type} (step : S → Option (S ⊕ R)) (s : S) : Option R := Z3D step 1000000 s
theorem iterO_le {S R : Type} {step step' : S → Option (S ⊕ R)} (h : ∀ s, Le (step s) (step' s)) : ∀ (n : Nat) (s : S), Le (Z3D step n s) (Z3D step' n s)
 | 0, s => fun r hr => by cases hr
 | n + 1, s => fun r hr => by
  simp only [Z3D] at hr ⊢
  cases hs : step s with
  | none => rw [hs] at hr; cases hr
  | some x =>
   rw [hs] at hr
   rw [h s x hs]
   cases x with
   | inl s' => exact iterO_le h n s' r hr
   | inr r' => exact hr
theorem Le.loop {S R : Type} {step step' : S → Option (S ⊕ R)} {s : S} (h : ∀ s, Le (step s) (step' s)) : Le (Z26 step s) (ZJ step' s) := fun r hr => Zc.2 ⟨1000000, iterO_le h _ s r hr⟩

noncomputable def Z5F (f : Form) : Option (Int) :=
 (Z26 (Z05.s0 f) (0, 0)).bind fun (y1 : Int) =>
 (Z26 (Z05.s1 f) (y1, 0)).bind fun (y2 : Int) =>
 some y2

theorem Z90 {f : Form} : Le (Z5F f) (Z05 f) := by
 unfold Z5F Z05
 repeat' (with_reducible (first | exact Le.refl _ | refine Le.bind ?_ ?_ | refine Le.loop ?_ | intro _))

noncomputable def Z3A (l : (List Span)) : Option (Bool) :=
 (Z26 (Z07.s0 l) 0).bind fun (y1 : Jx (Unit) (Bool)) =>
 y1.elim (fun r' =>
   some r') fun a2 =>
 some true

theorem Z4z {l : (List Span)} : Le (Z3A l) (Z07 l) := by
 unfold Z3A Z07
 repeat' (with_reducible (first | exact Le.refl _ | refine Le.bind ?_ ?_ | refine Le.elim ?_ ?_ | refine Le.loop ?_ | intro _))

noncomputable def Z0Z.s0 (f : Form) (s1 : Int) : Option ((Int) ⊕ (Jx (Unit) (Bool))) :=
 (bif (decide (s1 < (f.Core.length : Int))) then
  (at? f.Core s1).bind fun x1 =>
  (Z3A x1).bind fun x2 =>
  (bif (!x2) then
   some (.inr (.ret false))
  else
   some (.inl (w64 (s1 + 1))))
 else
  some (.inr (.go ())))

theorem Z79 {f : Form} {s1 : Int} : Le (Z0Z.s0 f s1) (Zj.s0 f s1) := by
 unfold Z0Z.s0 Zj.s0
 repeat' (with_reducible (first | exact Le.refl _ | refine Le.bind ?_ ?_ | refine Le.cond ?_ ?_ | refine Z4z | intro _))

noncomputable def Z0Z.s1 (f : Form) (s2 : Int) : Option ((Int) ⊕ (Jx (Unit) (Bool))) :=
 (bif (decide (s2 < (f.Odd.length : Int))) then
  (at? f.Odd s2).bind fun x3 =>
  (Z3A x3.Ticks).bind fun x4 =>
  (
   (bif ((!x4) || (!(Zp x3.Index))) then
    some true
   else
    (
     (bif (decide (s2 > 0)) then
      (at? f.Odd (w64 (s2 - 1))).bind fun x5 =>
      some (decide (x3.Index ≤ x5.Index))
     else
      some false)).bind fun (y4 : Bool) =>
    some y4)).bind fun (y3 : Bool) =>
  (bif y3 then
   some (.inr (.ret false))
  else
   some (.inl (w64 (s2 + 1))))
 else
  some (.inr (.go ())))

theorem Z6z {f : Form} {s2 : Int} : Le (Z0Z.s1 f s2) (Zj.s1 f s2) := by
 unfold Z0Z.s1 Zj.s1
 repeat' (with_reducible (first | exact Le.refl _ | refine Le.bind ?_ ?_ | refine Le.cond ?_ ?_ | refine Z4z | intro _))

noncomputable def Z0Z (f : Form) : Option (Bool) :=
 (bif ((((f.Count != (f.Core.length : Int)) || ((f.Count == 0) != (f.Period == 0))) || (decide (f.Period < 0))) || (decide (f.Period > 1099511627776))) then
  some false
 else
  (Z26 (Z0Z.s0 f) 0).bind fun (y1 : Jx (Unit) (Bool)) =>
  y1.elim (fun r' =>
    some r') fun a2 =>
  (Z26 (Z0Z.s1 f) 0).bind fun (y2 : Jx (Unit) (Bool)) =>
  y2.elim (fun r' =>
    some r') fun a4 =>
  some true)

theorem Z8e {f : Form} : Le (Z0Z f) (Zj f) := by
 unfold Z0Z Zj
 repeat' (with_reducible (first | exact Le.refl _ | refine Le.bind ?_ ?_ | refine Le.cond ?_ ?_ | refine Le.elim ?_ ?_ | refine Le.loop ?_ | refine Z79 | refine Z6z | intro _))

noncomputable def Z4w (f : Form) : Option (Bool) :=
 (Z26 (Z0A.s0 f) (0, [])).bind fun (y1 : (List (List Span))) =>
 (Z26 (Z0A.s1 f y1) 0).bind fun (y4 : Jx (Unit) (Bool)) =>
 y4.elim (fun r' =>
   some r') fun a6 =>
 some true

theorem Z8h {f : Form} : Le (Z4w f) (Z0A f) := by
 unfold Z4w Z0A
 repeat' (with_reducible (first | exact Le.refl _ | refine Le.bind ?_ ?_ | refine Le.elim ?_ ?_ | refine Le.loop ?_ | intro _))

noncomputable def ZM.s0 (x' : (List Granule)) (target : Int) (cmp : Granule → Int → Option Int) (s1 : Int × Int) : Option ((Int × Int) ⊕ (Int)) :=
 (bif (decide (s1.1 < s1.2)) then
  (
   (at? x' (w64 ((IntKind.u64.wrap (w64 (s1.1 + s1.2))).fdiv (2 ^ 1)))).bind fun x1 =>
   (cmp x1 target).bind fun x2 =>
   (bif (decide (x2 < 0)) then
    some ((w64 ((w64 ((IntKind.u64.wrap (w64 (s1.1 + s1.2))).fdiv (2 ^ 1))) + 1)), s1.2)
   else
    some (s1.1, (w64 ((IntKind.u64.wrap (w64 (s1.1 + s1.2))).fdiv (2 ^ 1)))))).bind fun (y2 : Int × Int) =>
  some (.inl (y2.1, y2.2))
 else
  some (.inr s1.1))

theorem Z11 {x' : (List Granule)} {target : Int} {cmp cmp_ : Granule → Int → Option Int} {s1 : Int × Int} (h_cmp : ∀ z0 z1, Le (cmp z0 z1) (cmp_ z0 z1)) : Le (ZM.s0 x' target cmp s1) (Z5.s0 x' target cmp_ s1) := by
 unfold ZM.s0 Z5.s0
 repeat' (with_reducible (first | exact Le.refl _ | exact h_cmp _ _ | exact h_cmp | refine Le.bind ?_ ?_ | refine Le.cond ?_ ?_ | intro _))

noncomputable def ZM (x' : (List Granule)) (target : Int) (cmp : Granule → Int → Option Int) : Option (Int × Bool) :=
 (Z26 (ZM.s0 x' target cmp) (0, (x'.length : Int))).bind fun (y1 : Int) =>
 (
  (bif (decide (y1 < (x'.length : Int))) then
   (at? x' y1).bind fun x3 =>
   (cmp x3 target).bind fun x4 =>
   some (x4 == 0)
  else
   some false)).bind fun (y3 : Bool) =>
 some (y1, y3)

theorem Z1C {x' : (List Granule)} {target : Int} {cmp cmp_ : Granule → Int → Option Int} (h_cmp : ∀ z0 z1, Le (cmp z0 z1) (cmp_ z0 z1)) : Le (ZM x' target cmp) (Z5 x' target cmp_) := by
 unfold ZM Z5
 repeat' (with_reducible (first | exact Le.refl _ | exact h_cmp _ _ | exact h_cmp | refine Le.bind ?_ ?_ | refine Le.cond ?_ ?_ | refine Le.loop ?_ | refine Z11 ?_ | intro _))

noncomputable def Z4c (f : Form) (i : Int) : Option (Int × Bool) :=
 (ZM f.Odd i (fun z0 z1 => some (Z2m z0 z1))).bind fun x1 =>
 some (x1.1, x1.2)

theorem Z6d {f : Form} {i : Int} : Le (Z4c f i) (Z3i f i) := by
 unfold Z4c Z3i
 repeat' (with_reducible (first | exact Le.refl _ | refine Le.bind ?_ ?_ | refine Z1C ?_ | intro _))

noncomputable def Z3z (f : Form) (i : Int) : Option ((List Span) × Int × Int) :=
 (Z4c f i).bind fun x1 =>
 (bif x1.2 then
  (at? f.Odd x1.1).bind fun x2 =>
  some (x2.Ticks, 0, 0)
 else
  (bif (f.Count == 0) then
   some ([], 0, 0)
  else
   (Z15 i f.Count).bind fun x3 =>
   (at? f.Core x3.2.1).bind fun x4 =>
   some (x4, (Z0L x3.1 f.Period).1, (Z0L x3.1 f.Period).2)))

theorem Z6B {f : Form} {i : Int} : Le (Z3z f i) (Z20 f i) := by
 unfold Z3z Z20
 repeat' (with_reducible (first | exact Le.refl _ | refine Le.bind ?_ ?_ | refine Le.cond ?_ ?_ | refine Z6d | intro _))

noncomputable def Z4v (l : (List Span)) (by' : Int) : Option ((List Span) × Int) :=
 (Z26 (Z0F.s0 l by') (0, [])).bind fun (y1 : Jx ((List Span)) ((List Span) × Int)) =>
 y1.elim (fun r' =>
   some r') fun a2 =>
 some (a2, 0)

theorem Z8k {l : (List Span)} {by' : Int} : Le (Z4v l by') (Z0F l by') := by
 unfold Z4v Z0F
 repeat' (with_reducible (first | exact Le.refl _ | refine Le.bind ?_ ?_ | refine Le.elim ?_ ?_ | refine Le.loop ?_ | intro _))

noncomputable def Z2O (f : Form) (i : Int) : Option ((List Span) × Int) :=
 (bif (!(Zp i)) then
  some ([], 20)
 else
  (Z3z f i).bind fun x1 =>
  (bif ((x1.1.length : Int) == 0) then
   some ([], 0)
  else
   (bif (x1.2.2 != 0) then
    some ([], 20)
   else
    (Z4v x1.1 x1.2.1).bind fun x2 =>
    some (x2.1, x2.2))))

theorem Z4n {f : Form} {i : Int} : Le (Z2O f i) (Z0H f i) := by
 unfold Z2O Z0H
 repeat' (with_reducible (first | exact Le.refl _ | refine Le.bind ?_ ?_ | refine Le.cond ?_ ?_ | refine Z6B | refine Z8k | intro _))

noncomputable def Zf.s0 (s : (List (List Span))) (f : (List Span) → Option Bool) (s1 : Int) : Option ((Int) ⊕ (Jx (Unit) (Int))) :=
 (bif (decide (s1 < (s.length : Int))) then
  (at? s s1).bind fun x1 =>
  (f x1).bind fun x2 =>
  (bif x2 then
   some (.inr (.ret s1))
  else
   some (.inl (w64 (s1 + 1))))
 else
  some (.inr (.go ())))

theorem Z2S {s : (List (List Span))} {f f_ : (List Span) → Option Bool} {s1 : Int} (h_f : ∀ z0, Le (f z0) (f_ z0)) : Le (Zf.s0 s f s1) (ZF.s0 s f_ s1) := by
 unfold Zf.s0 ZF.s0
 repeat' (with_reducible (first | exact Le.refl _ | exact h_f _ | exact h_f | refine Le.bind ?_ ?_ | refine Le.cond ?_ ?_ | intro _))

noncomputable def Zf (s : (List (List Span))) (f : (List Span) → Option Bool) : Option (Int) :=
 (Z26 (Zf.s0 s f) 0).bind fun (y1 : Jx (Unit) (Int)) =>
 y1.elim (fun r' =>
   some r') fun a2 =>
 some (-1)

theorem Z2j {s : (List (List Span))} {f f_ : (List Span) → Option Bool} (h_f : ∀ z0, Le (f z0) (f_ z0)) : Le (Zf s f) (ZF s f_) := by
 unfold Zf ZF
 repeat' (with_reducible (first | exact Le.refl _ | exact h_f _ | exact h_f | refine Le.bind ?_ ?_ | refine Le.elim ?_ ?_ | refine Le.loop ?_ | refine Z2S ?_ | intro _))

noncomputable def Z0a (s : (List (List Span))) (f : (List Span) → Option Bool) : Option (Bool) :=
 (Zf s f).bind fun x1 =>
 some (decide (x1 ≥ 0))

theorem Z2R {s : (List (List Span))} {f f_ : (List Span) → Option Bool} (h_f : ∀ z0, Le (f z0) (f_ z0)) : Le (Z0a s f) (Zb s f_) := by
 unfold Z0a Zb
 repeat' (with_reducible (first | exact Le.refl _ | exact h_f _ | exact h_f | refine Le.bind ?_ ?_ | refine Z2j ?_ | intro _))

noncomputable def Z5A (f : Form) : Option (Bool) :=
 (Z0a f.Core (fun z0 => some (Z3o z0))).bind fun x1 =>
 some (!x1)

theorem Z9g {f : Form} : Le (Z5A f) (Z3V f) := by
 unfold Z5A Z3V
 repeat' (with_reducible (first | exact Le.refl _ | refine Le.bind ?_ ?_ | refine Z2R ?_ | intro _))

noncomputable def Z5T (f : Form) (i : Int) : Option (Bool) :=
 (Z3z f i).bind fun x1 =>
 some (decide ((x1.1.length : Int) > 0))

theorem Z92 {f : Form} {i : Int} : Le (Z5T f i) (Z3G f i) := by
 unfold Z5T Z3G
 repeat' (with_reducible (first | exact Le.refl _ | refine Le.bind ?_ ?_ | refine Z6B | intro _))

noncomputable def Z1K.s1 (f : Form) (by' : Int) (s2 : Int) : Option ((Int) ⊕ (Jx (Unit) (Int × Bool))) :=
 (bif (Zp s2) then
  (Z5T f s2).bind fun x5 =>
  (bif x5 then
   some (.inr (.ret (s2, true)))
  else
   some (.inl (w64 (s2 + by'))))
 else
  some (.inr (.go ())))

theorem Z7K {f : Form} {by' : Int} {s2 : Int} : Le (Z1K.s1 f by' s2) (Zz.s1 f by' s2) := by
 unfold Z1K.s1 Zz.s1
 repeat' (with_reducible (first | exact Le.refl _ | refine Le.bind ?_ ?_ | refine Le.cond ?_ ?_ | refine Z92 | intro _))

noncomputable def Z1K (f : Form) (from' : Int) (by' : Int) : Option (Int × Bool) :=
 (Z5A f).bind fun x1 =>
 (bif x1 then
  (Z4c f from').bind fun x2 =>
  (
   (bif ((decide (by' < 0)) && (!x2.2)) then
    some (w64 (x2.1 - 1))
   else
    some x2.1)).bind fun (y1 : Int) =>
  (Z26 (Zz.s0 f by') y1).bind fun (y2 : Jx (Unit) (Int × Bool)) =>
  y2.elim (fun r' =>
    some r') fun a2 =>
  some (0, false)
 else
  (Z26 (Z1K.s1 f by') from').bind fun (y3 : Jx (Unit) (Int × Bool)) =>
  y3.elim (fun r' =>
    some r') fun a4 =>
  some (0, false))

theorem Z5r {f : Form} {from' : Int} {by' : Int} : Le (Z1K f from' by') (Zz f from' by') := by
 unfold Z1K Zz
 repeat' (with_reducible (first | exact Le.refl _ | refine Le.bind ?_ ?_ | refine Le.cond ?_ ?_ | refine Le.elim ?_ ?_ | refine Le.loop ?_ | refine Z9g | refine Z6d | refine Z7K | intro _))

noncomputable def Z4M (f : Form) (i : Int) : Option (Int × Bool) :=
 (bif (decide (i ≤ (-1099511627776))) then
  some (0, false)
 else
  (Z1K f (iMin (w64 (i - 1)) 1099511627776) (-1)).bind fun x1 =>
  some (x1.1, x1.2))

theorem Z89 {f : Form} {i : Int} : Le (Z4M f i) (Z13 f i) := by
 unfold Z4M Z13
 repeat' (with_reducible (first | exact Le.refl _ | refine Le.bind ?_ ?_ | refine Le.cond ?_ ?_ | refine Z5r | intro _))

noncomputable def Z2I (f : Form) (i : Int) : Option (Int × Bool) :=
 (bif (decide (i ≥ 1099511627776)) then
  some (0, false)
 else
  (Z1K f (iMax (w64 (i + 1)) (-1099511627776)) 1).bind fun x1 =>
  some (x1.1, x1.2))

theorem Z3I {f : Form} {i : Int} : Le (Z2I f i) (Z0v f i) := by
 unfold Z2I Z0v
 repeat' (with_reducible (first | exact Le.refl _ | refine Le.bind ?_ ?_ | refine Le.cond ?_ ?_ | refine Z5r | intro _))

noncomputable def Z4K (f : Form) (i : Int) : Option (Bool) :=
 (Z2O f i).bind fun x1 =>
 (bif (x1.2 != 0) then
  some false
 else
  (Z4M f i).bind fun x2 =>
  (Z2I f i).bind fun x3 =>
  (
   (bif x2.2 then
    (Z2O f x2.1).bind fun x4 =>
    (bif (x4.2 != 0) then
     some (.ret false)
    else
     some (.go x4.1))
   else
    some (.go []))).bind fun (y1 : Jx ((List Span)) (Bool)) =>
  y1.elim (fun r' =>
    some r') fun a2 =>
  (
   (bif x3.2 then
    (Z2O f x3.1).bind fun x5 =>
    (bif (x5.2 != 0) then
     some (.ret false)
    else
     some (.go x5.1))
   else
    some (.go []))).bind fun (y2 : Jx ((List Span)) (Bool)) =>
  y2.elim (fun r' =>
    some r') fun a4 =>
  (Z0W a2 x1.1).bind fun x6 =>
  (
   (bif x6 then
    (Z0W x1.1 a4).bind fun x7 =>
    some x7
   else
    some false)).bind fun (y3 : Bool) =>
  (
   (bif y3 then
    (Z0W a2 a4).bind fun x8 =>
    some x8
   else
    some false)).bind fun (y4 : Bool) =>
  some y4)

theorem Z83 {f : Form} {i : Int} : Le (Z4K f i) (Z1N f i) := by
 unfold Z4K Z1N
 repeat' (with_reducible (first | exact Le.refl _ | refine Le.bind ?_ ?_ | refine Le.cond ?_ ?_ | refine Le.elim ?_ ?_ | refine Z4n | refine Z89 | refine Z3I | intro _))

noncomputable def Z1V.s0 (f : Form) (s1 : Int) : Option ((Int) ⊕ (Jx (Unit) (Int))) :=
 (bif (decide (s1 < (f.Odd.length : Int))) then
  (at? f.Odd s1).bind fun x4 =>
  (Z4K f x4.Index).bind fun x5 =>
  (bif (!x5) then
   some (.inr (.ret 50))
  else
   some (.inl (w64 (s1 + 1))))
 else
  some (.inr (.go ())))

theorem Z7A {f : Form} {s1 : Int} : Le (Z1V.s0 f s1) (Zx.s0 f s1) := by
 unfold Z1V.s0 Zx.s0
 repeat' (with_reducible (first | exact Le.refl _ | refine Le.bind ?_ ?_ | refine Le.cond ?_ ?_ | refine Z83 | intro _))

noncomputable def Z1V (f : Form) : Option (Int) :=
 (
  (bif ((decide ((f.Core.length : Int) > 6000)) || (decide ((f.Odd.length : Int) > 6000))) then
   some true
  else
   (Z5F f).bind fun x1 =>
   some (decide (x1 > 60000)))).bind fun (y1 : Bool) =>
 (bif y1 then
  some 3
 else
  (Z0Z f).bind fun x2 =>
  (
   (bif (!x2) then
    some true
   else
    (Z4w f).bind fun x3 =>
    some (!x3))).bind fun (y2 : Bool) =>
  (bif y2 then
   some 50
  else
   (Z26 (Z1V.s0 f) 0).bind fun (y3 : Jx (Unit) (Int)) =>
   y3.elim (fun r' =>
     some r') fun a2 =>
   some 0))

theorem Z8g {f : Form} : Le (Z1V f) (Zx f) := by
 unfold Z1V Zx
 repeat' (with_reducible (first | exact Le.refl _ | refine Le.bind ?_ ?_ | refine Le.cond ?_ ?_ | refine Le.elim ?_ ?_ | refine Le.loop ?_ | refine Z90 | refine Z8e | refine Z8h | refine Z7A | intro _))

noncomputable def Z0M (f : Form) (t : Int) : Option (Int × Bool) :=
 (Z26 (ZA.s0 f t) (0, false, 0)).bind fun (y1 : Int × Bool) =>
 some (y1.1, y1.2)

theorem Z1v {f : Form} {t : Int} : Le (Z0M f t) (ZA f t) := by
 unfold Z0M ZA
 repeat' (with_reducible (first | exact Le.refl _ | refine Le.bind ?_ ?_ | refine Le.loop ?_ | intro _))

noncomputable def ZY.s1 (f : Form) (y1 : (List (Int × Int))) (s2 : Int × Bool × Int) : Option ((Int × Bool × Int) ⊕ (Jx (Unit) (Int × Bool))) :=
 (bif (s2.2.1 && (decide (s2.2.2 < 2))) then
  (
   (
    (Z2O (Form.mk f.Period f.Count f.Core []) s2.1).bind fun x4 =>
    (bif (x4.2 != 0) then
     some (.go (w64 (s2.2.2 + 1)))
    else
     (bif ((mget y1 s2.1) == 0) then
      some (.ret (s2.1, true))
     else
      some (.go s2.2.2)))).bind fun (y4 : Jx (Int) (Int × Bool)) =>
   y4.elim (fun r' =>
     some (.ret r')) fun a4 =>
   some (.go a4)).bind fun (y3 : Jx (Int) (Int × Bool)) =>
  y3.elim (fun r' =>
    some (.inr (.ret r'))) fun a5 =>
  (Z2I (Form.mk f.Period f.Count f.Core []) s2.1).bind fun x5 =>
  some (.inl (x5.1, x5.2, a5))
 else
  some (.inr (.go ())))

theorem Z1b {f : Form} {y1 : (List (Int × Int))} {s2 : Int × Bool × Int} : Le (ZY.s1 f y1 s2) (Z3.s1 f y1 s2) := by
 unfold ZY.s1 Z3.s1
 repeat' (with_reducible (first | exact Le.refl _ | refine Le.bind ?_ ?_ | refine Le.cond ?_ ?_ | refine Le.elim ?_ ?_ | refine Z4n | refine Z3I | intro _))

noncomputable def ZY (f : Form) (t : Int) : Option (Int × Bool) :=
 (Z0M f t).bind fun x1 =>
 (bif (!x1.2) then
  some (0, false)
 else
  (Z26 (Z3.s0 f) (0, [])).bind fun (y1 : (List (Int × Int))) =>
  (Z2I (Form.mk f.Period f.Count f.Core []) (w64 (x1.1 - 1))).bind fun x3 =>
  (Z26 (ZY.s1 f y1) (x3.1, x3.2, 0)).bind fun (y2 : Jx (Unit) (Int × Bool)) =>
  y2.elim (fun r' =>
    some r') fun a6 =>
  some (0, false))

theorem Z1u {f : Form} {t : Int} : Le (ZY f t) (Z3 f t) := by
 unfold ZY Z3
 repeat' (with_reducible (first | exact Le.refl _ | refine Le.bind ?_ ?_ | refine Le.cond ?_ ?_ | refine Le.elim ?_ ?_ | refine Le.loop ?_ | refine Z1v | refine Z3I | refine Z1b | intro _))

noncomputable def Z0J (f : Form) (t : Int) : Option (Int × Bool) :=
 (ZY f (iMax (iMin t 1099511627777) (-1099511627777))).bind fun x1 =>
 (Z26 (Z8.s0 f t) (x1.1, x1.2, 0)).bind fun (y1 : Int × Bool) =>
 some (y1.1, y1.2)

theorem Z1f {f : Form} {t : Int} : Le (Z0J f t) (Z8 f t) := by
 unfold Z0J Z8
 repeat' (with_reducible (first | exact Le.refl _ | refine Le.bind ?_ ?_ | refine Le.loop ?_ | refine Z1u | intro _))

noncomputable def Z5B (f : Form) (t : Int) : Option (Int × Bool) :=
 (Z0J f t).bind fun x1 =>
 some (x1.1, x1.2)

theorem Z9A {f : Form} {t : Int} : Le (Z5B f t) (Z45 f t) := by
 unfold Z5B Z45
 repeat' (with_reducible (first | exact Le.refl _ | refine Le.bind ?_ ?_ | refine Z1f | intro _))

noncomputable def ZU.s0 (x' : (List Span)) (target : Int) (cmp : Span → Int → Option Int) (s1 : Int × Int) : Option ((Int × Int) ⊕ (Int)) :=
 (bif (decide (s1.1 < s1.2)) then
  (
   (at? x' (w64 ((IntKind.u64.wrap (w64 (s1.1 + s1.2))).fdiv (2 ^ 1)))).bind fun x1 =>
   (cmp x1 target).bind fun x2 =>
   (bif (decide (x2 < 0)) then
    some ((w64 ((w64 ((IntKind.u64.wrap (w64 (s1.1 + s1.2))).fdiv (2 ^ 1))) + 1)), s1.2)
   else
    some (s1.1, (w64 ((IntKind.u64.wrap (w64 (s1.1 + s1.2))).fdiv (2 ^ 1)))))).bind fun (y2 : Int × Int) =>
  some (.inl (y2.1, y2.2))
 else
  some (.inr s1.1))

theorem Z1T {x' : (List Span)} {target : Int} {cmp cmp_ : Span → Int → Option Int} {s1 : Int × Int} (h_cmp : ∀ z0 z1, Le (cmp z0 z1) (cmp_ z0 z1)) : Le (ZU.s0 x' target cmp s1) (Z9.s0 x' target cmp_ s1) := by
 unfold ZU.s0 Z9.s0
 repeat' (with_reducible (first | exact Le.refl _ | exact h_cmp _ _ | exact h_cmp | refine Le.bind ?_ ?_ | refine Le.cond ?_ ?_ | intro _))

noncomputable def ZU (x' : (List Span)) (target : Int) (cmp : Span → Int → Option Int) : Option (Int × Bool) :=
 (Z26 (ZU.s0 x' target cmp) (0, (x'.length : Int))).bind fun (y1 : Int) =>
 (
  (bif (decide (y1 < (x'.length : Int))) then
   (at? x' y1).bind fun x3 =>
   (cmp x3 target).bind fun x4 =>
   some (x4 == 0)
  else
   some false)).bind fun (y3 : Bool) =>
 some (y1, y3)

theorem Z1g {x' : (List Span)} {target : Int} {cmp cmp_ : Span → Int → Option Int} (h_cmp : ∀ z0 z1, Le (cmp z0 z1) (cmp_ z0 z1)) : Le (ZU x' target cmp) (Z9 x' target cmp_) := by
 unfold ZU Z9
 repeat' (with_reducible (first | exact Le.refl _ | exact h_cmp _ _ | exact h_cmp | refine Le.bind ?_ ?_ | refine Le.cond ?_ ?_ | refine Le.loop ?_ | refine Z1T ?_ | intro _))

noncomputable def Z5J (l : (List Span)) (t : Int) : Option (Bool) :=
 (ZU l t (fun z0 z1 => some (Z2E z0 z1))).bind fun x1 =>
 some (x1.2 && (decide (x1.1 < (l.length : Int))))

theorem Z9T {l : (List Span)} {t : Int} : Le (Z5J l t) (Z3O l t) := by
 unfold Z5J Z3O
 repeat' (with_reducible (first | exact Le.refl _ | refine Le.bind ?_ ?_ | refine Z1g ?_ | intro _))

noncomputable def Z5X (f : Form) (t : Int) : Option (Int × Bool) :=
 (Z5B f t).bind fun x1 =>
 (bif (!x1.2) then
  some (0, false)
 else
  (Z2O f x1.1).bind fun x2 =>
  (Z5J x2.1 t).bind fun x3 =>
  (bif (!x3) then
   some (0, false)
  else
   some (x1.1, true)))

theorem evle_find_At {f : Form} {t : Int} : Le (Z5X f t) (Z3a f t) := by
 unfold Z5X Z3a
 repeat' (with_reducible (first | exact Le.refl _ | refine Le.bind ?_ ?_ | refine Le.cond ?_ ?_ | refine Z9A | refine Z4n | refine Z9T | intro _))

noncomputable def Z1x (f : Form) (a : Int) (b : Int) : Option (Int × Bool) :=
 (Z5X f a).bind fun x1 =>
 (bif (!x1.2) then
  some (0, false)
 else
  (Z5X f b).bind fun x2 =>
  (bif (!x2.2) then
   some (0, false)
  else
   some ((w64 (x2.1 - x1.1)), true)))

theorem Z4V {f : Form} {a : Int} {b : Int} : Le (Z1x f a b) (Z0y f a b) := by
 unfold Z1x Z0y
 repeat' (with_reducible (first | exact Le.refl _ | refine Le.bind ?_ ?_ | refine Le.cond ?_ ?_ | refine evle_find_At | intro _))

noncomputable def Zt.s0 (s : (List Int)) (f : Int → Option Bool) (s1 : Int) : Option ((Int) ⊕ (Jx (Unit) (Int))) :=
 (bif (decide (s1 < (s.length : Int))) then
  (at? s s1).bind fun x1 =>
  (f x1).bind fun x2 =>
  (bif x2 then
   some (.inr (.ret s1))
  else
   some (.inl (w64 (s1 + 1))))
 else
  some (.inr (.go ())))

theorem Z2v {s : (List Int)} {f f_ : Int → Option Bool} {s1 : Int} (h_f : ∀ z0, Le (f z0) (f_ z0)) : Le (Zt.s0 s f s1) (ZO.s0 s f_ s1) := by
 unfold Zt.s0 ZO.s0
 repeat' (with_reducible (first | exact Le.refl _ | exact h_f _ | exact h_f | refine Le.bind ?_ ?_ | refine Le.cond ?_ ?_ | intro _))

noncomputable def Zt (s : (List Int)) (f : Int → Option Bool) : Option (Int) :=
 (Z26 (Zt.s0 s f) 0).bind fun (y1 : Jx (Unit) (Int)) =>
 y1.elim (fun r' =>
   some r') fun a2 =>
 some (-1)

theorem Z3U {s : (List Int)} {f f_ : Int → Option Bool} (h_f : ∀ z0, Le (f z0) (f_ z0)) : Le (Zt s f) (ZO s f_) := by
 unfold Zt ZO
 repeat' (with_reducible (first | exact Le.refl _ | exact h_f _ | exact h_f | refine Le.bind ?_ ?_ | refine Le.elim ?_ ?_ | refine Le.loop ?_ | refine Z2v ?_ | intro _))

noncomputable def Z0m (s : (List Int)) (f : Int → Option Bool) : Option (Bool) :=
 (Zt s f).bind fun x1 =>
 some (decide (x1 ≥ 0))

theorem Z2u {s : (List Int)} {f f_ : Int → Option Bool} (h_f : ∀ z0, Le (f z0) (f_ z0)) : Le (Z0m s f) (Zu s f_) := by
 unfold Z0m Zu
 repeat' (with_reducible (first | exact Le.refl _ | exact h_f _ | exact h_f | refine Le.bind ?_ ?_ | refine Z3U ?_ | intro _))

noncomputable def Z5E (n : Net) (ticks : (List Int)) : Option (Bool) :=
 (
  (bif ((ticks.length : Int) == n.Vars) then
   (Z0m ticks (fun z0 => some (Z56 z0))).bind fun x1 =>
   some (!x1)
  else
   some false)).bind fun (y1 : Bool) =>
 some y1

theorem Z7L {n : Net} {ticks : (List Int)} : Le (Z5E n ticks) (Z2U n ticks) := by
 unfold Z5E Z2U
 repeat' (with_reducible (first | exact Le.refl _ | refine Le.bind ?_ ?_ | refine Le.cond ?_ ?_ | refine Z2u ?_ | intro _))

noncomputable def Z6x (n : Net) (c : Con) (ticks : (List Int)) : Option (Bool) :=
 (at? n.Forms c.Form).bind fun x1 =>
 (at? ticks c.X).bind fun x2 =>
 (at? ticks c.Y).bind fun x3 =>
 (Z1x x1 x2 x3).bind fun x4 =>
 (
  (
   (
    (bif (!x4.2) then
     some (!x4.2)
    else
     (bif (c.Range.HasLow && (decide (x4.1 < c.Range.Low))) then
      some (c.Range.HasLow && (decide (x4.1 < c.Range.Low)))
     else
      some (c.Range.HasHigh && (decide (x4.1 > c.Range.High)))))).bind fun (y3 : Bool) =>
   (bif y3 then
    some (.ret false)
   else
    some (.go ()))).bind fun (y2 : Jx (Unit) (Bool)) =>
  y2.elim (fun r' =>
    some (.ret r')) fun a3 =>
  some (.go ())).bind fun (y1 : Jx (Unit) (Bool)) =>
 y1.elim (fun r' =>
   some r') fun a4 =>
 some true

theorem evle_tag_met {n : Net} {c : Con} {ticks : (List Int)} : Le (Z6x n c ticks) (Z1Y n c ticks) := by
 unfold Z6x Z1Y
 repeat' (with_reducible (first | exact Le.refl _ | refine Le.bind ?_ ?_ | refine Le.cond ?_ ?_ | refine Le.elim ?_ ?_ | refine Z4V | intro _))

noncomputable def Z0f.s0 (p1' : Net) (p2' : (List Int)) {S : Type} (yield : S → Int → Option (S × Bool)) (s1 : Int × S) : Option ((Int × S) ⊕ (Jx (S) (S))) :=
 (bif (decide (s1.1 < (p1'.Cons.length : Int))) then
  (at? p1'.Cons s1.1).bind fun x1 =>
  (Z6x p1' x1 p2').bind fun x2 =>
  (
   (bif (!x2) then
    (yield s1.2 s1.1).bind fun x3 =>
    some ((!x3.2), x3.1)
   else
    some (false, s1.2))).bind fun (y2 : Bool × S) =>
  (bif y2.1 then
   some (.inr (.ret y2.2))
  else
   some (.inl ((w64 (s1.1 + 1)), y2.2)))
 else
  some (.inr (.go s1.2)))

theorem Z5h {p1' : Net} {p2' : (List Int)} {S : Type} {yield yield_ : S → Int → Option (S × Bool)} {s1 : Int × S} (h_yield : ∀ z0 z1, Le (yield z0 z1) (yield_ z0 z1)) : Le (Z0f.s0 p1' p2' yield s1) (Zl.s0 p1' p2' yield_ s1) := by
 unfold Z0f.s0 Zl.s0
 repeat' (with_reducible (first | exact Le.refl _ | exact h_yield _ _ | exact h_yield | refine Le.bind ?_ ?_ | refine Le.cond ?_ ?_ | refine evle_tag_met | intro _))

noncomputable def Z0f {S : Type} (p1' : Net) (p2' : (List Int)) (yield : S → Int → Option (S × Bool)) (st' : S) : Option (S) :=
 (Z26 (Z0f.s0 p1' p2' yield) (0, st')).bind fun (y1 : Jx (S) (S)) =>
 y1.elim (fun r' =>
   some r') fun a2 =>
 some a2

theorem Z4E {S : Type} {p1' : Net} {p2' : (List Int)} {yield yield_ : S → Int → Option (S × Bool)} {st' : S} (h_yield : ∀ z0 z1, Le (yield z0 z1) (yield_ z0 z1)) : Le (Z0f p1' p2' yield st') (Zl p1' p2' yield_ st') := by
 unfold Z0f Zl
 repeat' (with_reducible (first | exact Le.refl _ | exact h_yield _ _ | exact h_yield | refine Le.bind ?_ ?_ | refine Le.elim ?_ ?_ | refine Le.loop ?_ | refine Z5h ?_ | intro _))

noncomputable def Z41 (n : Net) (ticks : (List Int)) : Option ((List Int) × Int) :=
 (Z5E n ticks).bind fun x1 =>
 (bif (!x1) then
  some ([], 230)
 else
  (Z0f n ticks (Z1c Zy.b0) ([], 0)).bind fun (y1 : ((List Int)) × Nat) =>
  some (y1.1, 0))

theorem Z9L {n : Net} {ticks : (List Int)} : Le (Z41 n ticks) (Zy n ticks) := by
 unfold Z41 Zy
 repeat' (with_reducible (first | exact Le.refl _ | refine Le.bind ?_ ?_ | refine Le.cond ?_ ?_ | refine Le.Z1c ?_ _ _ | refine Z7L | refine Z4E ?_ | intro _))

noncomputable def Zk.s0 (s : (List Form)) (f : Form → Option Bool) (s1 : Int) : Option ((Int) ⊕ (Jx (Unit) (Int))) :=
 (bif (decide (s1 < (s.length : Int))) then
  (at? s s1).bind fun x1 =>
  (f x1).bind fun x2 =>
  (bif x2 then
   some (.inr (.ret s1))
  else
   some (.inl (w64 (s1 + 1))))
 else
  some (.inr (.go ())))

theorem Z2e {s : (List Form)} {f f_ : Form → Option Bool} {s1 : Int} (h_f : ∀ z0, Le (f z0) (f_ z0)) : Le (Zk.s0 s f s1) (ZL.s0 s f_ s1) := by
 unfold Zk.s0 ZL.s0
 repeat' (with_reducible (first | exact Le.refl _ | exact h_f _ | exact h_f | refine Le.bind ?_ ?_ | refine Le.cond ?_ ?_ | intro _))

noncomputable def Zk (s : (List Form)) (f : Form → Option Bool) : Option (Int) :=
 (Z26 (Zk.s0 s f) 0).bind fun (y1 : Jx (Unit) (Int)) =>
 y1.elim (fun r' =>
   some r') fun a2 =>
 some (-1)

theorem Z31 {s : (List Form)} {f f_ : Form → Option Bool} (h_f : ∀ z0, Le (f z0) (f_ z0)) : Le (Zk s f) (ZL s f_) := by
 unfold Zk ZL
 repeat' (with_reducible (first | exact Le.refl _ | exact h_f _ | exact h_f | refine Le.bind ?_ ?_ | refine Le.elim ?_ ?_ | refine Le.loop ?_ | refine Z2e ?_ | intro _))

noncomputable def Z0g (s : (List Form)) (f : Form → Option Bool) : Option (Bool) :=
 (Zk s f).bind fun x1 =>
 some (decide (x1 ≥ 0))

theorem Z2d {s : (List Form)} {f f_ : Form → Option Bool} (h_f : ∀ z0, Le (f z0) (f_ z0)) : Le (Z0g s f) (Zi s f_) := by
 unfold Z0g Zi
 repeat' (with_reducible (first | exact Le.refl _ | exact h_f _ | exact h_f | refine Le.bind ?_ ?_ | refine Z31 ?_ | intro _))

noncomputable def Z4P (f : Form) : Option (Bool) :=
 (Z1V f).bind fun x1 =>
 some (x1 != 0)

theorem Z7n {f : Form} : Le (Z4P f) (Z1i f) := by
 unfold Z4P Z1i
 repeat' (with_reducible (first | exact Le.refl _ | refine Le.bind ?_ ?_ | refine Z8g | intro _))

noncomputable def Zr.s0 (s : (List Con)) (f : Con → Option Bool) (s1 : Int) : Option ((Int) ⊕ (Jx (Unit) (Int))) :=
 (bif (decide (s1 < (s.length : Int))) then
  (at? s s1).bind fun x1 =>
  (f x1).bind fun x2 =>
  (bif x2 then
   some (.inr (.ret s1))
  else
   some (.inl (w64 (s1 + 1))))
 else
  some (.inr (.go ())))

theorem Z2y {s : (List Con)} {f f_ : Con → Option Bool} {s1 : Int} (h_f : ∀ z0, Le (f z0) (f_ z0)) : Le (Zr.s0 s f s1) (ZN.s0 s f_ s1) := by
 unfold Zr.s0 ZN.s0
 repeat' (with_reducible (first | exact Le.refl _ | exact h_f _ | exact h_f | refine Le.bind ?_ ?_ | refine Le.cond ?_ ?_ | intro _))

noncomputable def Zr (s : (List Con)) (f : Con → Option Bool) : Option (Int) :=
 (Z26 (Zr.s0 s f) 0).bind fun (y1 : Jx (Unit) (Int)) =>
 y1.elim (fun r' =>
   some r') fun a2 =>
 some (-1)

theorem Z3Q {s : (List Con)} {f f_ : Con → Option Bool} (h_f : ∀ z0, Le (f z0) (f_ z0)) : Le (Zr s f) (ZN s f_) := by
 unfold Zr ZN
 repeat' (with_reducible (first | exact Le.refl _ | exact h_f _ | exact h_f | refine Le.bind ?_ ?_ | refine Le.elim ?_ ?_ | refine Le.loop ?_ | refine Z2y ?_ | intro _))

noncomputable def Z0n (s : (List Con)) (f : Con → Option Bool) : Option (Bool) :=
 (Zr s f).bind fun x1 =>
 some (decide (x1 ≥ 0))

theorem Z2x {s : (List Con)} {f f_ : Con → Option Bool} (h_f : ∀ z0, Le (f z0) (f_ z0)) : Le (Z0n s f) (Zs s f_) := by
 unfold Z0n Zs
 repeat' (with_reducible (first | exact Le.refl _ | exact h_f _ | exact h_f | refine Le.bind ?_ ?_ | refine Z3Q ?_ | intro _))

noncomputable def Z5Y (n : Net) : Option (Int) :=
 (
  (
   (
    (bif (!(ZT n.Vars 25)) then
     some (!(ZT n.Vars 25))
    else
     (bif (decide ((n.Forms.length : Int) > 20)) then
      some (decide ((n.Forms.length : Int) > 20))
     else
      some (decide ((n.Cons.length : Int) > 200))))).bind fun (y3 : Bool) =>
   (bif y3 then
    some (.ret 230)
   else
    (
     (Z0g n.Forms (fun z0 => Z4P z0)).bind fun x1 =>
     (bif x1 then
      some x1
     else
      (Z0n n.Cons (fun z0 => some (Z1h z0 n))).bind fun x2 =>
      some x2)).bind fun (y4 : Bool) =>
    (bif y4 then
     some (.ret 230)
    else
     some (.go ())))).bind fun (y2 : Jx (Unit) (Int)) =>
  y2.elim (fun r' =>
    some (.ret r')) fun a3 =>
  some (.go ())).bind fun (y1 : Jx (Unit) (Int)) =>
 y1.elim (fun r' =>
   some r') fun a4 =>
 some 0

theorem Z9d {n : Net} : Le (Z5Y n) (Z2p n) := by
 unfold Z5Y Z2p
 repeat' (with_reducible (first | exact Le.refl _ | refine Le.bind ?_ ?_ | refine Le.cond ?_ ?_ | refine Le.elim ?_ ?_ | refine Z2d ?_ | refine Z7n | refine Z2x ?_ | intro _))

noncomputable def Z5W (n : Net) (ticks : (List Int)) : Option (Bool) :=
 (Z5E n ticks).bind fun x1 =>
 (bif (!x1) then
  some false
 else
  (Z0f n ticks (Z1c Zo.b0) ((), 0)).bind fun (y1 : (Unit) × Nat) =>
  (bif (y1.2 == 0) then
   some true
  else
   some false))

theorem Z8s {n : Net} {ticks : (List Int)} : Le (Z5W n ticks) (Zo n ticks) := by
 unfold Z5W Zo
 repeat' (with_reducible (first | exact Le.refl _ | refine Le.bind ?_ ?_ | refine Le.cond ?_ ?_ | refine Le.Z1c ?_ _ _ | refine Z7L | refine Z4E ?_ | intro _))

noncomputable def Z1p (a : (List Int)) (b : (List Int)) : Option (Bool) :=
 (bif ((a.length : Int) != (b.length : Int)) then
  some false
 else
  (Z26 (Zh.s0 a b) 0).bind fun (y1 : Jx (Unit) (Bool)) =>
  y1.elim (fun r' =>
    some r') fun a2 =>
  some true)

theorem Z5y {a : (List Int)} {b : (List Int)} : Le (Z1p a b) (Zh a b) := by
 unfold Z1p Zh
 repeat' (with_reducible (first | exact Le.refl _ | refine Le.bind ?_ ?_ | refine Le.cond ?_ ?_ | refine Le.elim ?_ ?_ | refine Le.loop ?_ | intro _))

noncomputable def Z2D : Option (Bool) :=
 (Z1x ZG 3 9).bind fun x1 =>
 (Z1x ZG 3 5).bind fun x2 =>
 (Z41 (Net.mk 2 [ZG] [(Con.mk 0 1 0 (Range.mk 1 2 true true))]) [3, 4]).bind fun x3 =>
 (Z41 (Net.mk 2 [ZG] [(Con.mk 0 1 0 (Range.mk 1 2 true true))]) [3, 5]).bind fun x4 =>
 (
  (bif ((x1.2 && (x1.1 == 1)) && (!x2.2)) then
   (Z5Y (Net.mk 2 [ZG] [(Con.mk 0 1 0 (Range.mk 1 2 true true))])).bind fun x5 =>
   some (x5 == 0)
  else
   some false)).bind fun (y1 : Bool) =>
 (
  (bif y1 then
   (Z5W (Net.mk 2 [ZG] [(Con.mk 0 1 0 (Range.mk 1 2 true true))]) [3, 9]).bind fun x6 =>
   some x6
  else
   some false)).bind fun (y2 : Bool) =>
 (
  (bif (y2 && (x3.2 == 0)) then
   (Z1p x3.1 [0]).bind fun x7 =>
   some x7
  else
   some false)).bind fun (y3 : Bool) =>
 (
  (bif (y3 && (x4.2 == 0)) then
   (Z1p x4.1 [0]).bind fun x8 =>
   some x8
  else
   some false)).bind fun (y4 : Bool) =>
 some y4

theorem Z5O : Le (Z2D) (Z1O) := by
 unfold Z2D Z1O
 repeat' (with_reducible (first | exact Le.refl _ | refine Le.bind ?_ ?_ | refine Le.cond ?_ ?_ | refine Z4V | refine Z9L | refine Z9d | refine Z8s | refine Z5y | intro _))

theorem Z5L : Z2D = some true := by kernel_rfl
theorem Z5R : Z1O = some true := Z5O _ Z5L

end Go.Dn

namespace Go.Dn
open Go Go.Proofs
set_option maxRecDepth 100000
set_option maxHeartbeats 4000000
abbrev vl {α : Type} (c : α → List FV) (x : List α) : PV := .v (.sl (x.map c))
abbrev vi (x : Int) : PV := .v (.int .i64 x)
abbrev vu (x : Int) : PV := .v (.int .u64 x)
abbrev vb (x : Bool) : PV := .v (.bool x)
theorem sj {α : Type} {a b : α} (h : some a = some b) : a = b := Option.some.inj h
abbrev vF (f : Form) : List PV := [vi f.Period, vi f.Count, vl (cL Span.cs) f.Core, vl Granule.cs f.Odd]
abbrev vG (f : size_form) : List PV := [vi f.Form.Period, vi f.Form.Count, vl (cL Span.cs) f.Form.Core, vl Granule.cs f.Form.Odd, vl size_spot.cs f.spots]

theorem Z7l {f : Form} {r : Int} (h : Z05 f = some r) : Fn CX 16 [(.agg (vs (Form.cs f)))] (vi r) := by
 refine Fn.ends Try.func16 rfl rfl rfl rfl rfl rfl ?_
 have H : Hs (⟨0, fun _ => .none⟩ : Heap) [] := Has.nil (Nat.le_refl _)
 generalize (⟨0, fun _ => .none⟩ : Heap) = σ at H ⊢
 unfold Z05 at h
 refine .then (.Z0 2 rfl H fun b1 σ H => (.boxH (cs := (vF f)) H (by omega) (by omega) rfl rfl rfl fun σ H => (.assign (v := (vi 0)) rfl rfl (.nila H fun H => (.then ?_)))))
 refine .Z0 1 rfl H fun b2 σ H => (.assign (v := (vi 0)) rfl rfl (.nila H fun H => (.then (.then (.Z0 4 rfl H fun b3 σ H => ?_)))))
 refine .Z2 (off := 0) (fo := 2) H 0 rfl rfl rfl rfl rfl nofun rfl (.ZQ (off := 2) (v := (vl (cL Span.cs) f.Core)) H 0 rfl rfl rfl rfl rfl nofun rfl (.Z0B (c := (cL Span.cs)) (xs := f.Core) rfl rfl rfl (.move (v := (vi 0)) rfl rfl (.nila H fun H => (.inBlock ?_)))))
 obtain ⟨y1, hj1, h⟩ := bind_some h
 obtain ⟨n1, hj1⟩ := Zc.1 hj1
 refine .mono (Runs.ZJ hj1 (fun s1 e σ => Z4 e [(1, (.ptr (b1 + 0) 4 0)), (3, (vi s1.1)), (9, (vl (cL Span.cs) f.Core)), (10, (vi (f.Core.length : Int))), (11, (vi s1.2))] ∧ Hs σ [.blk (b1 + 0) 25 (vF f)]) (fun y1 x e σ => x = .exit 0 ∧ Z4 e [(1, (.ptr (b1 + 0) 4 0)), (3, (vi y1))] ∧ Hs σ [.blk (b1 + 0) 25 (vF f)]) ⟨⟨rfl, rfl, rfl, rfl, rfl, trivial⟩, H⟩ ?_) ?_
 ·intro s1 e σ hI z h
  obtain ⟨he, H⟩ := hI
  obtain ⟨e, rfl⟩ := he.ex
  unfold Z05.s0 at h
  refine .then (.Z0 1 rfl H fun b4 σ H => (.int (m := s1.2) (m' := (f.Core.length : Int)) (r := .bool (decide (s1.2 < (f.Core.length : Int)))) rfl rfl rfl rfl rfl (.nila H fun H => (.then ?_))))
  refine .whether (v := (decide (s1.2 < (f.Core.length : Int)))) rfl ?_ ?_ <;> intro hc1
  ·replace h := Z6 hc1 h
   refine .skip (.then (.inBlock (.then (.Z0 3 rfl H fun b5 σ H => ?_))))
   obtain ⟨x1, q1, h⟩ := bind_some h
   refine .Z0C (c := (cL Span.cs)) (u := x1) rfl rfl q1 rfl rfl rfl rfl (.Z2H (u := (.sl (x1.map Span.cs))) rfl rfl rfl rfl (.assign (v := (vl Span.cs x1)) rfl rfl (.nila H fun H => (.Z0 5 rfl H fun b6 σ H => (.move (v := (vi s1.1)) rfl rfl ?_)))))
   refine .move (v := (vl Span.cs x1)) rfl rfl (.Z0B (c := Span.cs) (xs := x1) rfl rfl rfl (.int (m := s1.1) (m' := (x1.length : Int)) (r := .int .i64 (w64 (s1.1 + (x1.length : Int)))) rfl rfl rfl rfl rfl (.assign (v := (vi (w64 (s1.1 + (x1.length : Int))))) rfl rfl (.nila H fun H => (.Z0 2 rfl H fun b7 σ H => ?_)))))
   refine .int (m := s1.2) (m' := 1) (r := .int .i64 (w64 (s1.2 + 1))) rfl rfl rfl rfl rfl (.move (v := (vi (w64 (s1.2 + 1)))) rfl rfl (.nila H fun H => ?_))
   replace h := sj h; subst h
   exact ⟨rfl, ⟨rfl, rfl, rfl, rfl, rfl, trivial⟩, H⟩
  ·replace h := Z7 hc1 h
   refine .exit ?_
   replace h := sj h; subst h
   exact ⟨nofun, ⟨rfl, ⟨rfl, rfl, trivial⟩, H⟩⟩
 ·rintro x e σ ⟨rfl, he, H⟩
  obtain ⟨e, rfl⟩ := he.ex
  refine .then (.then (.Z0 4 rfl H fun b8 σ H => (.Z2 (off := 0) (fo := 3) H 0 rfl rfl rfl rfl rfl nofun rfl (.ZQ (off := 3) (v := (vl Granule.cs f.Odd)) H 0 rfl rfl rfl rfl rfl nofun rfl (.Z0B (c := Granule.cs) (xs := f.Odd) rfl rfl rfl ?_)))))
  refine .move (v := (vi 0)) rfl rfl (.nila H fun H => (.inBlock ?_))
  obtain ⟨y2, hj2, h⟩ := bind_some h
  obtain ⟨n2, hj2⟩ := Zc.1 hj2
  refine .mono (Runs.ZJ hj2 (fun s2 e σ => Z4 e [(3, (vi s2.1)), (21, (vl Granule.cs f.Odd)), (22, (vi (f.Odd.length : Int))), (23, (vi s2.2))] ∧ Hs σ []) (fun y2 x e σ => x = .exit 2 ∧ Z4 e [(3, (vi y2))] ∧ Hs σ []) ⟨⟨rfl, rfl, rfl, rfl, trivial⟩, (H.erase 0)⟩ ?_) ?_
  ·intro s2 e σ hI z h
   obtain ⟨he, H⟩ := hI
   obtain ⟨e, rfl⟩ := he.ex
   unfold Z05.s1 at h
   refine .then (.Z0 1 rfl H fun b9 σ H => (.int (m := s2.2) (m' := (f.Odd.length : Int)) (r := .bool (decide (s2.2 < (f.Odd.length : Int)))) rfl rfl rfl rfl rfl (.nila H fun H => (.then ?_))))
   refine .whether (v := (decide (s2.2 < (f.Odd.length : Int)))) rfl ?_ ?_ <;> intro hc2
   ·replace h := Z6 hc2 h
    refine .skip (.then (.inBlock (.then (.Z0 4 rfl H fun b10 σ H => ?_))))
    obtain ⟨x2, q2, h⟩ := bind_some h
    refine .Z0C (c := Granule.cs) (u := x2) rfl rfl q2 rfl rfl rfl rfl (.Z2F (cs := [(.int .i64 x2.Index), (.sl (x2.Ticks.map Span.cs))]) rfl rfl rfl rfl rfl rfl (.Z0t (cs := [(vi 0), .nils]) H (by omega) (by omega) rfl rfl fun σ H => (.Z0U (off := 0) (cells' := [(vi x2.Index), (vl Span.cs x2.Ticks)]) H 0 rfl rfl rfl rfl rfl rfl rfl rfl rfl nofun fun σ H => (.nila H fun H => (.Z0 6 rfl H fun b11 σ H => ?_)))))
    refine .move (v := (vi s2.1)) rfl rfl (.Z2 (off := 0) (fo := 1) H 0 rfl rfl rfl rfl rfl nofun rfl (.ZQ (off := 1) (v := (vl Span.cs x2.Ticks)) H 0 rfl rfl rfl rfl rfl nofun rfl (.Z0B (c := Span.cs) (xs := x2.Ticks) rfl rfl rfl (.int (m := s2.1) (m' := (x2.Ticks.length : Int)) (r := .int .i64 (w64 (s2.1 + (x2.Ticks.length : Int)))) rfl rfl rfl rfl rfl (.assign (v := (vi (w64 (s2.1 + (x2.Ticks.length : Int))))) rfl rfl ?_)))))
    refine .nila H fun H => (.Z0 2 rfl H fun b12 σ H => (.int (m := s2.2) (m' := 1) (r := .int .i64 (w64 (s2.2 + 1))) rfl rfl rfl rfl rfl (.move (v := (vi (w64 (s2.2 + 1)))) rfl rfl (.nila H fun H => ?_))))
    replace h := sj h; subst h
    exact ⟨rfl, ⟨rfl, rfl, rfl, rfl, trivial⟩, (H.erase 0)⟩
   ·replace h := Z7 hc2 h
    refine .exit ?_
    replace h := sj h; subst h
    exact ⟨nofun, ⟨rfl, ⟨rfl, trivial⟩, H⟩⟩
  ·rintro x e σ ⟨rfl, he, H⟩
   obtain ⟨e, rfl⟩ := he.ex
   refine .then (.Z0 2 rfl H fun b13 σ H => (.move (v := (vi y2)) rfl rfl (.assign (v := (vi y2)) rfl rfl (.nila H fun H => (.ret ?_)))))
   replace h := sj h; subst h
   exact (Ends.H (xs := [(vi y2)]) (.inr rfl) H (.tmp (v := (vi y2)) rfl .nil) (.one (.c (.v _))))

theorem Z6S {f : Form} {r : Bool} (h : Z0e f = some r) : Fn CX 6 [(.agg (vs (Form.cs f)))] (vb r) := by
 refine Fn.ends Try.func6 rfl rfl rfl rfl rfl rfl ?_
 have H : Hs (⟨0, fun _ => .none⟩ : Heap) [] := Has.nil (Nat.le_refl _)
 generalize (⟨0, fun _ => .none⟩ : Heap) = σ at H ⊢
 unfold Z0e at h
 refine .then (.Z0 2 rfl H fun b1 σ H => (.boxH (cs := (vF f)) H (by omega) (by omega) rfl rfl rfl fun σ H => (.assign (v := (vb false)) rfl rfl (.nila H fun H => (.then ?_)))))
 refine .Z0 16 rfl H fun b2 σ H => (.Z2 (off := 0) (fo := 2) H 0 rfl rfl rfl rfl rfl nofun rfl (.ZQ (off := 2) (v := (vl (cL Span.cs) f.Core)) H 0 rfl rfl rfl rfl rfl nofun rfl (.Z0B (c := (cL Span.cs)) (xs := f.Core) rfl rfl rfl (.int (m := (f.Core.length : Int)) (m' := 12) (r := .bool (decide ((f.Core.length : Int) ≤ 12))) rfl rfl rfl rfl rfl (.move (v := (vb (decide ((f.Core.length : Int) ≤ 12)))) rfl rfl ?_)))))
 refine .mid 5 (K1 := fun e σ => Z4 e [(12, (vb ((decide ((f.Core.length : Int) ≤ 12)) && (decide ((f.Odd.length : Int) ≤ 8))))), (1, (.ptr (b1 + 0) 4 0))] ∧ Has σ (b2 + 10) (b2 + 16) [.blk (b1 + 0) 25 (vF f)]) rfl ?_ ?_
 ·refine .split rfl rfl ?_ ?_ <;> intro hc1
  ·skip
   refine .wanted rfl rfl (.Z2 (off := 0) (fo := 3) H 0 rfl rfl rfl rfl rfl nofun rfl (.wanted rfl rfl (.ZQ (off := 3) (v := (vl Granule.cs f.Odd)) H 0 rfl rfl rfl rfl rfl nofun rfl (.wanted rfl rfl (.Z0B (c := Granule.cs) (xs := f.Odd) rfl rfl rfl ?_)))))
   refine .wanted rfl rfl (.int (m := (f.Odd.length : Int)) (m' := 8) (r := .bool (decide ((f.Odd.length : Int) ≤ 8))) rfl rfl rfl rfl rfl (.Ze (v := (vb (decide ((f.Odd.length : Int) ≤ 8)))) rfl rfl rfl (.nil ?_)))
   exact ⟨⟨Z1D hc1, rfl, trivial⟩, H.weak (by omega) (Nat.le_refl _)⟩
  ·skip
   refine .pass rfl rfl rfl (.pass rfl rfl rfl (.pass rfl rfl rfl (.pass rfl rfl rfl (.Zg (v := (vb false)) rfl rfl rfl (.nil ?_)))))
   exact ⟨⟨Z1E hc1, rfl, trivial⟩, H.weak (by omega) (Nat.le_refl _)⟩
 ·rintro e σ ⟨he, H⟩
  obtain ⟨e, rfl⟩ := he.ex
  refine .move (v := (vb ((decide ((f.Core.length : Int) ≤ 12)) && (decide ((f.Odd.length : Int) ≤ 8))))) rfl rfl ?_
  obtain ⟨y1, hj1, h⟩ := bind_some h
  refine .mid 4 (K1 := fun e σ => Z4 e [(17, (vb y1))] ∧ Has σ (b2 + 15) (b2 + 16) []) rfl ?_ ?_
  ·refine .split rfl rfl ?_ ?_ <;> intro hc2
   ·replace h := Z6 hc2 hj1
    refine .wanted rfl rfl (.ZX (off := 0) (cs := (vF f)) H 0 rfl rfl rfl rfl rfl rfl rfl nofun rfl (.wanted rfl rfl ?_))
    obtain ⟨x1, q1, h⟩ := bind_some h
    refine .call (ys := [(.agg (vF f))]) (r := (vi x1)) rfl (Z7l q1) rfl (.wanted rfl rfl (.int (m := x1) (m' := 60) (r := .bool (decide (x1 ≤ 60))) rfl rfl rfl rfl rfl (.Ze (v := (vb (decide (x1 ≤ 60)))) rfl rfl rfl (.nil ?_))))
    replace h := sj h; subst h
    exact ⟨⟨rfl, trivial⟩, (H.erase 0).weak (by omega) (Nat.le_refl _)⟩
   ·replace h := Z7 hc2 hj1
    refine .pass rfl rfl rfl (.pass rfl rfl rfl (.pass rfl rfl rfl (.Zg (v := (vb false)) rfl rfl rfl (.nil ?_))))
    replace h := sj h; subst h
    exact ⟨⟨rfl, trivial⟩, (H.erase 0).weak (by omega) (Nat.le_refl _)⟩
  ·rintro e σ ⟨he, H⟩
   obtain ⟨e, rfl⟩ := he.ex
   refine .assign (v := (vb y1)) rfl rfl (.nila H fun H => (.ret ?_))
   replace h := sj h; subst h
   exact (Ends.H (xs := [(vb y1)]) (.inr rfl) H (.tmp (v := (vb y1)) rfl .nil) (.one (.c (.v _))))

theorem Z3Y {t : Int} {r : Bool} (h : Za t = r) : Fn CX 45 [(vi t)] (vb r) := by
 refine Fn.ends Try.func45 rfl rfl rfl rfl rfl rfl ?_
 have H : Hs (⟨0, fun _ => .none⟩ : Heap) [] := Has.nil (Nat.le_refl _)
 generalize (⟨0, fun _ => .none⟩ : Heap) = σ at H ⊢
 unfold Za at h
 refine .then (.Z0 1 rfl H fun b1 σ H => (.assign (v := (vb false)) rfl rfl (.nila H fun H => (.then (.Z0 7 rfl H fun b2 σ H => ?_)))))
 refine .move (v := (vi t)) rfl rfl (.int (m := t) (m' := (-1099511627776)) (r := .bool (decide (t ≥ (-1099511627776)))) rfl rfl rfl rfl rfl (.move (v := (vb (decide (t ≥ (-1099511627776))))) rfl rfl ?_))
 refine .mid 3 (K1 := fun e σ => Z4 e [(8, (vb ((decide (t ≥ (-1099511627776))) && (decide (t ≤ 1099511627776)))))] ∧ Has σ (b2 + 6) (b2 + 7) []) rfl ?_ ?_
 ·refine .split rfl rfl ?_ ?_ <;> intro hc1
  ·skip
   refine .wanted rfl rfl (.move (v := (vi t)) rfl rfl (.wanted rfl rfl (.int (m := t) (m' := 1099511627776) (r := .bool (decide (t ≤ 1099511627776))) rfl rfl rfl rfl rfl (.Ze (v := (vb (decide (t ≤ 1099511627776)))) rfl rfl rfl (.nil ?_)))))
   exact ⟨⟨Z1D hc1, trivial⟩, H.weak (by omega) (Nat.le_refl _)⟩
  ·skip
   refine .pass rfl rfl rfl (.pass rfl rfl rfl (.Zg (v := (vb false)) rfl rfl rfl (.nil ?_)))
   exact ⟨⟨Z1E hc1, trivial⟩, H.weak (by omega) (Nat.le_refl _)⟩
 ·rintro e σ ⟨he, H⟩
  obtain ⟨e, rfl⟩ := he.ex
  refine .assign (v := (vb ((decide (t ≥ (-1099511627776))) && (decide (t ≤ 1099511627776))))) rfl rfl (.nila H fun H => (.ret ?_))
  subst h
  exact (Ends.H (xs := [(vb ((decide (t ≥ (-1099511627776))) && (decide (t ≤ 1099511627776))))]) (.inr rfl) H (.tmp (v := (vb ((decide (t ≥ (-1099511627776))) && (decide (t ≤ 1099511627776))))) rfl .nil) (.one (.c (.v _))))

theorem Z65 {l : (List Span)} {r : Bool} (h : Z07 l = some r) : Fn CX 27 [(vl Span.cs l)] (vb r) := by
 refine Fn.ends Try.func27 rfl rfl rfl rfl rfl rfl ?_
 have H : Hs (⟨0, fun _ => .none⟩ : Heap) [] := Has.nil (Nat.le_refl _)
 generalize (⟨0, fun _ => .none⟩ : Heap) = σ at H ⊢
 unfold Z07 at h
 refine .then (.Z0 1 rfl H fun b1 σ H => (.assign (v := (vb false)) rfl rfl (.nila H fun H => (.then (.then ?_)))))
 refine .Z0 3 rfl H fun b2 σ H => (.move (v := (vl Span.cs l)) rfl rfl (.Z0B (c := Span.cs) (xs := l) rfl rfl rfl (.move (v := (vi 0)) rfl rfl (.nila H fun H => (.inBlock ?_)))))
 obtain ⟨y1, hj1, h⟩ := bind_some h
 obtain ⟨n1, hj1⟩ := Zc.1 hj1
 refine .mono (Runs.ZJ hj1 (fun s1 e σ => Z4 e [(0, (vl Span.cs l)), (5, (vl Span.cs l)), (6, (vi (l.length : Int))), (7, (vi s1))] ∧ Hs σ []) (fun y1 x e σ => (∃ a1, y1 = (.go a1) ∧ x = .exit 0 ∧ Z4 e [] ∧ Hs σ []) ∨ (∃ r', y1 = (.ret r') ∧ x = .ret ∧ Ends CX Try.f27.results.toList (vb r') x e σ)) ⟨⟨rfl, rfl, rfl, rfl, trivial⟩, H⟩ ?_) ?_
 ·intro s1 e σ hI z h
  obtain ⟨he, H⟩ := hI
  obtain ⟨e, rfl⟩ := he.ex
  unfold Z07.s0 at h
  refine .then (.Z0 1 rfl H fun b3 σ H => (.int (m := s1) (m' := (l.length : Int)) (r := .bool (decide (s1 < (l.length : Int)))) rfl rfl rfl rfl rfl (.nila H fun H => (.then ?_))))
  refine .whether (v := (decide (s1 < (l.length : Int)))) rfl ?_ ?_ <;> intro hc1
  ·replace h := Z6 hc1 h
   refine .skip (.then (.inBlock (.then (.Z0 6 rfl H fun b4 σ H => (.move (v := (vi s1)) rfl rfl ?_)))))
   obtain ⟨x1, q1, h⟩ := bind_some h
   refine .Z0C (c := Span.cs) (u := x1) rfl rfl q1 rfl rfl rfl rfl (.Z2F (cs := [(.int .i64 x1.From), (.int .i64 x1.To)]) rfl rfl rfl rfl rfl rfl (.Z0t (cs := [(vi 0), (vi 0)]) H (by omega) (by omega) rfl rfl fun σ H => (.assign (v := (vi s1)) rfl rfl (.Z0U (off := 0) (cells' := [(vi x1.From), (vi x1.To)]) H 0 rfl rfl rfl rfl rfl rfl rfl rfl rfl nofun fun σ H => (.nila H fun H => ?_)))))
   refine .then (.Z2X 33 rfl (by kernel_rfl) H fun b5 σ H B5 => (.Z2 (off := 0) (fo := 0) H 0 rfl rfl rfl rfl rfl (fun _ => .inl ⟨B5 0 _ rfl _ rfl, nofun, (fun _ => by kernel_rfl)⟩) rfl (.ZQ (off := 0) (v := (vi x1.From)) H 0 rfl rfl rfl rfl rfl (fun _ => .inl ⟨B5 0 _ rfl _ rfl, nofun, (fun _ => by kernel_rfl)⟩) rfl (.call (ys := [(vi x1.From)]) (r := (vb (Za x1.From))) rfl (Z3Y rfl) rfl (.not (b := (Za x1.From)) rfl rfl ?_)))))
   refine .move (v := (vb (!(Za x1.From)))) rfl rfl ?_
   refine .mid 5 (K1 := fun e σ => Z4 e [(21, (vb ((!(Za x1.From)) || (!(Za x1.To))))), (0, (vl Span.cs l)), (3, (vi s1)), (4, (.ptr (b4 + 3) 2 0)), (5, (vl Span.cs l)), (6, (vi (l.length : Int))), (7, (vi s1))] ∧ Has σ (b5 + 10) (b5 + 33) [.blk (b4 + 3) 65 [(vi x1.From), (vi x1.To)]]) rfl ?_ ?_
   ·refine .split rfl rfl ?_ ?_ <;> intro hc2
    ·skip
     refine .pass rfl rfl rfl (.pass rfl rfl rfl (.pass rfl rfl rfl (.pass rfl rfl rfl (.Ze (v := (vb true)) rfl rfl rfl (.nil ?_)))))
     exact ⟨⟨or_T hc2, rfl, rfl, rfl, rfl, rfl, rfl, trivial⟩, H.weak (by omega) (Nat.le_refl _)⟩
    ·skip
     refine .wanted rfl rfl (.Z2 (off := 0) (fo := 1) H 0 rfl rfl rfl rfl rfl (fun _ => .inl ⟨B5 0 _ rfl _ rfl, nofun, (fun _ => by kernel_rfl)⟩) rfl (.wanted rfl rfl (.ZQ (off := 1) (v := (vi x1.To)) H 0 rfl rfl rfl rfl rfl (fun _ => .inl ⟨B5 0 _ rfl _ rfl, nofun, (fun _ => by kernel_rfl)⟩) rfl (.wanted rfl rfl (.call (ys := [(vi x1.To)]) (r := (vb (Za x1.To))) rfl (Z3Y rfl) rfl ?_)))))
     refine .wanted rfl rfl (.not (b := (Za x1.To)) rfl rfl (.Zg (v := (vb (!(Za x1.To)))) rfl rfl rfl (.nil ?_)))
     exact ⟨⟨or_F hc2, rfl, rfl, rfl, rfl, rfl, rfl, trivial⟩, H.weak (by omega) (Nat.le_refl _)⟩
   ·rintro e σ ⟨he, H⟩
    obtain ⟨e, rfl⟩ := he.ex
    refine .move (v := (vb ((!(Za x1.From)) || (!(Za x1.To))))) rfl rfl ?_
    refine .mid 6 (K1 := fun e σ => Z4 e [(28, (vb (((!(Za x1.From)) || (!(Za x1.To))) || (decide (x1.From > x1.To))))), (0, (vl Span.cs l)), (3, (vi s1)), (4, (.ptr (b4 + 3) 2 0)), (5, (vl Span.cs l)), (6, (vi (l.length : Int))), (7, (vi s1))] ∧ Has σ (b5 + 17) (b5 + 33) [.blk (b4 + 3) 65 [(vi x1.From), (vi x1.To)]]) rfl ?_ ?_
    ·refine .split rfl rfl ?_ ?_ <;> intro hc3
     ·skip
      refine .pass rfl rfl rfl (.pass rfl rfl rfl (.pass rfl rfl rfl (.pass rfl rfl rfl (.pass rfl rfl rfl (.Ze (v := (vb true)) rfl rfl rfl ?_)))))
      refine .nil ?_
      exact ⟨⟨or_T hc3, rfl, rfl, rfl, rfl, rfl, rfl, trivial⟩, H.weak (by omega) (Nat.le_refl _)⟩
     ·skip
      refine .wanted rfl rfl (.Z2 (off := 0) (fo := 0) H 0 rfl rfl rfl rfl rfl (fun _ => .inl ⟨B5 0 _ rfl _ rfl, nofun, (fun _ => by kernel_rfl)⟩) rfl (.wanted rfl rfl (.ZQ (off := 0) (v := (vi x1.From)) H 0 rfl rfl rfl rfl rfl (fun _ => .inl ⟨B5 0 _ rfl _ rfl, nofun, (fun _ => by kernel_rfl)⟩) rfl (.wanted rfl rfl (.Z2 (off := 0) (fo := 1) H 0 rfl rfl rfl rfl rfl (fun _ => .inl ⟨B5 0 _ rfl _ rfl, nofun, (fun _ => by kernel_rfl)⟩) rfl ?_)))))
      refine .wanted rfl rfl (.ZQ (off := 1) (v := (vi x1.To)) H 0 rfl rfl rfl rfl rfl (fun _ => .inl ⟨B5 0 _ rfl _ rfl, nofun, (fun _ => by kernel_rfl)⟩) rfl (.wanted rfl rfl (.int (m := x1.From) (m' := x1.To) (r := .bool (decide (x1.From > x1.To))) rfl rfl rfl rfl rfl (.Zg (v := (vb (decide (x1.From > x1.To)))) rfl rfl rfl (.nil ?_)))))
      exact ⟨⟨or_F hc3, rfl, rfl, rfl, rfl, rfl, rfl, trivial⟩, H.weak (by omega) (Nat.le_refl _)⟩
    ·rintro e σ ⟨he, H⟩
     obtain ⟨e, rfl⟩ := he.ex
     refine .move (v := (vb (((!(Za x1.From)) || (!(Za x1.To))) || (decide (x1.From > x1.To))))) rfl rfl ?_
     obtain ⟨y2, hj2, h⟩ := bind_some h
     refine .mid 15 (K1 := fun e σ => Z4 e [(44, (vb y2)), (0, (vl Span.cs l)), (5, (vl Span.cs l)), (6, (vi (l.length : Int))), (7, (vi s1))] ∧ Has σ (b5 + 33) (b5 + 33) []) rfl ?_ ?_
     ·refine .split rfl rfl ?_ ?_ <;> intro hc4
      ·replace h := Z6 hc4 hj2
       refine .pass rfl rfl rfl (.pass rfl rfl rfl (.pass rfl rfl rfl (.Z0S rfl rfl rfl (.Z0S rfl rfl rfl (.Z0S rfl rfl rfl ?_)))))
       refine .Z0S rfl rfl rfl (.Z0S rfl rfl rfl (.Z0S rfl rfl rfl (.Z0S rfl rfl rfl (.Z0S rfl rfl rfl (.Z0S rfl rfl rfl ?_)))))
       refine .Z0S rfl rfl rfl (.pass rfl rfl rfl (.Ze (v := (vb true)) rfl rfl rfl (.nil ?_)))
       replace h := sj h; subst h
       exact ⟨⟨rfl, rfl, rfl, rfl, rfl, trivial⟩, (H.erase 0).weak (by omega) (Nat.le_refl _)⟩
      ·replace h := Z7 hc4 hj2
       refine .wanted rfl rfl (.move (v := (vi s1)) rfl rfl (.wanted rfl rfl (.int (m := s1) (m' := 0) (r := .bool (decide (s1 > 0))) rfl rfl rfl rfl rfl (.wanted rfl rfl (.move (v := (vb (decide (s1 > 0)))) rfl rfl ?_)))))
       obtain ⟨y3, hj3, h⟩ := bind_some h
       refine .mid 11 (K1 := fun e σ => Z4 e [(43, (vb y3)), (0, (vl Span.cs l)), (5, (vl Span.cs l)), (6, (vi (l.length : Int))), (7, (vi s1)), (29, (vb false))] ∧ Has σ (b5 + 32) (b5 + 33) []) rfl ?_ ?_
       ·refine .split rfl rfl ?_ ?_ <;> intro hc5
        ·replace h := Z6 hc5 hj3
         refine .wanted rfl rfl (.Z2 (off := 0) (fo := 0) H 0 rfl rfl rfl rfl rfl (fun _ => .inl ⟨B5 0 _ rfl _ rfl, nofun, (fun _ => by kernel_rfl)⟩) rfl (.wanted rfl rfl (.ZQ (off := 0) (v := (vi x1.From)) H 0 rfl rfl rfl rfl rfl (fun _ => .inl ⟨B5 0 _ rfl _ rfl, nofun, (fun _ => by kernel_rfl)⟩) rfl (.wanted rfl rfl (.move (v := (vl Span.cs l)) rfl rfl ?_)))))
         refine .wanted rfl rfl (.move (v := (vi s1)) rfl rfl (.wanted rfl rfl (.int (m := s1) (m' := 1) (r := .int .i64 (w64 (s1 - 1))) rfl rfl rfl rfl rfl (.wanted rfl rfl ?_))))
         obtain ⟨x2, q2, h⟩ := bind_some h
         refine .Z0C (c := Span.cs) (u := x2) rfl rfl q2 rfl rfl rfl rfl (.wanted rfl rfl (.Z14 rfl rfl rfl rfl (.wanted rfl rfl (.Z2H (u := (.int .i64 x2.To)) rfl rfl rfl rfl (.wanted rfl rfl ?_)))))
         refine .int (m := x2.To) (m' := 2) (r := .int .i64 (w64 (x2.To + 2))) rfl rfl rfl rfl rfl (.wanted rfl rfl (.int (m := x1.From) (m' := (w64 (x2.To + 2))) (r := .bool (decide (x1.From < (w64 (x2.To + 2))))) rfl rfl rfl rfl rfl (.wanted rfl rfl (.Ze (v := (vb (decide (x1.From < (w64 (x2.To + 2)))))) rfl rfl rfl (.nil ?_)))))
         replace h := sj h; subst h
         exact ⟨⟨rfl, rfl, rfl, rfl, rfl, rfl, trivial⟩, (H.erase 0).weak (by omega) (Nat.le_refl _)⟩
        ·replace h := Z7 hc5 hj3
         refine .pass rfl rfl rfl (.pass rfl rfl rfl (.pass rfl rfl rfl (.pass rfl rfl rfl (.pass rfl rfl rfl (.pass rfl rfl rfl ?_)))))
         refine .pass rfl rfl rfl (.pass rfl rfl rfl (.pass rfl rfl rfl (.pass rfl rfl rfl (.wanted rfl rfl (.Zg (v := (vb false)) rfl rfl rfl ?_)))))
         refine .nil ?_
         replace h := sj h; subst h
         exact ⟨⟨rfl, rfl, rfl, rfl, rfl, rfl, trivial⟩, (H.erase 0).weak (by omega) (Nat.le_refl _)⟩
       ·rintro e σ ⟨he, H⟩
        obtain ⟨e, rfl⟩ := he.ex
        refine .Zg (v := (vb y3)) rfl rfl rfl (.nil ?_)
        replace h := sj h; subst h
        exact ⟨⟨rfl, rfl, rfl, rfl, rfl, trivial⟩, H.weak (by omega) (Nat.le_refl _)⟩
     ·rintro e σ ⟨he, H⟩
      obtain ⟨e, rfl⟩ := he.ex
      refine .nila H fun H => ?_
      refine .whether (v := y2) rfl ?_ ?_ <;> intro hc6
      ·replace h := Z6 hc6 h
       refine .then (.Z0 1 rfl H fun b6 σ H => (.assign (v := (vb false)) rfl rfl (.nila H fun H => (.ret ?_))))
       replace h := sj h; subst h
       exact ⟨nofun, (.inr ⟨_, rfl, rfl, (Ends.H (xs := [(vb false)]) (.inr rfl) H (.tmp (v := (vb false)) rfl .nil) (.one (.c (.v _))))⟩)⟩
      ·replace h := Z7 hc6 h
       refine .skip (.Z0 2 rfl H fun b7 σ H => (.int (m := s1) (m' := 1) (r := .int .i64 (w64 (s1 + 1))) rfl rfl rfl rfl rfl (.move (v := (vi (w64 (s1 + 1)))) rfl rfl (.nila H fun H => ?_))))
       replace h := sj h; subst h
       exact ⟨rfl, ⟨rfl, rfl, rfl, rfl, trivial⟩, H⟩
  ·replace h := Z7 hc1 h
   refine .exit ?_
   replace h := sj h; subst h
   exact ⟨nofun, (.inl ⟨_, rfl, rfl, trivial, H⟩)⟩
 ·rintro x e σ (⟨a2, rfl, rfl, he, H⟩ | ⟨r', rfl, rfl, hE⟩)
  ·skip
   replace h := jgo h
   obtain ⟨e, rfl⟩ := he.ex
   refine .then (.Z0 1 rfl H fun b8 σ H => (.assign (v := (vb true)) rfl rfl (.nila H fun H => (.ret ?_))))
   replace h := sj h; subst h
   exact (Ends.H (xs := [(vb true)]) (.inr rfl) H (.tmp (v := (vb true)) rfl .nil) (.one (.c (.v _))))
  ·skip
   replace h := jret h
   replace h := sj h; subst h
   exact hE

theorem Z3v {i : Int} {r : Bool} (h : Zp i = r) : Fn CX 28 [(vi i)] (vb r) := by
 refine Fn.ends Try.func28 rfl rfl rfl rfl rfl rfl ?_
 have H : Hs (⟨0, fun _ => .none⟩ : Heap) [] := Has.nil (Nat.le_refl _)
 generalize (⟨0, fun _ => .none⟩ : Heap) = σ at H ⊢
 unfold Zp at h
 refine .then (.Z0 1 rfl H fun b1 σ H => (.assign (v := (vb false)) rfl rfl (.nila H fun H => (.then (.Z0 7 rfl H fun b2 σ H => ?_)))))
 refine .move (v := (vi i)) rfl rfl (.int (m := i) (m' := (-1099511627776)) (r := .bool (decide (i ≥ (-1099511627776)))) rfl rfl rfl rfl rfl (.move (v := (vb (decide (i ≥ (-1099511627776))))) rfl rfl ?_))
 refine .mid 3 (K1 := fun e σ => Z4 e [(8, (vb ((decide (i ≥ (-1099511627776))) && (decide (i ≤ 1099511627776)))))] ∧ Has σ (b2 + 6) (b2 + 7) []) rfl ?_ ?_
 ·refine .split rfl rfl ?_ ?_ <;> intro hc1
  ·skip
   refine .wanted rfl rfl (.move (v := (vi i)) rfl rfl (.wanted rfl rfl (.int (m := i) (m' := 1099511627776) (r := .bool (decide (i ≤ 1099511627776))) rfl rfl rfl rfl rfl (.Ze (v := (vb (decide (i ≤ 1099511627776)))) rfl rfl rfl (.nil ?_)))))
   exact ⟨⟨Z1D hc1, trivial⟩, H.weak (by omega) (Nat.le_refl _)⟩
  ·skip
   refine .pass rfl rfl rfl (.pass rfl rfl rfl (.Zg (v := (vb false)) rfl rfl rfl (.nil ?_)))
   exact ⟨⟨Z1E hc1, trivial⟩, H.weak (by omega) (Nat.le_refl _)⟩
 ·rintro e σ ⟨he, H⟩
  obtain ⟨e, rfl⟩ := he.ex
  refine .assign (v := (vb ((decide (i ≥ (-1099511627776))) && (decide (i ≤ 1099511627776))))) rfl rfl (.nila H fun H => (.ret ?_))
  subst h
  exact (Ends.H (xs := [(vb ((decide (i ≥ (-1099511627776))) && (decide (i ≤ 1099511627776))))]) (.inr rfl) H (.tmp (v := (vb ((decide (i ≥ (-1099511627776))) && (decide (i ≤ 1099511627776))))) rfl .nil) (.one (.c (.v _))))

theorem gran_shape_fn {f : Form} {r : Bool} (h : Zj f = some r) : Fn CX 17 [(.agg (vs (Form.cs f)))] (vb r) := by
 refine Fn.ends Try.func17 rfl rfl rfl rfl rfl rfl ?_
 have H : Hs (⟨0, fun _ => .none⟩ : Heap) [] := Has.nil (Nat.le_refl _)
 generalize (⟨0, fun _ => .none⟩ : Heap) = σ at H ⊢
 unfold Zj at h
 refine .then (.Z0 2 rfl H fun b1 σ H => (.boxH (cs := (vF f)) H (by omega) (by omega) rfl rfl rfl fun σ H => (.assign (v := (vb false)) rfl rfl (.nila H fun H => (.then ?_)))))
 refine .then (.Z0 25 rfl H fun b2 σ H => (.Z2 (off := 0) (fo := 1) H 0 rfl rfl rfl rfl rfl nofun rfl (.ZQ (off := 1) (v := (vi f.Count)) H 0 rfl rfl rfl rfl rfl nofun rfl (.Z2 (off := 0) (fo := 2) H 0 rfl rfl rfl rfl rfl nofun rfl (.ZQ (off := 2) (v := (vl (cL Span.cs) f.Core)) H 0 rfl rfl rfl rfl rfl nofun rfl ?_)))))
 refine .Z0B (c := (cL Span.cs)) (xs := f.Core) rfl rfl rfl (.int (m := f.Count) (m' := (f.Core.length : Int)) (r := .bool (f.Count != (f.Core.length : Int))) rfl rfl rfl rfl rfl (.move (v := (vb (f.Count != (f.Core.length : Int)))) rfl rfl ?_))
 refine .mid 8 (K1 := fun e σ => Z4 e [(21, (vb ((f.Count != (f.Core.length : Int)) || ((f.Count == 0) != (f.Period == 0))))), (1, (.ptr (b1 + 0) 4 0))] ∧ Has σ (b2 + 15) (b2 + 25) [.blk (b1 + 0) 25 (vF f)]) rfl ?_ ?_
 ·refine .split rfl rfl ?_ ?_ <;> intro hc1
  ·skip
   refine .pass rfl rfl rfl (.pass rfl rfl rfl (.pass rfl rfl rfl (.pass rfl rfl rfl (.pass rfl rfl rfl (.pass rfl rfl rfl ?_)))))
   refine .pass rfl rfl rfl (.Ze (v := (vb true)) rfl rfl rfl (.nil ?_))
   exact ⟨⟨or_T hc1, rfl, trivial⟩, H.weak (by omega) (Nat.le_refl _)⟩
  ·skip
   refine .wanted rfl rfl (.Z2 (off := 0) (fo := 1) H 0 rfl rfl rfl rfl rfl nofun rfl (.wanted rfl rfl (.ZQ (off := 1) (v := (vi f.Count)) H 0 rfl rfl rfl rfl rfl nofun rfl (.wanted rfl rfl (.int (m := f.Count) (m' := 0) (r := .bool (f.Count == 0)) rfl rfl rfl rfl rfl ?_)))))
   refine .wanted rfl rfl (.Z2 (off := 0) (fo := 0) H 0 rfl rfl rfl rfl rfl nofun rfl (.wanted rfl rfl (.ZQ (off := 0) (v := (vi f.Period)) H 0 rfl rfl rfl rfl rfl nofun rfl (.wanted rfl rfl (.int (m := f.Period) (m' := 0) (r := .bool (f.Period == 0)) rfl rfl rfl rfl rfl ?_)))))
   refine .wanted rfl rfl (.neB (b := (f.Count == 0)) (b' := (f.Period == 0)) rfl rfl rfl rfl (.Zg (v := (vb ((f.Count == 0) != (f.Period == 0)))) rfl rfl rfl (.nil ?_)))
   exact ⟨⟨or_F hc1, rfl, trivial⟩, H.weak (by omega) (Nat.le_refl _)⟩
 ·rintro e σ ⟨he, H⟩
  obtain ⟨e, rfl⟩ := he.ex
  refine .move (v := (vb ((f.Count != (f.Core.length : Int)) || ((f.Count == 0) != (f.Period == 0))))) rfl rfl ?_
  refine .mid 4 (K1 := fun e σ => Z4 e [(26, (vb (((f.Count != (f.Core.length : Int)) || ((f.Count == 0) != (f.Period == 0))) || (decide (f.Period < 0))))), (1, (.ptr (b1 + 0) 4 0))] ∧ Has σ (b2 + 20) (b2 + 25) [.blk (b1 + 0) 25 (vF f)]) rfl ?_ ?_
  ·refine .split rfl rfl ?_ ?_ <;> intro hc2
   ·skip
    refine .pass rfl rfl rfl (.pass rfl rfl rfl (.pass rfl rfl rfl (.Ze (v := (vb true)) rfl rfl rfl (.nil ?_))))
    exact ⟨⟨or_T hc2, rfl, trivial⟩, H.weak (by omega) (Nat.le_refl _)⟩
   ·skip
    refine .wanted rfl rfl (.Z2 (off := 0) (fo := 0) H 0 rfl rfl rfl rfl rfl nofun rfl (.wanted rfl rfl (.ZQ (off := 0) (v := (vi f.Period)) H 0 rfl rfl rfl rfl rfl nofun rfl (.wanted rfl rfl (.int (m := f.Period) (m' := 0) (r := .bool (decide (f.Period < 0))) rfl rfl rfl rfl rfl ?_)))))
    refine .Zg (v := (vb (decide (f.Period < 0)))) rfl rfl rfl (.nil ?_)
    exact ⟨⟨or_F hc2, rfl, trivial⟩, H.weak (by omega) (Nat.le_refl _)⟩
  ·rintro e σ ⟨he, H⟩
   obtain ⟨e, rfl⟩ := he.ex
   refine .move (v := (vb (((f.Count != (f.Core.length : Int)) || ((f.Count == 0) != (f.Period == 0))) || (decide (f.Period < 0))))) rfl rfl ?_
   refine .mid 4 (K1 := fun e σ => Z4 e [(31, (vb ((((f.Count != (f.Core.length : Int)) || ((f.Count == 0) != (f.Period == 0))) || (decide (f.Period < 0))) || (decide (f.Period > 1099511627776))))), (1, (.ptr (b1 + 0) 4 0))] ∧ Has σ (b2 + 25) (b2 + 25) [.blk (b1 + 0) 25 (vF f)]) rfl ?_ ?_
   ·refine .split rfl rfl ?_ ?_ <;> intro hc3
    ·skip
     refine .pass rfl rfl rfl (.pass rfl rfl rfl (.pass rfl rfl rfl (.Ze (v := (vb true)) rfl rfl rfl (.nil ?_))))
     exact ⟨⟨or_T hc3, rfl, trivial⟩, H.weak (by omega) (Nat.le_refl _)⟩
    ·skip
     refine .wanted rfl rfl (.Z2 (off := 0) (fo := 0) H 0 rfl rfl rfl rfl rfl nofun rfl (.wanted rfl rfl (.ZQ (off := 0) (v := (vi f.Period)) H 0 rfl rfl rfl rfl rfl nofun rfl (.wanted rfl rfl (.int (m := f.Period) (m' := 1099511627776) (r := .bool (decide (f.Period > 1099511627776))) rfl rfl rfl rfl rfl ?_)))))
     refine .Zg (v := (vb (decide (f.Period > 1099511627776)))) rfl rfl rfl (.nil ?_)
     exact ⟨⟨or_F hc3, rfl, trivial⟩, H.weak (by omega) (Nat.le_refl _)⟩
   ·rintro e σ ⟨he, H⟩
    obtain ⟨e, rfl⟩ := he.ex
    refine .nila H fun H => ?_
    refine .whether (v := ((((f.Count != (f.Core.length : Int)) || ((f.Count == 0) != (f.Period == 0))) || (decide (f.Period < 0))) || (decide (f.Period > 1099511627776)))) rfl ?_ ?_ <;> intro hc4
    ·replace h := Z6 hc4 h
     refine .then (.Z0 1 rfl H fun b3 σ H => (.assign (v := (vb false)) rfl rfl (.nila H fun H => (.ret ?_))))
     replace h := sj h; subst h
     exact (Ends.H (xs := [(vb false)]) (.inr rfl) H (.tmp (v := (vb false)) rfl .nil) (.one (.c (.v _))))
    ·replace h := Z7 hc4 h
     refine .skip (.then (.then (.Z0 4 rfl H fun b4 σ H => (.Z2 (off := 0) (fo := 2) H 0 rfl rfl rfl rfl rfl nofun rfl (.ZQ (off := 2) (v := (vl (cL Span.cs) f.Core)) H 0 rfl rfl rfl rfl rfl nofun rfl ?_)))))
     refine .Z0B (c := (cL Span.cs)) (xs := f.Core) rfl rfl rfl (.move (v := (vi 0)) rfl rfl (.nila H fun H => (.inBlock ?_)))
     obtain ⟨y1, hj1, h⟩ := bind_some h
     obtain ⟨n1, hj1⟩ := Zc.1 hj1
     refine .mono (Runs.ZJ hj1 (fun s1 e σ => Z4 e [(1, (.ptr (b1 + 0) 4 0)), (33, (vl (cL Span.cs) f.Core)), (34, (vi (f.Core.length : Int))), (35, (vi s1))] ∧ Hs σ [.blk (b1 + 0) 25 (vF f)]) (fun y1 x e σ => (∃ a1, y1 = (.go a1) ∧ x = .exit 0 ∧ Z4 e [(1, (.ptr (b1 + 0) 4 0))] ∧ Hs σ [.blk (b1 + 0) 25 (vF f)]) ∨ (∃ r', y1 = (.ret r') ∧ x = .ret ∧ Ends CX Try.f17.results.toList (vb r') x e σ)) ⟨⟨rfl, rfl, rfl, rfl, trivial⟩, H⟩ ?_) ?_
     ·intro s1 e σ hI z h
      obtain ⟨he, H⟩ := hI
      obtain ⟨e, rfl⟩ := he.ex
      unfold Zj.s0 at h
      refine .then (.Z0 1 rfl H fun b5 σ H => (.int (m := s1) (m' := (f.Core.length : Int)) (r := .bool (decide (s1 < (f.Core.length : Int)))) rfl rfl rfl rfl rfl (.nila H fun H => (.then ?_))))
      refine .whether (v := (decide (s1 < (f.Core.length : Int)))) rfl ?_ ?_ <;> intro hc5
      ·replace h := Z6 hc5 h
       refine .skip (.then (.inBlock (.then (.Z0 3 rfl H fun b6 σ H => ?_))))
       obtain ⟨x1, q1, h⟩ := bind_some h
       refine .Z0C (c := (cL Span.cs)) (u := x1) rfl rfl q1 rfl rfl rfl rfl (.Z2H (u := (.sl (x1.map Span.cs))) rfl rfl rfl rfl (.assign (v := (vl Span.cs x1)) rfl rfl (.nila H fun H => (.then (.Z0 3 rfl H fun b7 σ H => ?_)))))
       refine .move (v := (vl Span.cs x1)) rfl rfl ?_
       obtain ⟨x2, q2, h⟩ := bind_some h
       refine .call (ys := [(vl Span.cs x1)]) (r := (vb x2)) rfl (Z65 q2) rfl (.not (b := x2) rfl rfl (.nila H fun H => ?_))
       refine .whether (v := (!x2)) rfl ?_ ?_ <;> intro hc6
       ·replace h := Z6 hc6 h
        refine .then (.Z0 1 rfl H fun b8 σ H => (.assign (v := (vb false)) rfl rfl (.nila H fun H => (.ret ?_))))
        replace h := sj h; subst h
        exact ⟨nofun, (.inr ⟨_, rfl, rfl, (Ends.H (xs := [(vb false)]) (.inr rfl) H (.tmp (v := (vb false)) rfl .nil) (.one (.c (.v _))))⟩)⟩
       ·replace h := Z7 hc6 h
        refine .skip (.Z0 2 rfl H fun b9 σ H => (.int (m := s1) (m' := 1) (r := .int .i64 (w64 (s1 + 1))) rfl rfl rfl rfl rfl (.move (v := (vi (w64 (s1 + 1)))) rfl rfl (.nila H fun H => ?_))))
        replace h := sj h; subst h
        exact ⟨rfl, ⟨rfl, rfl, rfl, rfl, trivial⟩, H⟩
      ·replace h := Z7 hc5 h
       refine .exit ?_
       replace h := sj h; subst h
       exact ⟨nofun, (.inl ⟨_, rfl, rfl, ⟨rfl, trivial⟩, H⟩)⟩
     ·rintro x e σ (⟨a2, rfl, rfl, he, H⟩ | ⟨r', rfl, rfl, hE⟩)
      ·skip
       replace h := jgo h
       obtain ⟨e, rfl⟩ := he.ex
       refine .then (.then (.Z0 4 rfl H fun b10 σ H => (.Z2 (off := 0) (fo := 3) H 0 rfl rfl rfl rfl rfl nofun rfl (.ZQ (off := 3) (v := (vl Granule.cs f.Odd)) H 0 rfl rfl rfl rfl rfl nofun rfl (.Z0B (c := Granule.cs) (xs := f.Odd) rfl rfl rfl ?_)))))
       refine .move (v := (vi 0)) rfl rfl (.nila H fun H => (.inBlock ?_))
       obtain ⟨y2, hj2, h⟩ := bind_some h
       obtain ⟨n2, hj2⟩ := Zc.1 hj2
       refine .mono (Runs.ZJ hj2 (fun s2 e σ => Z4 e [(1, (.ptr (b1 + 0) 4 0)), (44, (vl Granule.cs f.Odd)), (45, (vi (f.Odd.length : Int))), (46, (vi s2))] ∧ Hs σ [.blk (b1 + 0) 25 (vF f)]) (fun y2 x e σ => (∃ a3, y2 = (.go a3) ∧ x = .exit 2 ∧ Z4 e [] ∧ Hs σ []) ∨ (∃ r', y2 = (.ret r') ∧ x = .ret ∧ Ends CX Try.f17.results.toList (vb r') x e σ)) ⟨⟨rfl, rfl, rfl, rfl, trivial⟩, H⟩ ?_) ?_
       ·intro s2 e σ hI z h
        obtain ⟨he, H⟩ := hI
        obtain ⟨e, rfl⟩ := he.ex
        unfold Zj.s1 at h
        refine .then (.Z0 1 rfl H fun b11 σ H => (.int (m := s2) (m' := (f.Odd.length : Int)) (r := .bool (decide (s2 < (f.Odd.length : Int)))) rfl rfl rfl rfl rfl (.nila H fun H => (.then ?_))))
        refine .whether (v := (decide (s2 < (f.Odd.length : Int)))) rfl ?_ ?_ <;> intro hc7
        ·replace h := Z6 hc7 h
         refine .skip (.then (.inBlock (.then (.Z0 6 rfl H fun b12 σ H => (.move (v := (vi s2)) rfl rfl ?_)))))
         obtain ⟨x3, q3, h⟩ := bind_some h
         refine .Z0C (c := Granule.cs) (u := x3) rfl rfl q3 rfl rfl rfl rfl (.Z2F (cs := [(.int .i64 x3.Index), (.sl (x3.Ticks.map Span.cs))]) rfl rfl rfl rfl rfl rfl (.Z0t (cs := [(vi 0), .nils]) H (by omega) (by omega) rfl rfl fun σ H => (.assign (v := (vi s2)) rfl rfl (.Z0U (off := 0) (cells' := [(vi x3.Index), (vl Span.cs x3.Ticks)]) H 0 rfl rfl rfl rfl rfl rfl rfl rfl rfl nofun fun σ H => (.nila H fun H => ?_)))))
         refine .then (.Z2X 26 rfl (by kernel_rfl) H fun b13 σ H B13 => (.Z2 (off := 0) (fo := 1) H 0 rfl rfl rfl rfl rfl (fun _ => .inl ⟨B13 0 _ rfl _ rfl, nofun, (fun _ => by kernel_rfl)⟩) rfl (.ZQ (off := 1) (v := (vl Span.cs x3.Ticks)) H 0 rfl rfl rfl rfl rfl (fun _ => .inl ⟨B13 0 _ rfl _ rfl, nofun, (fun _ => by kernel_rfl)⟩) rfl ?_)))
         obtain ⟨x4, q4, h⟩ := bind_some h
         refine .call (ys := [(vl Span.cs x3.Ticks)]) (r := (vb x4)) rfl (Z65 q4) rfl (.not (b := x4) rfl rfl (.move (v := (vb (!x4))) rfl rfl ?_))
         refine .mid 5 (K1 := fun e σ => Z4 e [(60, (vb ((!x4) || (!(Zp x3.Index))))), (1, (.ptr (b1 + 0) 4 0)), (5, (vi s2)), (6, (.ptr (b12 + 3) 2 0)), (44, (vl Granule.cs f.Odd)), (45, (vi (f.Odd.length : Int))), (46, (vi s2))] ∧ Has σ (b13 + 10) (b13 + 26) [.blk (b12 + 3) 54 [(vi x3.Index), (vl Span.cs x3.Ticks)], .blk (b1 + 0) 25 (vF f)]) rfl ?_ ?_
         ·refine .split rfl rfl ?_ ?_ <;> intro hc8
          ·skip
           refine .pass rfl rfl rfl (.pass rfl rfl rfl (.pass rfl rfl rfl (.pass rfl rfl rfl (.Ze (v := (vb true)) rfl rfl rfl (.nil ?_)))))
           exact ⟨⟨or_T hc8, rfl, rfl, rfl, rfl, rfl, rfl, trivial⟩, H.weak (by omega) (Nat.le_refl _)⟩
          ·skip
           refine .wanted rfl rfl (.Z2 (off := 0) (fo := 0) H 0 rfl rfl rfl rfl rfl (fun _ => .inl ⟨B13 0 _ rfl _ rfl, nofun, (fun _ => by kernel_rfl)⟩) rfl (.wanted rfl rfl (.ZQ (off := 0) (v := (vi x3.Index)) H 0 rfl rfl rfl rfl rfl (fun _ => .inl ⟨B13 0 _ rfl _ rfl, nofun, (fun _ => by kernel_rfl)⟩) rfl (.wanted rfl rfl (.call (ys := [(vi x3.Index)]) (r := (vb (Zp x3.Index))) rfl (Z3v rfl) rfl ?_)))))
           refine .wanted rfl rfl (.not (b := (Zp x3.Index)) rfl rfl (.Zg (v := (vb (!(Zp x3.Index)))) rfl rfl rfl (.nil ?_)))
           exact ⟨⟨or_F hc8, rfl, rfl, rfl, rfl, rfl, rfl, trivial⟩, H.weak (by omega) (Nat.le_refl _)⟩
         ·rintro e σ ⟨he, H⟩
          obtain ⟨e, rfl⟩ := he.ex
          refine .move (v := (vb ((!x4) || (!(Zp x3.Index))))) rfl rfl ?_
          obtain ⟨y3, hj3, h⟩ := bind_some h
          refine .mid 15 (K1 := fun e σ => Z4 e [(76, (vb y3)), (1, (.ptr (b1 + 0) 4 0)), (44, (vl Granule.cs f.Odd)), (45, (vi (f.Odd.length : Int))), (46, (vi s2))] ∧ Has σ (b13 + 26) (b13 + 26) [.blk (b1 + 0) 25 (vF f)]) rfl ?_ ?_
          ·refine .split rfl rfl ?_ ?_ <;> intro hc9
           ·replace h := Z6 hc9 hj3
            refine .pass rfl rfl rfl (.pass rfl rfl rfl (.pass rfl rfl rfl (.Z0S rfl rfl rfl (.Z0S rfl rfl rfl (.Z0S rfl rfl rfl ?_)))))
            refine .Z0S rfl rfl rfl (.Z0S rfl rfl rfl (.Z0S rfl rfl rfl (.Z0S rfl rfl rfl (.Z0S rfl rfl rfl (.Z0S rfl rfl rfl ?_)))))
            refine .Z0S rfl rfl rfl (.pass rfl rfl rfl (.Ze (v := (vb true)) rfl rfl rfl (.nil ?_)))
            replace h := sj h; subst h
            exact ⟨⟨rfl, rfl, rfl, rfl, rfl, trivial⟩, (H.erase 0).weak (by omega) (Nat.le_refl _)⟩
           ·replace h := Z7 hc9 hj3
            refine .wanted rfl rfl (.move (v := (vi s2)) rfl rfl (.wanted rfl rfl (.int (m := s2) (m' := 0) (r := .bool (decide (s2 > 0))) rfl rfl rfl rfl rfl (.wanted rfl rfl (.move (v := (vb (decide (s2 > 0)))) rfl rfl ?_)))))
            obtain ⟨y4, hj4, h⟩ := bind_some h
            refine .mid 11 (K1 := fun e σ => Z4 e [(75, (vb y4)), (1, (.ptr (b1 + 0) 4 0)), (44, (vl Granule.cs f.Odd)), (45, (vi (f.Odd.length : Int))), (46, (vi s2)), (61, (vb false))] ∧ Has σ (b13 + 25) (b13 + 26) [.blk (b1 + 0) 25 (vF f)]) rfl ?_ ?_
            ·refine .split rfl rfl ?_ ?_ <;> intro hc10
             ·replace h := Z6 hc10 hj4
              refine .wanted rfl rfl (.Z2 (off := 0) (fo := 0) H 0 rfl rfl rfl rfl rfl (fun _ => .inl ⟨B13 0 _ rfl _ rfl, nofun, (fun _ => by kernel_rfl)⟩) rfl (.wanted rfl rfl (.ZQ (off := 0) (v := (vi x3.Index)) H 0 rfl rfl rfl rfl rfl (fun _ => .inl ⟨B13 0 _ rfl _ rfl, nofun, (fun _ => by kernel_rfl)⟩) rfl (.wanted rfl rfl (.Z2 (off := 0) (fo := 3) H 1 rfl rfl rfl rfl rfl (fun _ => .inl ⟨B13 1 _ rfl _ rfl, nofun, (fun _ => by kernel_rfl)⟩) rfl ?_)))))
              refine .wanted rfl rfl (.ZQ (off := 3) (v := (vl Granule.cs f.Odd)) H 1 rfl rfl rfl rfl rfl (fun _ => .inl ⟨B13 1 _ rfl _ rfl, nofun, (fun _ => by kernel_rfl)⟩) rfl (.wanted rfl rfl (.move (v := (vi s2)) rfl rfl (.wanted rfl rfl (.int (m := s2) (m' := 1) (r := .int .i64 (w64 (s2 - 1))) rfl rfl rfl rfl rfl ?_)))))
              refine .wanted rfl rfl ?_
              obtain ⟨x5, q5, h⟩ := bind_some h
              refine .Z0C (c := Granule.cs) (u := x5) rfl rfl q5 rfl rfl rfl rfl (.wanted rfl rfl (.Z14 rfl rfl rfl rfl (.wanted rfl rfl (.Z2H (u := (.int .i64 x5.Index)) rfl rfl rfl rfl (.wanted rfl rfl ?_)))))
              refine .int (m := x3.Index) (m' := x5.Index) (r := .bool (decide (x3.Index ≤ x5.Index))) rfl rfl rfl rfl rfl (.wanted rfl rfl (.Ze (v := (vb (decide (x3.Index ≤ x5.Index)))) rfl rfl rfl (.nil ?_)))
              replace h := sj h; subst h
              exact ⟨⟨rfl, rfl, rfl, rfl, rfl, rfl, trivial⟩, (H.erase 0).weak (by omega) (Nat.le_refl _)⟩
             ·replace h := Z7 hc10 hj4
              refine .pass rfl rfl rfl (.pass rfl rfl rfl (.pass rfl rfl rfl (.pass rfl rfl rfl (.pass rfl rfl rfl (.pass rfl rfl rfl ?_)))))
              refine .pass rfl rfl rfl (.pass rfl rfl rfl (.pass rfl rfl rfl (.pass rfl rfl rfl (.wanted rfl rfl (.Zg (v := (vb false)) rfl rfl rfl ?_)))))
              refine .nil ?_
              replace h := sj h; subst h
              exact ⟨⟨rfl, rfl, rfl, rfl, rfl, rfl, trivial⟩, (H.erase 0).weak (by omega) (Nat.le_refl _)⟩
            ·rintro e σ ⟨he, H⟩
             obtain ⟨e, rfl⟩ := he.ex
             refine .Zg (v := (vb y4)) rfl rfl rfl (.nil ?_)
             replace h := sj h; subst h
             exact ⟨⟨rfl, rfl, rfl, rfl, rfl, trivial⟩, H.weak (by omega) (Nat.le_refl _)⟩
          ·rintro e σ ⟨he, H⟩
           obtain ⟨e, rfl⟩ := he.ex
           refine .nila H fun H => ?_
           refine .whether (v := y3) rfl ?_ ?_ <;> intro hc11
           ·replace h := Z6 hc11 h
            refine .then (.Z0 1 rfl H fun b14 σ H => (.assign (v := (vb false)) rfl rfl (.nila H fun H => (.ret ?_))))
            replace h := sj h; subst h
            exact ⟨nofun, (.inr ⟨_, rfl, rfl, (Ends.H (xs := [(vb false)]) (.inr rfl) H (.tmp (v := (vb false)) rfl .nil) (.one (.c (.v _))))⟩)⟩
           ·replace h := Z7 hc11 h
            refine .skip (.Z0 2 rfl H fun b15 σ H => (.int (m := s2) (m' := 1) (r := .int .i64 (w64 (s2 + 1))) rfl rfl rfl rfl rfl (.move (v := (vi (w64 (s2 + 1)))) rfl rfl (.nila H fun H => ?_))))
            replace h := sj h; subst h
            exact ⟨rfl, ⟨rfl, rfl, rfl, rfl, trivial⟩, H⟩
        ·replace h := Z7 hc7 h
         refine .exit ?_
         replace h := sj h; subst h
         exact ⟨nofun, (.inl ⟨_, rfl, rfl, trivial, (H.erase 0)⟩)⟩
       ·rintro x e σ (⟨a4, rfl, rfl, he, H⟩ | ⟨r', rfl, rfl, hE⟩)
        ·skip
         replace h := jgo h
         obtain ⟨e, rfl⟩ := he.ex
         refine .then (.Z0 1 rfl H fun b16 σ H => (.assign (v := (vb true)) rfl rfl (.nila H fun H => (.ret ?_))))
         replace h := sj h; subst h
         exact (Ends.H (xs := [(vb true)]) (.inr rfl) H (.tmp (v := (vb true)) rfl .nil) (.one (.c (.v _))))
        ·skip
         replace h := jret h
         replace h := sj h; subst h
         exact hE
      ·skip
       replace h := jret h
       replace h := sj h; subst h
       exact hE

theorem gran_turns_fn {f : Form} {r : Bool} (h : Z0A f = some r) : Fn CX 18 [(.agg (vs (Form.cs f)))] (vb r) := by
 refine Fn.ends Try.func18 rfl rfl rfl rfl rfl rfl ?_
 have H : Hs (⟨0, fun _ => .none⟩ : Heap) [] := Has.nil (Nat.le_refl _)
 generalize (⟨0, fun _ => .none⟩ : Heap) = σ at H ⊢
 unfold Z0A at h
 refine .then (.Z0 2 rfl H fun b1 σ H => (.boxH (cs := (vF f)) H (by omega) (by omega) rfl rfl rfl fun σ H => (.assign (v := (vb false)) rfl rfl (.nila H fun H => (.then ?_)))))
 refine .Z0 1 rfl H fun b2 σ H => (.assign (v := .nils) rfl rfl (.nila H fun H => (.then (.then (.Z0 4 rfl H fun b3 σ H => ?_)))))
 refine .Z2 (off := 0) (fo := 2) H 0 rfl rfl rfl rfl rfl nofun rfl (.ZQ (off := 2) (v := (vl (cL Span.cs) f.Core)) H 0 rfl rfl rfl rfl rfl nofun rfl (.Z0B (c := (cL Span.cs)) (xs := f.Core) rfl rfl rfl (.move (v := (vi 0)) rfl rfl (.nila H fun H => (.inBlock ?_)))))
 replace H := H.pushNil 52 1 true
 obtain ⟨y1, hj1, h⟩ := bind_some h
 obtain ⟨n1, hj1⟩ := Zc.1 hj1
 refine .mono (Runs.ZJ hj1 (fun s2 e σ => ∃ (w3 : PV), Z4 e [(1, (.ptr (b1 + 0) 4 0)), (3, w3), (11, (vl (cL Span.cs) f.Core)), (12, (vi (f.Core.length : Int))), (13, (vi s2.1))] ∧ Hs σ [.sl w3 52 1 (s2.2.map (cL Span.cs)) true, .blk (b1 + 0) 25 (vF f)]) (fun y1 x e σ => ∃ (w4 : PV), x = .exit 0 ∧ Z4 e [(1, (.ptr (b1 + 0) 4 0)), (3, w4)] ∧ Hs σ [.sl w4 52 1 (y1.map (cL Span.cs)) true, .blk (b1 + 0) 25 (vF f)]) ⟨.nils, ⟨rfl, rfl, rfl, rfl, rfl, trivial⟩, H⟩ ?_) ?_
 ·intro s2 e σ hI z h
  obtain ⟨w3, he, H⟩ := hI
  obtain ⟨e, rfl⟩ := he.ex
  unfold Z0A.s0 at h
  refine .then (.Z0 1 rfl H fun b4 σ H => (.int (m := s2.1) (m' := (f.Core.length : Int)) (r := .bool (decide (s2.1 < (f.Core.length : Int)))) rfl rfl rfl rfl rfl (.nila H fun H => (.then ?_))))
  refine .whether (v := (decide (s2.1 < (f.Core.length : Int)))) rfl ?_ ?_ <;> intro hc1
  ·replace h := Z6 hc1 h
   refine .skip (.then ?_)
   obtain ⟨y2, hj2, h⟩ := bind_some h
   refine .mono (Q := fun x e σ => ∃ (w5 : PV), x = .normal ∧ Z4 e [(1, (.ptr (b1 + 0) 4 0)), (3, w5), (11, (vl (cL Span.cs) f.Core)), (12, (vi (f.Core.length : Int))), (13, (vi s2.1))] ∧ Hs σ [.sl w5 52 1 (y2.map (cL Span.cs)) true, .blk (b1 + 0) 25 (vF f)]) ?_ ?_
   ·replace h := hj2
    refine .inBlock ?_
    obtain ⟨y3, hj3, h⟩ := bind_some h
    refine .mono (Q := fun x e σ => ∃ (w6 : PV), x = .normal ∧ Z4 e [(1, (.ptr (b1 + 0) 4 0)), (3, w6), (11, (vl (cL Span.cs) f.Core)), (12, (vi (f.Core.length : Int))), (13, (vi s2.1))] ∧ Hs σ [.sl w6 52 1 (y3.map (cL Span.cs)) true, .blk (b1 + 0) 25 (vF f)]) ?_ ?_
    ·replace h := hj3
     refine .then (.Z0 3 rfl H fun b5 σ H => ?_)
     obtain ⟨x1, q1, h⟩ := bind_some h
     refine .Z0C (c := (cL Span.cs)) (u := x1) rfl rfl q1 rfl rfl rfl rfl (.Z2H (u := (.sl (x1.map Span.cs))) rfl rfl rfl rfl (.assign (v := (vl Span.cs x1)) rfl rfl (.nila H fun H => (.then (.Z0 3 rfl H fun b6 σ H => ?_)))))
     refine .move (v := (vl Span.cs x1)) rfl rfl (.Z0B (c := Span.cs) (xs := x1) rfl rfl rfl (.int (m := (x1.length : Int)) (m' := 0) (r := .bool (decide ((x1.length : Int) > 0))) rfl rfl rfl rfl rfl (.nila H fun H => ?_)))
     refine .whether (v := (decide ((x1.length : Int) > 0))) rfl ?_ ?_ <;> intro hc2
     ·replace h := Z6 hc2 h
      refine .Z0 5 rfl H fun b7 σ H => (.move (v := w3) rfl rfl (.move (v := (vl Span.cs x1)) rfl rfl (.Z2o (sz := 1) ([x1].map (cL Span.cs)) H (by omega) (by omega) rfl rfl rfl rfl rfl rfl rfl rfl rfl fun σ H => ?_)))
      obtain ⟨x2, q2, h⟩ := bind_some h
      refine .Z5u (c := (cL Span.cs)) (v := w3) (w := (.buf (b7 + 2) 1 1)) (xs := s2.2) (ys := [x1]) H (by omega) (by omega) 1 rfl rfl rfl (.s 0 rfl) q2 rfl rfl rfl rfl rfl nofun rfl fun w7 σ H => (.assign (v := w7) rfl rfl (.nila H fun H => ?_))
      replace h := sj h; subst h
      exact ⟨w7, rfl, ⟨rfl, rfl, rfl, rfl, rfl, trivial⟩, (H.erase 0)⟩
     ·replace h := Z7 hc2 h
      refine .skip ?_
      replace h := sj h; subst h
      exact ⟨w3, rfl, ⟨rfl, rfl, rfl, rfl, rfl, trivial⟩, H⟩
    ·rintro x e σ ⟨w8, rfl, he, H⟩
     obtain ⟨e, rfl⟩ := he.ex
     replace h := sj h; subst h
     exact ⟨w8, rfl, ⟨rfl, rfl, rfl, rfl, rfl, trivial⟩, H⟩
   ·rintro x e σ ⟨w9, rfl, he, H⟩
    obtain ⟨e, rfl⟩ := he.ex
    refine .Z0 2 rfl H fun b8 σ H => (.int (m := s2.1) (m' := 1) (r := .int .i64 (w64 (s2.1 + 1))) rfl rfl rfl rfl rfl (.move (v := (vi (w64 (s2.1 + 1)))) rfl rfl (.nila H fun H => ?_)))
    replace h := sj h; subst h
    exact ⟨rfl, w9, ⟨rfl, rfl, rfl, rfl, rfl, trivial⟩, H⟩
  ·replace h := Z7 hc1 h
   refine .exit ?_
   replace h := sj h; subst h
   exact ⟨nofun, ⟨w3, rfl, ⟨rfl, rfl, trivial⟩, H⟩⟩
 ·rintro x e σ ⟨w10, rfl, he, H⟩
  obtain ⟨e, rfl⟩ := he.ex
  refine .then (.then (.Z0 3 rfl H fun b9 σ H => (.move (v := w10) rfl rfl (.Z6Z (c := (cL Span.cs)) (xs := y1) H 0 rfl rfl rfl nofun rfl (.move (v := (vi 0)) rfl rfl ?_)))))
  refine .nila H fun H => (.inBlock ?_)
  obtain ⟨y4, hj4, h⟩ := bind_some h
  obtain ⟨n2, hj4⟩ := Zc.1 hj4
  refine .mono (Runs.ZJ hj4 (fun s3 e σ => Z4 e [(1, (.ptr (b1 + 0) 4 0)), (3, w10), (25, w10), (26, (vi (y1.length : Int))), (27, (vi s3))] ∧ Hs σ [.sl w10 52 1 (y1.map (cL Span.cs)) true, .blk (b1 + 0) 25 (vF f)]) (fun y4 x e σ => (∃ a1, y4 = (.go a1) ∧ x = .exit 2 ∧ Z4 e [] ∧ Hs σ []) ∨ (∃ r', y4 = (.ret r') ∧ x = .ret ∧ Ends CX Try.f18.results.toList (vb r') x e σ)) ⟨⟨rfl, rfl, rfl, rfl, rfl, trivial⟩, H⟩ ?_) ?_
  ·intro s3 e σ hI z h
   obtain ⟨he, H⟩ := hI
   obtain ⟨e, rfl⟩ := he.ex
   unfold Z0A.s1 at h
   refine .then (.Z0 1 rfl H fun b10 σ H => (.int (m := s3) (m' := (y1.length : Int)) (r := .bool (decide (s3 < (y1.length : Int)))) rfl rfl rfl rfl rfl (.nila H fun H => (.then ?_))))
   refine .whether (v := (decide (s3 < (y1.length : Int)))) rfl ?_ ?_ <;> intro hc3
   ·replace h := Z6 hc3 h
    refine .skip (.then ?_)
    obtain ⟨y5, hj5, h⟩ := bind_some h
    refine .mono (Q := fun x e σ => (∃ a2, y5 = (.go a2) ∧ x = .normal ∧ Z4 e [(1, (.ptr (b1 + 0) 4 0)), (3, w10), (25, w10), (26, (vi (y1.length : Int))), (27, (vi s3))] ∧ Hs σ [.sl w10 52 1 (y1.map (cL Span.cs)) true, .blk (b1 + 0) 25 (vF f)]) ∨ (∃ r', y5 = (.ret r') ∧ x = .ret ∧ Ends CX Try.f18.results.toList (vb r') x e σ)) ?_ ?_
    ·replace h := hj5
     refine .inBlock ?_
     obtain ⟨y6, hj6, h⟩ := bind_some h
     refine .mono (Q := fun x e σ => (∃ a3, y6 = (.go a3) ∧ x = .normal ∧ Z4 e [(1, (.ptr (b1 + 0) 4 0)), (3, w10), (25, w10), (26, (vi (y1.length : Int))), (27, (vi s3))] ∧ Hs σ [.sl w10 52 1 (y1.map (cL Span.cs)) true, .blk (b1 + 0) 25 (vF f)]) ∨ (∃ r', y6 = (.ret r') ∧ x = .ret ∧ Ends CX Try.f18.results.toList (vb r') x e σ)) ?_ ?_
     ·replace h := hj6
      refine .then (.Z0 5 rfl H fun b11 σ H => (.move (v := (vi s3)) rfl rfl ?_))
      obtain ⟨x3, q3, h⟩ := bind_some h
      refine .indexS H 0 rfl rfl rfl (at?_map q3) rfl rfl nofun rfl ?_; intro id1 hv1
      refine .loadS (id := id1) (j := 0) (w := (.sl (x3.map Span.cs))) H 0 rfl hv1 (by simp) (at?_map q3) rfl (by simp) rfl rfl rfl nofun rfl ?_
      refine .assign (v := (vi s3)) rfl rfl (.assign (v := (vl Span.cs x3)) rfl rfl (.nila H fun H => (.then (.Z0 10 rfl H fun b12 σ H => (.move (v := w10) rfl rfl ?_)))))
      refine .move (v := (vi s3)) rfl rfl (.int (m := s3) (m' := 1) (r := .int .i64 (w64 (s3 + 1))) rfl rfl rfl rfl rfl (.move (v := w10) rfl rfl (.Z6Z (c := (cL Span.cs)) (xs := y1) H 0 rfl rfl rfl nofun rfl ?_)))
      obtain ⟨u1, q4, h⟩ := bind_some h
      refine .rem (m := (w64 (s3 + 1))) (m' := (y1.length : Int)) rfl rfl (nz_ne q4) rfl ?_
      obtain ⟨x4, q5, h⟩ := bind_some h
      refine .indexS H 0 rfl rfl rfl (at?_map q5) rfl rfl nofun rfl ?_; intro id2 hv2
      refine .loadS (id := id2) (j := 0) (w := (.sl (x4.map Span.cs))) H 0 rfl hv2 (by simp) (at?_map q5) rfl (by simp) rfl rfl rfl nofun rfl ?_
      refine .assign (v := (vl Span.cs x4)) rfl rfl (.assign (v := (vi 0)) rfl rfl (.nila H fun H => (.then ?_)))
      obtain ⟨y7, hj7, h⟩ := bind_some h
      refine .mono (Q := fun x e σ => x = .normal ∧ Z4 e [(1, (.ptr (b1 + 0) 4 0)), (3, w10), (7, (vl Span.cs x3)), (8, (vl Span.cs x4)), (9, (vi y7)), (25, w10), (26, (vi (y1.length : Int))), (27, (vi s3))] ∧ Hs σ [.sl w10 52 1 (y1.map (cL Span.cs)) true, .blk (b1 + 0) 25 (vF f)]) ?_ ?_
      ·replace h := hj7
       refine .then (.Z0 5 rfl H fun b13 σ H => (.move (v := (vi s3)) rfl rfl (.int (m := s3) (m' := 1) (r := .int .i64 (w64 (s3 + 1))) rfl rfl rfl rfl rfl (.move (v := w10) rfl rfl (.Z6Z (c := (cL Span.cs)) (xs := y1) H 0 rfl rfl rfl nofun rfl ?_)))))
       refine .int (m := (w64 (s3 + 1))) (m' := (y1.length : Int)) (r := .bool ((w64 (s3 + 1)) == (y1.length : Int))) rfl rfl rfl rfl rfl (.nila H fun H => ?_)
       refine .whether (v := ((w64 (s3 + 1)) == (y1.length : Int))) rfl ?_ ?_ <;> intro hc4
       ·replace h := Z6 hc4 h
        refine .Z0 3 rfl H fun b14 σ H => (.Z2 (off := 0) (fo := 0) H 1 rfl rfl rfl rfl rfl nofun rfl (.ZQ (off := 0) (v := (vi f.Period)) H 1 rfl rfl rfl rfl rfl nofun rfl (.assign (v := (vi f.Period)) rfl rfl (.nila H fun H => ?_))))
        replace h := sj h; subst h
        exact ⟨rfl, ⟨rfl, rfl, rfl, rfl, rfl, rfl, rfl, rfl, trivial⟩, H⟩
       ·replace h := Z7 hc4 h
        refine .skip ?_
        replace h := sj h; subst h
        exact ⟨rfl, ⟨rfl, rfl, rfl, rfl, rfl, rfl, rfl, rfl, trivial⟩, H⟩
      ·rintro x e σ ⟨rfl, he, H⟩
       obtain ⟨e, rfl⟩ := he.ex
       refine .then (.Z2X 14 rfl (by kernel_rfl) H fun b15 σ H B15 => (.move (v := (vl Span.cs x3)) rfl rfl (.move (v := (vl Span.cs x3)) rfl rfl (.Z0B (c := Span.cs) (xs := x3) rfl rfl rfl (.int (m := (x3.length : Int)) (m' := 1) (r := .int .i64 (w64 ((x3.length : Int) - 1))) rfl rfl rfl rfl rfl ?_)))))
       obtain ⟨x5, q6, h⟩ := bind_some h
       refine .Z0C (c := Span.cs) (u := x5) rfl rfl q6 rfl rfl rfl rfl (.Z14 rfl rfl rfl rfl (.Z2H (u := (.int .i64 x5.To)) rfl rfl rfl rfl (.move (v := (vl Span.cs x4)) rfl rfl ?_)))
       obtain ⟨x6, q7, h⟩ := bind_some h
       refine .Z0C (c := Span.cs) (u := x6) rfl rfl q7 rfl rfl rfl rfl (.Z14 rfl rfl rfl rfl (.Z2H (u := (.int .i64 x6.From)) rfl rfl rfl rfl (.move (v := (vi y7)) rfl rfl (.int (m := x6.From) (m' := y7) (r := .int .i64 (w64 (x6.From + y7))) rfl rfl rfl rfl rfl (.int (m := x5.To) (m' := (w64 (x6.From + y7))) (r := .bool (decide (x5.To ≥ (w64 (x6.From + y7))))) rfl rfl rfl rfl rfl ?_)))))
       refine .nila H fun H => ?_
       refine .whether (v := (decide (x5.To ≥ (w64 (x6.From + y7))))) rfl ?_ ?_ <;> intro hc5
       ·replace h := Z6 hc5 h
        refine .then (.Z0 1 rfl H fun b16 σ H => (.assign (v := (vb false)) rfl rfl (.nila H fun H => (.ret ?_))))
        replace h := sj h; subst h
        exact (.inr ⟨_, rfl, rfl, (Ends.H (xs := [(vb false)]) (.inr rfl) H (.tmp (v := (vb false)) rfl .nil) (.one (.c (.v _))))⟩)
       ·replace h := Z7 hc5 h
        refine .skip ?_
        replace h := sj h; subst h
        exact (.inl ⟨_, rfl, rfl, ⟨rfl, rfl, rfl, rfl, rfl, trivial⟩, H⟩)
     ·rintro x e σ (⟨a4, rfl, rfl, he, H⟩ | ⟨r', rfl, rfl, hE⟩)
      ·skip
       replace h := jgo h
       obtain ⟨e, rfl⟩ := he.ex
       replace h := sj h; subst h
       exact (.inl ⟨_, rfl, rfl, ⟨rfl, rfl, rfl, rfl, rfl, trivial⟩, H⟩)
      ·skip
       replace h := jret h
       replace h := sj h; subst h
       exact (.inr ⟨_, rfl, rfl, hE⟩)
    ·rintro x e σ (⟨a5, rfl, rfl, he, H⟩ | ⟨r', rfl, rfl, hE⟩)
     ·skip
      replace h := jgo h
      obtain ⟨e, rfl⟩ := he.ex
      refine .Z0 2 rfl H fun b17 σ H => (.int (m := s3) (m' := 1) (r := .int .i64 (w64 (s3 + 1))) rfl rfl rfl rfl rfl (.move (v := (vi (w64 (s3 + 1)))) rfl rfl (.nila H fun H => ?_)))
      replace h := sj h; subst h
      exact ⟨rfl, ⟨rfl, rfl, rfl, rfl, rfl, trivial⟩, H⟩
     ·skip
      replace h := jret h
      replace h := sj h; subst h
      exact ⟨nofun, (.inr ⟨_, rfl, rfl, hE⟩)⟩
   ·replace h := Z7 hc3 h
    refine .exit ?_
    replace h := sj h; subst h
    exact ⟨nofun, (.inl ⟨_, rfl, rfl, trivial, ((H.erase 1).erase 0)⟩)⟩
  ·rintro x e σ (⟨a6, rfl, rfl, he, H⟩ | ⟨r', rfl, rfl, hE⟩)
   ·skip
    replace h := jgo h
    obtain ⟨e, rfl⟩ := he.ex
    refine .then (.Z0 1 rfl H fun b18 σ H => (.assign (v := (vb true)) rfl rfl (.nila H fun H => (.ret ?_))))
    replace h := sj h; subst h
    exact (Ends.H (xs := [(vb true)]) (.inr rfl) H (.tmp (v := (vb true)) rfl .nil) (.one (.c (.v _))))
   ·skip
    replace h := jret h
    replace h := sj h; subst h
    exact hE

theorem Z1L {x' : (List Granule)} {target : Int} {cmp : Granule → Int → Option Int} {C : List Res} {cv0 : PV} (hs0 : cv0.still = true) (hp0 : cv0.pure = true → C = []) (hf0 : ∀ z0 z1 y, cmp z0 z1 = some y → CloH CX cv0 [(.agg (vs (Granule.cs z0))), (vi z1)] (vi y) C) {r : Int × Bool} (h : Z5 x' target cmp = some r) : FnH CX 66 [(vl Granule.cs x'), (vi target), cv0] (.tup [(vi r.1), (vb r.2)]) C := by
 refine FnH.of Try.func66 rfl rfl rfl rfl (Z2W rfl (Z2W rfl (Z2W hs0 all_nil))) rfl (fun h => hp0 (Z39 h 2 rfl)) ?_
 intro σ L hC H
 unfold Z5 at h
 refine .then (.Z0 2 rfl H fun b1 σ H => (.assign (v := (vi 0)) rfl rfl (.assign (v := (vb false)) rfl rfl (.nila H fun H => (.then ?_)))))
 refine .Z0 3 rfl H fun b2 σ H => (.move (v := (vl Granule.cs x')) rfl rfl (.Z0B (c := Granule.cs) (xs := x') rfl rfl rfl (.assign (v := (vi (x'.length : Int))) rfl rfl (.nila H fun H => (.then ?_)))))
 refine .Z0 3 rfl H fun b3 σ H => (.move (v := (vi (x'.length : Int))) rfl rfl (.assign (v := (vi 0)) rfl rfl (.assign (v := (vi (x'.length : Int))) rfl rfl (.nila H fun H => (.then ?_)))))
 refine .inBlock ?_
 obtain ⟨y1, hj1, h⟩ := bind_some h
 obtain ⟨n1, hj1⟩ := Zc.1 hj1
 refine .mono (Runs.ZJ hj1 (fun s1 e σ => Z4 e [(0, (vl Granule.cs x')), (1, (vi target)), (2, cv0), (8, (vi (x'.length : Int))), (9, (vi s1.1)), (10, (vi s1.2))] ∧ Hs σ (L)) (fun y1 x e σ => x = .exit 0 ∧ Z4 e [(0, (vl Granule.cs x')), (1, (vi target)), (2, cv0), (8, (vi (x'.length : Int))), (9, (vi y1))] ∧ Hs σ (L)) ⟨⟨rfl, rfl, rfl, rfl, rfl, rfl, trivial⟩, H⟩ ?_) ?_
 ·intro s1 e σ hI z h
  obtain ⟨he, H⟩ := hI
  obtain ⟨e, rfl⟩ := he.ex
  unfold Z5.s0 at h
  refine .then (.then (.Z0 3 rfl H fun b4 σ H => (.move (v := (vi s1.1)) rfl rfl (.move (v := (vi s1.2)) rfl rfl (.int (m := s1.1) (m' := s1.2) (r := .bool (decide (s1.1 < s1.2))) rfl rfl rfl rfl rfl ?_)))))
  refine .nila H fun H => ?_
  refine .whether (v := (decide (s1.1 < s1.2))) rfl ?_ ?_ <;> intro hc1
  ·replace h := Z6 hc1 h
   refine .skip (.inBlock ?_)
   obtain ⟨y2, hj2, h⟩ := bind_some h
   refine .mono (Q := fun x e σ => x = .normal ∧ Z4 e [(0, (vl Granule.cs x')), (1, (vi target)), (2, cv0), (8, (vi (x'.length : Int))), (9, (vi y2.1)), (10, (vi y2.2))] ∧ Hs σ (L)) ?_ ?_
   ·replace h := hj2
    refine .then (.Z0 7 rfl H fun b5 σ H => (.move (v := (vi s1.1)) rfl rfl (.move (v := (vi s1.2)) rfl rfl (.int (m := s1.1) (m' := s1.2) (r := .int .i64 (w64 (s1.1 + s1.2))) rfl rfl rfl rfl rfl (.conv (m := (w64 (s1.1 + s1.2))) rfl rfl rfl rfl ?_)))))
    refine .shr (m := (IntKind.u64.wrap (w64 (s1.1 + s1.2)))) (m' := 1) rfl rfl (by decide) rfl (.conv (m := ((IntKind.u64.wrap (w64 (s1.1 + s1.2))).fdiv (2 ^ 1))) rfl rfl rfl rfl (.assign (v := (vi (w64 ((IntKind.u64.wrap (w64 (s1.1 + s1.2))).fdiv (2 ^ 1))))) rfl rfl (.nila H fun H => (.then (.Z0 8 rfl H fun b6 σ H => ?_)))))
    refine .move (v := cv0) rfl rfl (.move (v := (vl Granule.cs x')) rfl rfl (.move (v := (vi (w64 ((IntKind.u64.wrap (w64 (s1.1 + s1.2))).fdiv (2 ^ 1))))) rfl rfl ?_))
    obtain ⟨x1, q1, h⟩ := bind_some h
    refine .Z0C (c := Granule.cs) (u := x1) rfl rfl q1 rfl rfl rfl rfl (.Z2F (cs := [(.int .i64 x1.Index), (.sl (x1.Ticks.map Span.cs))]) rfl rfl rfl rfl rfl rfl (.move (v := (vi target)) rfl rfl ?_))
    obtain ⟨x2, q2, h⟩ := bind_some h
    refine .callV (cv := cv0) (ys := [(.agg (vs (Granule.cs x1))), (vi target)]) (r := (vi x2)) H rfl rfl (hf0 x1 target _ q2) hC nofun rfl fun σ H => (.int (m := x2) (m' := 0) (r := .bool (decide (x2 < 0))) rfl rfl rfl rfl rfl (.nila H fun H => ?_))
    refine .whether (v := (decide (x2 < 0))) rfl ?_ ?_ <;> intro hc2
    ·replace h := Z6 hc2 h
     refine .Z0 3 rfl H fun b7 σ H => (.move (v := (vi (w64 ((IntKind.u64.wrap (w64 (s1.1 + s1.2))).fdiv (2 ^ 1))))) rfl rfl (.int (m := (w64 ((IntKind.u64.wrap (w64 (s1.1 + s1.2))).fdiv (2 ^ 1)))) (m' := 1) (r := .int .i64 (w64 ((w64 ((IntKind.u64.wrap (w64 (s1.1 + s1.2))).fdiv (2 ^ 1))) + 1))) rfl rfl rfl rfl rfl (.assign (v := (vi (w64 ((w64 ((IntKind.u64.wrap (w64 (s1.1 + s1.2))).fdiv (2 ^ 1))) + 1)))) rfl rfl (.nila H fun H => ?_))))
     replace h := sj h; subst h
     exact ⟨rfl, ⟨rfl, rfl, rfl, rfl, rfl, rfl, trivial⟩, H⟩
    ·replace h := Z7 hc2 h
     refine .Z0 2 rfl H fun b8 σ H => (.move (v := (vi (w64 ((IntKind.u64.wrap (w64 (s1.1 + s1.2))).fdiv (2 ^ 1))))) rfl rfl (.assign (v := (vi (w64 ((IntKind.u64.wrap (w64 (s1.1 + s1.2))).fdiv (2 ^ 1))))) rfl rfl (.nila H fun H => ?_)))
     replace h := sj h; subst h
     exact ⟨rfl, ⟨rfl, rfl, rfl, rfl, rfl, rfl, trivial⟩, H⟩
   ·rintro x e σ ⟨rfl, he, H⟩
    obtain ⟨e, rfl⟩ := he.ex
    replace h := sj h; subst h
    exact ⟨rfl, ⟨rfl, rfl, rfl, rfl, rfl, rfl, trivial⟩, H⟩
  ·replace h := Z7 hc1 h
   refine .exit ?_
   replace h := sj h; subst h
   exact ⟨nofun, ⟨rfl, ⟨rfl, rfl, rfl, rfl, rfl, trivial⟩, H⟩⟩
 ·rintro x e σ ⟨rfl, he, H⟩
  obtain ⟨e, rfl⟩ := he.ex
  refine .then (.Z0 16 rfl H fun b9 σ H => (.move (v := (vi y1)) rfl rfl (.move (v := (vi y1)) rfl rfl (.move (v := (vi (x'.length : Int))) rfl rfl (.int (m := y1) (m' := (x'.length : Int)) (r := .bool (decide (y1 < (x'.length : Int)))) rfl rfl rfl rfl rfl ?_)))))
  refine .move (v := (vb (decide (y1 < (x'.length : Int))))) rfl rfl ?_
  obtain ⟨y3, hj3, h⟩ := bind_some h
  refine .mid 9 (K1 := fun e σ => Z4 e [(48, (vb y3)), (35, (vi y1))] ∧ Has σ (b9 + 14) (b9 + 16) (L)) rfl ?_ ?_
  ·refine .split rfl rfl ?_ ?_ <;> intro hc3
   ·replace h := Z6 hc3 hj3
    refine .wanted rfl rfl (.move (v := cv0) rfl rfl (.wanted rfl rfl (.move (v := (vl Granule.cs x')) rfl rfl (.wanted rfl rfl (.move (v := (vi y1)) rfl rfl ?_)))))
    refine .wanted rfl rfl ?_
    obtain ⟨x3, q3, h⟩ := bind_some h
    refine .Z0C (c := Granule.cs) (u := x3) rfl rfl q3 rfl rfl rfl rfl (.wanted rfl rfl (.Z2F (cs := [(.int .i64 x3.Index), (.sl (x3.Ticks.map Span.cs))]) rfl rfl rfl rfl rfl rfl (.wanted rfl rfl (.move (v := (vi target)) rfl rfl (.wanted rfl rfl ?_)))))
    obtain ⟨x4, q4, h⟩ := bind_some h
    refine .callV (cv := cv0) (ys := [(.agg (vs (Granule.cs x3))), (vi target)]) (r := (vi x4)) H rfl rfl (hf0 x3 target _ q4) hC nofun rfl fun σ H => (.wanted rfl rfl (.int (m := x4) (m' := 0) (r := .bool (x4 == 0)) rfl rfl rfl rfl rfl (.Ze (v := (vb (x4 == 0))) rfl rfl rfl (.nil ?_))))
    replace h := sj h; subst h
    exact ⟨⟨rfl, rfl, trivial⟩, H.weak (by omega) (Nat.le_refl _)⟩
   ·replace h := Z7 hc3 hj3
    refine .pass rfl rfl rfl (.pass rfl rfl rfl (.pass rfl rfl rfl (.pass rfl rfl rfl (.pass rfl rfl rfl (.pass rfl rfl rfl ?_)))))
    refine .pass rfl rfl rfl (.pass rfl rfl rfl (.Zg (v := (vb false)) rfl rfl rfl (.nil ?_)))
    replace h := sj h; subst h
    exact ⟨⟨rfl, rfl, trivial⟩, H.weak (by omega) (Nat.le_refl _)⟩
  ·rintro e σ ⟨he, H⟩
   obtain ⟨e, rfl⟩ := he.ex
   refine .assign (v := (vi y1)) rfl rfl (.assign (v := (vb y3)) rfl rfl (.nila H fun H => (.ret ?_)))
   replace h := sj h; subst h
   exact (EndsH.H (xs := [(vi y1), (vb y3)]) (.inr rfl) H (.tmp (v := (vi y1)) rfl (.tmp (v := (vb y3)) rfl .nil)) (.two (.cons (.c (.v _)) (.cons (.c (.v _)) .nil))) 0 rfl)

theorem Z4y {x' : Int} {r : Bool} (h : Z01 x' = r) : Fn CX 75 [(vi x')] (vb r) := by
 refine Fn.ends Try.func75 rfl rfl rfl rfl rfl rfl ?_
 have H : Hs (⟨0, fun _ => .none⟩ : Heap) [] := Has.nil (Nat.le_refl _)
 generalize (⟨0, fun _ => .none⟩ : Heap) = σ at H ⊢
 unfold Z01 at h
 refine .then (.Z0 1 rfl H fun b1 σ H => (.assign (v := (vb false)) rfl rfl (.nila H fun H => (.then (.Z0 4 rfl H fun b2 σ H => ?_)))))
 refine .move (v := (vi x')) rfl rfl (.move (v := (vi x')) rfl rfl (.int (m := x') (m' := x') (r := .bool (x' != x')) rfl rfl rfl rfl rfl (.assign (v := (vb (x' != x'))) rfl rfl (.nila H fun H => (.ret ?_)))))
 subst h
 exact (Ends.H (xs := [(vb (x' != x'))]) (.inr rfl) H (.tmp (v := (vb (x' != x'))) rfl .nil) (.one (.c (.v _))))

theorem Z6u {x' : Int} {y : Int} {r : Int} (h : Z0P x' y = r) : Fn CX 68 [(vi x'), (vi y)] (vi r) := by
 refine Fn.ends Try.func68 rfl rfl rfl rfl rfl rfl ?_
 have H : Hs (⟨0, fun _ => .none⟩ : Heap) [] := Has.nil (Nat.le_refl _)
 generalize (⟨0, fun _ => .none⟩ : Heap) = σ at H ⊢
 unfold Z0P at h
 refine .then (.Z0 1 rfl H fun b1 σ H => (.assign (v := (vi 0)) rfl rfl (.nila H fun H => (.then (.Z0 3 rfl H fun b2 σ H => ?_)))))
 refine .move (v := (vi x')) rfl rfl (.call (ys := [(vi x')]) (r := (vb (Z01 x'))) rfl (Z4y rfl) rfl (.assign (v := (vb (Z01 x'))) rfl rfl (.nila H fun H => (.then (.Z0 3 rfl H fun b3 σ H => ?_)))))
 refine .move (v := (vi y)) rfl rfl (.call (ys := [(vi y)]) (r := (vb (Z01 y))) rfl (Z4y rfl) rfl (.assign (v := (vb (Z01 y))) rfl rfl (.nila H fun H => (.then (.then ?_)))))
 refine .Z0 1 rfl H fun b4 σ H => (.move (v := (vb (Z01 x'))) rfl rfl (.nila H fun H => ?_))
 refine .whether (v := (Z01 x')) rfl ?_ ?_ <;> intro hc1
 ·replace h := Z6 hc1 h
  refine .then (.then (.Z0 1 rfl H fun b5 σ H => (.move (v := (vb (Z01 y))) rfl rfl (.nila H fun H => ?_))))
  refine .whether (v := (Z01 y)) rfl ?_ ?_ <;> intro hc2
  ·replace h := Z6 hc2 h
   refine .then (.Z0 1 rfl H fun b6 σ H => (.assign (v := (vi 0)) rfl rfl (.nila H fun H => (.ret ?_))))
   subst h
   exact (Ends.H (xs := [(vi 0)]) (.inr rfl) H (.tmp (v := (vi 0)) rfl .nil) (.one (.c (.v _))))
  ·replace h := Z7 hc2 h
   refine .skip (.then (.Z0 1 rfl H fun b7 σ H => (.assign (v := (vi (-1))) rfl rfl (.nila H fun H => (.ret ?_)))))
   subst h
   exact (Ends.H (xs := [(vi (-1))]) (.inr rfl) H (.tmp (v := (vi (-1))) rfl .nil) (.one (.c (.v _))))
 ·replace h := Z7 hc1 h
  refine .skip (.then (.then (.Z0 1 rfl H fun b8 σ H => (.move (v := (vb (Z01 y))) rfl rfl (.nila H fun H => ?_)))))
  refine .whether (v := (Z01 y)) rfl ?_ ?_ <;> intro hc3
  ·replace h := Z6 hc3 h
   refine .then (.Z0 1 rfl H fun b9 σ H => (.assign (v := (vi 1)) rfl rfl (.nila H fun H => (.ret ?_))))
   subst h
   exact (Ends.H (xs := [(vi 1)]) (.inr rfl) H (.tmp (v := (vi 1)) rfl .nil) (.one (.c (.v _))))
  ·replace h := Z7 hc3 h
   refine .skip (.then (.then (.Z0 3 rfl H fun b10 σ H => (.move (v := (vi x')) rfl rfl (.move (v := (vi y)) rfl rfl ?_)))))
   refine .int (m := x') (m' := y) (r := .bool (decide (x' < y))) rfl rfl rfl rfl rfl (.nila H fun H => ?_)
   refine .whether (v := (decide (x' < y))) rfl ?_ ?_ <;> intro hc4
   ·replace h := Z6 hc4 h
    refine .then (.Z0 1 rfl H fun b11 σ H => (.assign (v := (vi (-1))) rfl rfl (.nila H fun H => (.ret ?_))))
    subst h
    exact (Ends.H (xs := [(vi (-1))]) (.inr rfl) H (.tmp (v := (vi (-1))) rfl .nil) (.one (.c (.v _))))
   ·replace h := Z7 hc4 h
    refine .skip (.then (.then (.Z0 3 rfl H fun b12 σ H => (.move (v := (vi x')) rfl rfl (.move (v := (vi y)) rfl rfl ?_)))))
    refine .int (m := x') (m' := y) (r := .bool (decide (x' > y))) rfl rfl rfl rfl rfl (.nila H fun H => ?_)
    refine .whether (v := (decide (x' > y))) rfl ?_ ?_ <;> intro hc5
    ·replace h := Z6 hc5 h
     refine .then (.Z0 1 rfl H fun b13 σ H => (.assign (v := (vi 1)) rfl rfl (.nila H fun H => (.ret ?_))))
     subst h
     exact (Ends.H (xs := [(vi 1)]) (.inr rfl) H (.tmp (v := (vi 1)) rfl .nil) (.one (.c (.v _))))
    ·replace h := Z7 hc5 h
     refine .skip (.then (.Z0 1 rfl H fun b14 σ H => (.assign (v := (vi 0)) rfl rfl (.nila H fun H => (.ret ?_)))))
     subst h
     exact (Ends.H (xs := [(vi 0)]) (.inr rfl) H (.tmp (v := (vi 0)) rfl .nil) (.one (.c (.v _))))

theorem gran_odd_1_fn {g : Granule} {i : Int} {r : Int} (h : Z2m g i = r) : Fn CX 67 [(.agg (vs (Granule.cs g))), (vi i)] (vi r) := by
 refine Fn.ends Try.func67 rfl rfl rfl rfl rfl rfl ?_
 have H : Hs (⟨0, fun _ => .none⟩ : Heap) [] := Has.nil (Nat.le_refl _)
 generalize (⟨0, fun _ => .none⟩ : Heap) = σ at H ⊢
 unfold Z2m at h
 refine .then (.Z0 2 rfl H fun b1 σ H => (.boxH (cs := [(vi g.Index), (vl Span.cs g.Ticks)]) H (by omega) (by omega) rfl rfl rfl fun σ H => (.assign (v := (vi 0)) rfl rfl (.nila H fun H => (.then ?_)))))
 refine .Z0 5 rfl H fun b2 σ H => (.Z2 (off := 0) (fo := 0) H 0 rfl rfl rfl rfl rfl nofun rfl (.ZQ (off := 0) (v := (vi g.Index)) H 0 rfl rfl rfl rfl rfl nofun rfl (.move (v := (vi i)) rfl rfl (.call (ys := [(vi g.Index), (vi i)]) (r := (vi (Z0P g.Index i))) rfl (Z6u rfl) rfl (.assign (v := (vi (Z0P g.Index i))) rfl rfl ?_)))))
 refine .nila H fun H => (.ret ?_)
 subst h
 exact (Ends.H (xs := [(vi (Z0P g.Index i))]) (.inr rfl) H (.tmp (v := (vi (Z0P g.Index i))) rfl .nil) (.one (.c (.v _))))

theorem Z8T {f : Form} {i : Int} {r : Int × Bool} (h : Z3i f i = some r) : Fn CX 57 [(.agg (vs (Form.cs f))), (vi i)] (.tup [(vi r.1), (vb r.2)]) := by
 refine Fn.ends Try.func57 rfl rfl rfl rfl rfl rfl ?_
 have H : Hs (⟨0, fun _ => .none⟩ : Heap) [] := Has.nil (Nat.le_refl _)
 generalize (⟨0, fun _ => .none⟩ : Heap) = σ at H ⊢
 unfold Z3i at h
 refine .then (.Z0 3 rfl H fun b1 σ H => (.boxH (cs := (vF f)) H (by omega) (by omega) rfl rfl rfl fun σ H => (.assign (v := (vi 0)) rfl rfl (.assign (v := (vb false)) rfl rfl (.nila H fun H => ?_)))))
 refine .then (.Z0 8 rfl H fun b2 σ H => (.Z2 (off := 0) (fo := 3) H 0 rfl rfl rfl rfl rfl nofun rfl (.ZQ (off := 3) (v := (vl Granule.cs f.Odd)) H 0 rfl rfl rfl rfl rfl nofun rfl (.move (v := (vi i)) rfl rfl ?_))))
 obtain ⟨x1, q1, h⟩ := bind_some h
 refine .Z6V (ys := [(vl Granule.cs f.Odd), (vi i), (.v (.fn 67))]) (r := (.tup [(vi x1.1), (vb x1.2)])) H rfl (Z1L (C := []) rfl (fun _ => rfl) (fun z0 z1 y hz => (CloH.fn (Fn.toH (gran_odd_1_fn (Option.some.inj hz)) _))) q1) .nil nofun rfl fun σ H => (.extract (v := (vi x1.1)) rfl rfl rfl (.extract (v := (vb x1.2)) rfl rfl rfl (.assign (v := (vi x1.1)) rfl rfl (.assign (v := (vb x1.2)) rfl rfl (.nila H fun H => ?_)))))
 refine .ret ?_
 replace h := sj h; subst h
 exact (Ends.H (xs := [(vi x1.1), (vb x1.2)]) (.inr rfl) H (.tmp (v := (vi x1.1)) rfl (.tmp (v := (vb x1.2)) rfl .nil)) (.two (.cons (.c (.v _)) (.cons (.c (.v _)) .nil))))

theorem Z6i {a : Int} {b : Int} {r : Int × Int × Int} (h : Z15 a b = some r) : Fn CX 58 [(vi a), (vi b)] (.tup [(vi r.1), (vi r.2.1), (vi r.2.2)]) := by
 refine Fn.ends Try.func58 rfl rfl rfl rfl rfl rfl ?_
 have H : Hs (⟨0, fun _ => .none⟩ : Heap) [] := Has.nil (Nat.le_refl _)
 generalize (⟨0, fun _ => .none⟩ : Heap) = σ at H ⊢
 unfold Z15 at h
 refine .then (.Z0 3 rfl H fun b1 σ H => (.assign (v := (vi 0)) rfl rfl (.assign (v := (vi 0)) rfl rfl (.assign (v := (vi 0)) rfl rfl (.nila H fun H => ?_)))))
 refine .then (.inBlock (.then (.Z0 3 rfl H fun b2 σ H => (.move (v := (vi b)) rfl rfl (.int (m := b) (m' := 0) (r := .bool (b == 0)) rfl rfl rfl rfl rfl ?_)))))
 refine .assign (v := (vb (b == 0))) rfl rfl (.nila H fun H => ?_)
 refine .whether (v := (b == 0)) rfl ?_ ?_ <;> intro hc1
 ·replace h := Z6 hc1 h
  refine .then (.Z0 3 rfl H fun b3 σ H => (.assign (v := (vi 0)) rfl rfl (.assign (v := (vi 0)) rfl rfl (.assign (v := (vi 11)) rfl rfl (.nila H fun H => ?_)))))
  refine .ret ?_
  replace h := sj h; subst h
  exact (Ends.H (xs := [(vi 0), (vi 0), (vi 11)]) (.inr rfl) H (.tmp (v := (vi 0)) rfl (.tmp (v := (vi 0)) rfl (.tmp (v := (vi 11)) rfl .nil))) (.two (.cons (.c (.v _)) (.cons (.c (.v _)) (.cons (.c (.v _)) .nil)))))
 ·replace h := Z7 hc1 h
  refine .then (.Z0 7 rfl H fun b4 σ H => (.move (v := (vi b)) rfl rfl (.int (m := b) (m' := (-1)) (r := .bool (b == (-1))) rfl rfl rfl rfl rfl (.move (v := (vb (b == (-1)))) rfl rfl ?_))))
  refine .mid 3 (K1 := fun e σ => Z4 e [(18, (vb ((b == (-1)) && (a == (-9223372036854775808))))), (0, (vi a)), (1, (vi b))] ∧ Has σ (b4 + 6) (b4 + 7) []) rfl ?_ ?_
  ·refine .split rfl rfl ?_ ?_ <;> intro hc2
   ·skip
    refine .wanted rfl rfl (.move (v := (vi a)) rfl rfl (.wanted rfl rfl (.int (m := a) (m' := (-9223372036854775808)) (r := .bool (a == (-9223372036854775808))) rfl rfl rfl rfl rfl (.Ze (v := (vb (a == (-9223372036854775808)))) rfl rfl rfl (.nil ?_)))))
    exact ⟨⟨Z1D hc2, rfl, rfl, trivial⟩, H.weak (by omega) (Nat.le_refl _)⟩
   ·skip
    refine .pass rfl rfl rfl (.pass rfl rfl rfl (.Zg (v := (vb false)) rfl rfl rfl (.nil ?_)))
    exact ⟨⟨Z1E hc2, rfl, rfl, trivial⟩, H.weak (by omega) (Nat.le_refl _)⟩
  ·rintro e σ ⟨he, H⟩
   obtain ⟨e, rfl⟩ := he.ex
   refine .assign (v := (vb ((b == (-1)) && (a == (-9223372036854775808))))) rfl rfl (.nila H fun H => ?_)
   refine .whether (v := ((b == (-1)) && (a == (-9223372036854775808)))) rfl ?_ ?_ <;> intro hc3
   ·replace h := Z6 hc3 h
    refine .then (.Z0 3 rfl H fun b5 σ H => (.assign (v := (vi 0)) rfl rfl (.assign (v := (vi 0)) rfl rfl (.assign (v := (vi 10)) rfl rfl (.nila H fun H => ?_)))))
    refine .ret ?_
    replace h := sj h; subst h
    exact (Ends.H (xs := [(vi 0), (vi 0), (vi 10)]) (.inr rfl) H (.tmp (v := (vi 0)) rfl (.tmp (v := (vi 0)) rfl (.tmp (v := (vi 10)) rfl .nil))) (.two (.cons (.c (.v _)) (.cons (.c (.v _)) (.cons (.c (.v _)) .nil)))))
   ·replace h := Z7 hc3 h
    refine .skip (.then (.Z2X 8 rfl (by kernel_rfl) H fun b6 σ H B6 => (.move (v := (vi a)) rfl rfl (.move (v := (vi b)) rfl rfl ?_))))
    obtain ⟨u1, q1, h⟩ := bind_some h
    refine .quo (m := a) (m' := b) rfl rfl (nz_ne q1) rfl (.move (v := (vi a)) rfl rfl (.move (v := (vi b)) rfl rfl ?_))
    obtain ⟨u2, q2, h⟩ := bind_some h
    refine .rem (m := a) (m' := b) rfl rfl (nz_ne q2) rfl (.assign (v := (vi (w64 (a.tdiv b)))) rfl rfl (.assign (v := (vi (a.tmod b))) rfl rfl (.nila H fun H => (.then ?_))))
    obtain ⟨y1, hj1, h⟩ := bind_some h
    refine .mono (Q := fun x e σ => x = .normal ∧ Z4 e [(7, (vi y1.1)), (8, (vi y1.2))] ∧ Hs σ []) ?_ ?_
    ·replace h := hj1
     refine .then (.Z0 9 rfl H fun b7 σ H => (.move (v := (vi (a.tmod b))) rfl rfl (.int (m := (a.tmod b)) (m' := 0) (r := .bool ((a.tmod b) != 0)) rfl rfl rfl rfl rfl (.move (v := (vb ((a.tmod b) != 0))) rfl rfl ?_))))
     refine .mid 6 (K1 := fun e σ => Z4 e [(33, (vb (((a.tmod b) != 0) && ((decide ((a.tmod b) < 0)) != (decide (b < 0)))))), (1, (vi b)), (7, (vi (w64 (a.tdiv b)))), (8, (vi (a.tmod b)))] ∧ Has σ (b7 + 9) (b7 + 9) []) rfl ?_ ?_
     ·refine .split rfl rfl ?_ ?_ <;> intro hc4
      ·skip
       refine .wanted rfl rfl (.move (v := (vi (a.tmod b))) rfl rfl (.wanted rfl rfl (.int (m := (a.tmod b)) (m' := 0) (r := .bool (decide ((a.tmod b) < 0))) rfl rfl rfl rfl rfl (.wanted rfl rfl (.move (v := (vi b)) rfl rfl ?_)))))
       refine .wanted rfl rfl (.int (m := b) (m' := 0) (r := .bool (decide (b < 0))) rfl rfl rfl rfl rfl (.wanted rfl rfl (.neB (b := (decide ((a.tmod b) < 0))) (b' := (decide (b < 0))) rfl rfl rfl rfl (.Ze (v := (vb ((decide ((a.tmod b) < 0)) != (decide (b < 0))))) rfl rfl rfl (.nil ?_)))))
       exact ⟨⟨Z1D hc4, rfl, rfl, rfl, trivial⟩, H.weak (by omega) (Nat.le_refl _)⟩
      ·skip
       refine .pass rfl rfl rfl (.pass rfl rfl rfl (.pass rfl rfl rfl (.pass rfl rfl rfl (.pass rfl rfl rfl (.Zg (v := (vb false)) rfl rfl rfl ?_)))))
       refine .nil ?_
       exact ⟨⟨Z1E hc4, rfl, rfl, rfl, trivial⟩, H.weak (by omega) (Nat.le_refl _)⟩
     ·rintro e σ ⟨he, H⟩
      obtain ⟨e, rfl⟩ := he.ex
      refine .nila H fun H => ?_
      refine .whether (v := (((a.tmod b) != 0) && ((decide ((a.tmod b) < 0)) != (decide (b < 0))))) rfl ?_ ?_ <;> intro hc5
      ·replace h := Z6 hc5 h
       refine .Z0 7 rfl H fun b8 σ H => (.move (v := (vi (w64 (a.tdiv b)))) rfl rfl (.int (m := (w64 (a.tdiv b))) (m' := 1) (r := .int .i64 (w64 ((w64 (a.tdiv b)) - 1))) rfl rfl rfl rfl rfl (.move (v := (vi (a.tmod b))) rfl rfl (.move (v := (vi b)) rfl rfl (.int (m := (a.tmod b)) (m' := b) (r := .int .i64 (w64 ((a.tmod b) + b))) rfl rfl rfl rfl rfl ?_)))))
       refine .assign (v := (vi (w64 ((w64 (a.tdiv b)) - 1)))) rfl rfl (.assign (v := (vi (w64 ((a.tmod b) + b)))) rfl rfl (.nila H fun H => ?_))
       replace h := sj h; subst h
       exact ⟨rfl, ⟨rfl, rfl, trivial⟩, H⟩
      ·replace h := Z7 hc5 h
       refine .skip ?_
       replace h := sj h; subst h
       exact ⟨rfl, ⟨rfl, rfl, trivial⟩, H⟩
    ·rintro x e σ ⟨rfl, he, H⟩
     obtain ⟨e, rfl⟩ := he.ex
     refine .then (.Z0 5 rfl H fun b9 σ H => (.move (v := (vi y1.1)) rfl rfl (.move (v := (vi y1.2)) rfl rfl (.assign (v := (vi y1.1)) rfl rfl (.assign (v := (vi y1.2)) rfl rfl ?_)))))
     refine .assign (v := (vi 0)) rfl rfl (.nila H fun H => (.ret ?_))
     replace h := sj h; subst h
     exact (Ends.H (xs := [(vi y1.1), (vi y1.2), (vi 0)]) (.inr rfl) H (.tmp (v := (vi y1.1)) rfl (.tmp (v := (vi y1.2)) rfl (.tmp (v := (vi 0)) rfl .nil))) (.two (.cons (.c (.v _)) (.cons (.c (.v _)) (.cons (.c (.v _)) .nil)))))

theorem Z7R {a : Int} {r : Int} (h : ZD a = r) : Fn CX 70 [(vi a)] (vu r) := by
 refine Fn.ends Try.func70 rfl rfl rfl rfl rfl rfl ?_
 have H : Hs (⟨0, fun _ => .none⟩ : Heap) [] := Has.nil (Nat.le_refl _)
 generalize (⟨0, fun _ => .none⟩ : Heap) = σ at H ⊢
 unfold ZD at h
 refine .then (.Z0 1 rfl H fun b1 σ H => (.assign (v := (vu 0)) rfl rfl (.nila H fun H => (.then (.then ?_)))))
 refine .Z0 2 rfl H fun b2 σ H => (.move (v := (vi a)) rfl rfl (.int (m := a) (m' := 0) (r := .bool (decide (a < 0))) rfl rfl rfl rfl rfl (.nila H fun H => ?_)))
 refine .whether (v := (decide (a < 0))) rfl ?_ ?_ <;> intro hc1
 ·replace h := Z6 hc1 h
  refine .then (.Z0 4 rfl H fun b3 σ H => (.move (v := (vi a)) rfl rfl (.conv (m := a) rfl rfl rfl rfl (.neg (m := (IntKind.u64.wrap a)) rfl rfl (.assign (v := (vu (IntKind.u64.wrap (0 - (IntKind.u64.wrap a))))) rfl rfl ?_)))))
  refine .nila H fun H => (.ret ?_)
  subst h
  exact (Ends.H (xs := [(vu (IntKind.u64.wrap (0 - (IntKind.u64.wrap a))))]) (.inr rfl) H (.tmp (v := (vu (IntKind.u64.wrap (0 - (IntKind.u64.wrap a))))) rfl .nil) (.one (.c (.v _))))
 ·replace h := Z7 hc1 h
  refine .skip (.then (.Z0 3 rfl H fun b4 σ H => (.move (v := (vi a)) rfl rfl (.conv (m := a) rfl rfl rfl rfl (.assign (v := (vu (IntKind.u64.wrap a))) rfl rfl ?_)))))
  refine .nila H fun H => (.ret ?_)
  subst h
  exact (Ends.H (xs := [(vu (IntKind.u64.wrap a))]) (.inr rfl) H (.tmp (v := (vu (IntKind.u64.wrap a))) rfl .nil) (.one (.c (.v _))))

theorem Z6r {x' : Int} {y : Int} {r : Int × Int} (h : ZH x' y = r) : Fn CX 69 [(vu x'), (vu y)] (.tup [(vu r.1), (vu r.2)]) := by
 refine Fn.ends Try.func69 rfl rfl rfl rfl rfl rfl ?_
 have H : Hs (⟨0, fun _ => .none⟩ : Heap) [] := Has.nil (Nat.le_refl _)
 generalize (⟨0, fun _ => .none⟩ : Heap) = σ at H ⊢
 unfold ZH at h
 refine .then (.Z0 2 rfl H fun b1 σ H => (.assign (v := (vu 0)) rfl rfl (.assign (v := (vu 0)) rfl rfl (.nila H fun H => (.then ?_)))))
 refine .Z0 3 rfl H fun b2 σ H => (.move (v := (vu x')) rfl rfl (.int (m := x') (m' := 4294967295) (r := .int .u64 (iAnd .u64 x' 4294967295)) rfl rfl rfl rfl rfl (.assign (v := (vu (iAnd .u64 x' 4294967295))) rfl rfl (.nila H fun H => (.then ?_)))))
 refine .Z0 3 rfl H fun b3 σ H => (.move (v := (vu x')) rfl rfl (.shr (m := x') (m' := 32) rfl rfl (by decide) rfl (.assign (v := (vu (x'.fdiv (2 ^ 32)))) rfl rfl (.nila H fun H => (.then ?_)))))
 refine .Z0 3 rfl H fun b4 σ H => (.move (v := (vu y)) rfl rfl (.int (m := y) (m' := 4294967295) (r := .int .u64 (iAnd .u64 y 4294967295)) rfl rfl rfl rfl rfl (.assign (v := (vu (iAnd .u64 y 4294967295))) rfl rfl (.nila H fun H => (.then ?_)))))
 refine .Z0 3 rfl H fun b5 σ H => (.move (v := (vu y)) rfl rfl (.shr (m := y) (m' := 32) rfl rfl (by decide) rfl (.assign (v := (vu (y.fdiv (2 ^ 32)))) rfl rfl (.nila H fun H => (.then ?_)))))
 refine .Z0 4 rfl H fun b6 σ H => (.move (v := (vu (iAnd .u64 x' 4294967295))) rfl rfl (.move (v := (vu (iAnd .u64 y 4294967295))) rfl rfl (.int (m := (iAnd .u64 x' 4294967295)) (m' := (iAnd .u64 y 4294967295)) (r := .int .u64 (IntKind.u64.wrap ((iAnd .u64 x' 4294967295) * (iAnd .u64 y 4294967295)))) rfl rfl rfl rfl rfl (.assign (v := (vu (IntKind.u64.wrap ((iAnd .u64 x' 4294967295) * (iAnd .u64 y 4294967295))))) rfl rfl (.nila H fun H => ?_)))))
 refine .then (.Z0 7 rfl H fun b7 σ H => (.move (v := (vu (x'.fdiv (2 ^ 32)))) rfl rfl (.move (v := (vu (iAnd .u64 y 4294967295))) rfl rfl (.int (m := (x'.fdiv (2 ^ 32))) (m' := (iAnd .u64 y 4294967295)) (r := .int .u64 (IntKind.u64.wrap ((x'.fdiv (2 ^ 32)) * (iAnd .u64 y 4294967295)))) rfl rfl rfl rfl rfl (.move (v := (vu (IntKind.u64.wrap ((iAnd .u64 x' 4294967295) * (iAnd .u64 y 4294967295))))) rfl rfl ?_)))))
 refine .shr (m := (IntKind.u64.wrap ((iAnd .u64 x' 4294967295) * (iAnd .u64 y 4294967295)))) (m' := 32) rfl rfl (by decide) rfl (.int (m := (IntKind.u64.wrap ((x'.fdiv (2 ^ 32)) * (iAnd .u64 y 4294967295)))) (m' := ((IntKind.u64.wrap ((iAnd .u64 x' 4294967295) * (iAnd .u64 y 4294967295))).fdiv (2 ^ 32))) (r := .int .u64 (IntKind.u64.wrap ((IntKind.u64.wrap ((x'.fdiv (2 ^ 32)) * (iAnd .u64 y 4294967295))) + ((IntKind.u64.wrap ((iAnd .u64 x' 4294967295) * (iAnd .u64 y 4294967295))).fdiv (2 ^ 32))))) rfl rfl rfl rfl rfl (.assign (v := (vu (IntKind.u64.wrap ((IntKind.u64.wrap ((x'.fdiv (2 ^ 32)) * (iAnd .u64 y 4294967295))) + ((IntKind.u64.wrap ((iAnd .u64 x' 4294967295) * (iAnd .u64 y 4294967295))).fdiv (2 ^ 32)))))) rfl rfl (.nila H fun H => (.then (.Z0 3 rfl H fun b8 σ H => ?_)))))
 refine .move (v := (vu (IntKind.u64.wrap ((IntKind.u64.wrap ((x'.fdiv (2 ^ 32)) * (iAnd .u64 y 4294967295))) + ((IntKind.u64.wrap ((iAnd .u64 x' 4294967295) * (iAnd .u64 y 4294967295))).fdiv (2 ^ 32)))))) rfl rfl (.int (m := (IntKind.u64.wrap ((IntKind.u64.wrap ((x'.fdiv (2 ^ 32)) * (iAnd .u64 y 4294967295))) + ((IntKind.u64.wrap ((iAnd .u64 x' 4294967295) * (iAnd .u64 y 4294967295))).fdiv (2 ^ 32))))) (m' := 4294967295) (r := .int .u64 (iAnd .u64 (IntKind.u64.wrap ((IntKind.u64.wrap ((x'.fdiv (2 ^ 32)) * (iAnd .u64 y 4294967295))) + ((IntKind.u64.wrap ((iAnd .u64 x' 4294967295) * (iAnd .u64 y 4294967295))).fdiv (2 ^ 32)))) 4294967295)) rfl rfl rfl rfl rfl (.assign (v := (vu (iAnd .u64 (IntKind.u64.wrap ((IntKind.u64.wrap ((x'.fdiv (2 ^ 32)) * (iAnd .u64 y 4294967295))) + ((IntKind.u64.wrap ((iAnd .u64 x' 4294967295) * (iAnd .u64 y 4294967295))).fdiv (2 ^ 32)))) 4294967295))) rfl rfl (.nila H fun H => (.then (.Z0 3 rfl H fun b9 σ H => ?_)))))
 refine .move (v := (vu (IntKind.u64.wrap ((IntKind.u64.wrap ((x'.fdiv (2 ^ 32)) * (iAnd .u64 y 4294967295))) + ((IntKind.u64.wrap ((iAnd .u64 x' 4294967295) * (iAnd .u64 y 4294967295))).fdiv (2 ^ 32)))))) rfl rfl (.shr (m := (IntKind.u64.wrap ((IntKind.u64.wrap ((x'.fdiv (2 ^ 32)) * (iAnd .u64 y 4294967295))) + ((IntKind.u64.wrap ((iAnd .u64 x' 4294967295) * (iAnd .u64 y 4294967295))).fdiv (2 ^ 32))))) (m' := 32) rfl rfl (by decide) rfl (.assign (v := (vu ((IntKind.u64.wrap ((IntKind.u64.wrap ((x'.fdiv (2 ^ 32)) * (iAnd .u64 y 4294967295))) + ((IntKind.u64.wrap ((iAnd .u64 x' 4294967295) * (iAnd .u64 y 4294967295))).fdiv (2 ^ 32)))).fdiv (2 ^ 32)))) rfl rfl (.nila H fun H => (.then (.Z0 6 rfl H fun b10 σ H => ?_)))))
 refine .move (v := (vu (iAnd .u64 (IntKind.u64.wrap ((IntKind.u64.wrap ((x'.fdiv (2 ^ 32)) * (iAnd .u64 y 4294967295))) + ((IntKind.u64.wrap ((iAnd .u64 x' 4294967295) * (iAnd .u64 y 4294967295))).fdiv (2 ^ 32)))) 4294967295))) rfl rfl (.move (v := (vu (iAnd .u64 x' 4294967295))) rfl rfl (.move (v := (vu (y.fdiv (2 ^ 32)))) rfl rfl (.int (m := (iAnd .u64 x' 4294967295)) (m' := (y.fdiv (2 ^ 32))) (r := .int .u64 (IntKind.u64.wrap ((iAnd .u64 x' 4294967295) * (y.fdiv (2 ^ 32))))) rfl rfl rfl rfl rfl (.int (m := (iAnd .u64 (IntKind.u64.wrap ((IntKind.u64.wrap ((x'.fdiv (2 ^ 32)) * (iAnd .u64 y 4294967295))) + ((IntKind.u64.wrap ((iAnd .u64 x' 4294967295) * (iAnd .u64 y 4294967295))).fdiv (2 ^ 32)))) 4294967295)) (m' := (IntKind.u64.wrap ((iAnd .u64 x' 4294967295) * (y.fdiv (2 ^ 32))))) (r := .int .u64 (IntKind.u64.wrap ((iAnd .u64 (IntKind.u64.wrap ((IntKind.u64.wrap ((x'.fdiv (2 ^ 32)) * (iAnd .u64 y 4294967295))) + ((IntKind.u64.wrap ((iAnd .u64 x' 4294967295) * (iAnd .u64 y 4294967295))).fdiv (2 ^ 32)))) 4294967295) + (IntKind.u64.wrap ((iAnd .u64 x' 4294967295) * (y.fdiv (2 ^ 32))))))) rfl rfl rfl rfl rfl (.assign (v := (vu (IntKind.u64.wrap ((iAnd .u64 (IntKind.u64.wrap ((IntKind.u64.wrap ((x'.fdiv (2 ^ 32)) * (iAnd .u64 y 4294967295))) + ((IntKind.u64.wrap ((iAnd .u64 x' 4294967295) * (iAnd .u64 y 4294967295))).fdiv (2 ^ 32)))) 4294967295) + (IntKind.u64.wrap ((iAnd .u64 x' 4294967295) * (y.fdiv (2 ^ 32)))))))) rfl rfl ?_)))))
 refine .nila H fun H => (.then (.Z0 9 rfl H fun b11 σ H => (.move (v := (vu (x'.fdiv (2 ^ 32)))) rfl rfl (.move (v := (vu (y.fdiv (2 ^ 32)))) rfl rfl (.int (m := (x'.fdiv (2 ^ 32))) (m' := (y.fdiv (2 ^ 32))) (r := .int .u64 (IntKind.u64.wrap ((x'.fdiv (2 ^ 32)) * (y.fdiv (2 ^ 32))))) rfl rfl rfl rfl rfl ?_)))))
 refine .move (v := (vu ((IntKind.u64.wrap ((IntKind.u64.wrap ((x'.fdiv (2 ^ 32)) * (iAnd .u64 y 4294967295))) + ((IntKind.u64.wrap ((iAnd .u64 x' 4294967295) * (iAnd .u64 y 4294967295))).fdiv (2 ^ 32)))).fdiv (2 ^ 32)))) rfl rfl (.int (m := (IntKind.u64.wrap ((x'.fdiv (2 ^ 32)) * (y.fdiv (2 ^ 32))))) (m' := ((IntKind.u64.wrap ((IntKind.u64.wrap ((x'.fdiv (2 ^ 32)) * (iAnd .u64 y 4294967295))) + ((IntKind.u64.wrap ((iAnd .u64 x' 4294967295) * (iAnd .u64 y 4294967295))).fdiv (2 ^ 32)))).fdiv (2 ^ 32))) (r := .int .u64 (IntKind.u64.wrap ((IntKind.u64.wrap ((x'.fdiv (2 ^ 32)) * (y.fdiv (2 ^ 32)))) + ((IntKind.u64.wrap ((IntKind.u64.wrap ((x'.fdiv (2 ^ 32)) * (iAnd .u64 y 4294967295))) + ((IntKind.u64.wrap ((iAnd .u64 x' 4294967295) * (iAnd .u64 y 4294967295))).fdiv (2 ^ 32)))).fdiv (2 ^ 32))))) rfl rfl rfl rfl rfl (.move (v := (vu (IntKind.u64.wrap ((iAnd .u64 (IntKind.u64.wrap ((IntKind.u64.wrap ((x'.fdiv (2 ^ 32)) * (iAnd .u64 y 4294967295))) + ((IntKind.u64.wrap ((iAnd .u64 x' 4294967295) * (iAnd .u64 y 4294967295))).fdiv (2 ^ 32)))) 4294967295) + (IntKind.u64.wrap ((iAnd .u64 x' 4294967295) * (y.fdiv (2 ^ 32)))))))) rfl rfl (.shr (m := (IntKind.u64.wrap ((iAnd .u64 (IntKind.u64.wrap ((IntKind.u64.wrap ((x'.fdiv (2 ^ 32)) * (iAnd .u64 y 4294967295))) + ((IntKind.u64.wrap ((iAnd .u64 x' 4294967295) * (iAnd .u64 y 4294967295))).fdiv (2 ^ 32)))) 4294967295) + (IntKind.u64.wrap ((iAnd .u64 x' 4294967295) * (y.fdiv (2 ^ 32))))))) (m' := 32) rfl rfl (by decide) rfl (.int (m := (IntKind.u64.wrap ((IntKind.u64.wrap ((x'.fdiv (2 ^ 32)) * (y.fdiv (2 ^ 32)))) + ((IntKind.u64.wrap ((IntKind.u64.wrap ((x'.fdiv (2 ^ 32)) * (iAnd .u64 y 4294967295))) + ((IntKind.u64.wrap ((iAnd .u64 x' 4294967295) * (iAnd .u64 y 4294967295))).fdiv (2 ^ 32)))).fdiv (2 ^ 32))))) (m' := ((IntKind.u64.wrap ((iAnd .u64 (IntKind.u64.wrap ((IntKind.u64.wrap ((x'.fdiv (2 ^ 32)) * (iAnd .u64 y 4294967295))) + ((IntKind.u64.wrap ((iAnd .u64 x' 4294967295) * (iAnd .u64 y 4294967295))).fdiv (2 ^ 32)))) 4294967295) + (IntKind.u64.wrap ((iAnd .u64 x' 4294967295) * (y.fdiv (2 ^ 32)))))).fdiv (2 ^ 32))) (r := .int .u64 (IntKind.u64.wrap ((IntKind.u64.wrap ((IntKind.u64.wrap ((x'.fdiv (2 ^ 32)) * (y.fdiv (2 ^ 32)))) + ((IntKind.u64.wrap ((IntKind.u64.wrap ((x'.fdiv (2 ^ 32)) * (iAnd .u64 y 4294967295))) + ((IntKind.u64.wrap ((iAnd .u64 x' 4294967295) * (iAnd .u64 y 4294967295))).fdiv (2 ^ 32)))).fdiv (2 ^ 32)))) + ((IntKind.u64.wrap ((iAnd .u64 (IntKind.u64.wrap ((IntKind.u64.wrap ((x'.fdiv (2 ^ 32)) * (iAnd .u64 y 4294967295))) + ((IntKind.u64.wrap ((iAnd .u64 x' 4294967295) * (iAnd .u64 y 4294967295))).fdiv (2 ^ 32)))) 4294967295) + (IntKind.u64.wrap ((iAnd .u64 x' 4294967295) * (y.fdiv (2 ^ 32)))))).fdiv (2 ^ 32))))) rfl rfl rfl rfl rfl (.assign (v := (vu (IntKind.u64.wrap ((IntKind.u64.wrap ((IntKind.u64.wrap ((x'.fdiv (2 ^ 32)) * (y.fdiv (2 ^ 32)))) + ((IntKind.u64.wrap ((IntKind.u64.wrap ((x'.fdiv (2 ^ 32)) * (iAnd .u64 y 4294967295))) + ((IntKind.u64.wrap ((iAnd .u64 x' 4294967295) * (iAnd .u64 y 4294967295))).fdiv (2 ^ 32)))).fdiv (2 ^ 32)))) + ((IntKind.u64.wrap ((iAnd .u64 (IntKind.u64.wrap ((IntKind.u64.wrap ((x'.fdiv (2 ^ 32)) * (iAnd .u64 y 4294967295))) + ((IntKind.u64.wrap ((iAnd .u64 x' 4294967295) * (iAnd .u64 y 4294967295))).fdiv (2 ^ 32)))) 4294967295) + (IntKind.u64.wrap ((iAnd .u64 x' 4294967295) * (y.fdiv (2 ^ 32)))))).fdiv (2 ^ 32)))))) rfl rfl ?_)))))
 refine .nila H fun H => (.then (.Z0 4 rfl H fun b12 σ H => (.move (v := (vu x')) rfl rfl (.move (v := (vu y)) rfl rfl (.int (m := x') (m' := y) (r := .int .u64 (IntKind.u64.wrap (x' * y))) rfl rfl rfl rfl rfl ?_)))))
 refine .assign (v := (vu (IntKind.u64.wrap (x' * y)))) rfl rfl (.nila H fun H => (.ret ?_))
 subst h
 exact (Ends.H (xs := [(vu (IntKind.u64.wrap ((IntKind.u64.wrap ((IntKind.u64.wrap ((x'.fdiv (2 ^ 32)) * (y.fdiv (2 ^ 32)))) + ((IntKind.u64.wrap ((IntKind.u64.wrap ((x'.fdiv (2 ^ 32)) * (iAnd .u64 y 4294967295))) + ((IntKind.u64.wrap ((iAnd .u64 x' 4294967295) * (iAnd .u64 y 4294967295))).fdiv (2 ^ 32)))).fdiv (2 ^ 32)))) + ((IntKind.u64.wrap ((iAnd .u64 (IntKind.u64.wrap ((IntKind.u64.wrap ((x'.fdiv (2 ^ 32)) * (iAnd .u64 y 4294967295))) + ((IntKind.u64.wrap ((iAnd .u64 x' 4294967295) * (iAnd .u64 y 4294967295))).fdiv (2 ^ 32)))) 4294967295) + (IntKind.u64.wrap ((iAnd .u64 x' 4294967295) * (y.fdiv (2 ^ 32)))))).fdiv (2 ^ 32))))), (vu (IntKind.u64.wrap (x' * y)))]) (.inr rfl) H (.tmp (v := (vu (IntKind.u64.wrap ((IntKind.u64.wrap ((IntKind.u64.wrap ((x'.fdiv (2 ^ 32)) * (y.fdiv (2 ^ 32)))) + ((IntKind.u64.wrap ((IntKind.u64.wrap ((x'.fdiv (2 ^ 32)) * (iAnd .u64 y 4294967295))) + ((IntKind.u64.wrap ((iAnd .u64 x' 4294967295) * (iAnd .u64 y 4294967295))).fdiv (2 ^ 32)))).fdiv (2 ^ 32)))) + ((IntKind.u64.wrap ((iAnd .u64 (IntKind.u64.wrap ((IntKind.u64.wrap ((x'.fdiv (2 ^ 32)) * (iAnd .u64 y 4294967295))) + ((IntKind.u64.wrap ((iAnd .u64 x' 4294967295) * (iAnd .u64 y 4294967295))).fdiv (2 ^ 32)))) 4294967295) + (IntKind.u64.wrap ((iAnd .u64 x' 4294967295) * (y.fdiv (2 ^ 32)))))).fdiv (2 ^ 32)))))) rfl (.tmp (v := (vu (IntKind.u64.wrap (x' * y)))) rfl .nil)) (.two (.cons (.c (.v _)) (.cons (.c (.v _)) .nil))))

theorem Z9B {n : Int} {minus : Bool} {r : Int × Int} (h : Z0K n minus = r) : Fn CX 71 [(vu n), (vb minus)] (.tup [(vi r.1), (vi r.2)]) := by
 refine Fn.ends Try.func71 rfl rfl rfl rfl rfl rfl ?_
 have H : Hs (⟨0, fun _ => .none⟩ : Heap) [] := Has.nil (Nat.le_refl _)
 generalize (⟨0, fun _ => .none⟩ : Heap) = σ at H ⊢
 unfold Z0K at h
 refine .then (.Z0 2 rfl H fun b1 σ H => (.assign (v := (vi 0)) rfl rfl (.assign (v := (vi 0)) rfl rfl (.nila H fun H => (.then ?_)))))
 refine .inBlock (.then (.Z0 6 rfl H fun b2 σ H => (.move (v := (vb minus)) rfl rfl (.move (v := (vb minus)) rfl rfl ?_))))
 refine .mid 3 (K1 := fun e σ => Z4 e [(11, (vb (minus && (decide (n ≤ 9223372036854775808))))), (0, (vu n)), (1, (vb minus))] ∧ Has σ (b2 + 5) (b2 + 6) []) rfl ?_ ?_
 ·refine .split rfl rfl ?_ ?_ <;> intro hc1
  ·skip
   refine .wanted rfl rfl (.move (v := (vu n)) rfl rfl (.wanted rfl rfl (.int (m := n) (m' := 9223372036854775808) (r := .bool (decide (n ≤ 9223372036854775808))) rfl rfl rfl rfl rfl (.Ze (v := (vb (decide (n ≤ 9223372036854775808)))) rfl rfl rfl (.nil ?_)))))
   exact ⟨⟨Z1D hc1, rfl, rfl, trivial⟩, H.weak (by omega) (Nat.le_refl _)⟩
  ·skip
   refine .pass rfl rfl rfl (.pass rfl rfl rfl (.Zg (v := (vb false)) rfl rfl rfl (.nil ?_)))
   exact ⟨⟨Z1E hc1, rfl, rfl, trivial⟩, H.weak (by omega) (Nat.le_refl _)⟩
 ·rintro e σ ⟨he, H⟩
  obtain ⟨e, rfl⟩ := he.ex
  refine .assign (v := (vb (minus && (decide (n ≤ 9223372036854775808))))) rfl rfl (.nila H fun H => ?_)
  refine .whether (v := (minus && (decide (n ≤ 9223372036854775808)))) rfl ?_ ?_ <;> intro hc2
  ·replace h := Z6 hc2 h
   refine .then (.Z0 5 rfl H fun b3 σ H => (.move (v := (vu n)) rfl rfl (.neg (m := n) rfl rfl (.conv (m := (IntKind.u64.wrap (0 - n))) rfl rfl rfl rfl (.assign (v := (vi (w64 (IntKind.u64.wrap (0 - n))))) rfl rfl ?_)))))
   refine .assign (v := (vi 0)) rfl rfl (.nila H fun H => (.ret ?_))
   subst h
   exact (Ends.H (xs := [(vi (w64 (IntKind.u64.wrap (0 - n)))), (vi 0)]) (.inr rfl) H (.tmp (v := (vi (w64 (IntKind.u64.wrap (0 - n))))) rfl (.tmp (v := (vi 0)) rfl .nil)) (.two (.cons (.c (.v _)) (.cons (.c (.v _)) .nil))))
  ·replace h := Z7 hc2 h
   refine .then (.Z0 7 rfl H fun b4 σ H => (.move (v := (vb minus)) rfl rfl (.not (b := minus) rfl rfl (.move (v := (vb (!minus))) rfl rfl ?_))))
   refine .mid 3 (K1 := fun e σ => Z4 e [(21, (vb ((!minus) && (decide (n ≤ 9223372036854775807))))), (0, (vu n))] ∧ Has σ (b4 + 6) (b4 + 7) []) rfl ?_ ?_
   ·refine .split rfl rfl ?_ ?_ <;> intro hc3
    ·skip
     refine .wanted rfl rfl (.move (v := (vu n)) rfl rfl (.wanted rfl rfl (.int (m := n) (m' := 9223372036854775807) (r := .bool (decide (n ≤ 9223372036854775807))) rfl rfl rfl rfl rfl (.Ze (v := (vb (decide (n ≤ 9223372036854775807)))) rfl rfl rfl (.nil ?_)))))
     exact ⟨⟨Z1D hc3, rfl, trivial⟩, H.weak (by omega) (Nat.le_refl _)⟩
    ·skip
     refine .pass rfl rfl rfl (.pass rfl rfl rfl (.Zg (v := (vb false)) rfl rfl rfl (.nil ?_)))
     exact ⟨⟨Z1E hc3, rfl, trivial⟩, H.weak (by omega) (Nat.le_refl _)⟩
   ·rintro e σ ⟨he, H⟩
    obtain ⟨e, rfl⟩ := he.ex
    refine .assign (v := (vb ((!minus) && (decide (n ≤ 9223372036854775807))))) rfl rfl (.nila H fun H => ?_)
    refine .whether (v := ((!minus) && (decide (n ≤ 9223372036854775807)))) rfl ?_ ?_ <;> intro hc4
    ·replace h := Z6 hc4 h
     refine .then (.Z0 4 rfl H fun b5 σ H => (.move (v := (vu n)) rfl rfl (.conv (m := n) rfl rfl rfl rfl (.assign (v := (vi (w64 n))) rfl rfl (.assign (v := (vi 0)) rfl rfl ?_)))))
     refine .nila H fun H => (.ret ?_)
     subst h
     exact (Ends.H (xs := [(vi (w64 n)), (vi 0)]) (.inr rfl) H (.tmp (v := (vi (w64 n))) rfl (.tmp (v := (vi 0)) rfl .nil)) (.two (.cons (.c (.v _)) (.cons (.c (.v _)) .nil))))
    ·replace h := Z7 hc4 h
     refine .skip (.then (.Z0 2 rfl H fun b6 σ H => (.assign (v := (vi 0)) rfl rfl (.assign (v := (vi 10)) rfl rfl (.nila H fun H => ?_)))))
     refine .ret ?_
     subst h
     exact (Ends.H (xs := [(vi 0), (vi 10)]) (.inr rfl) H (.tmp (v := (vi 0)) rfl (.tmp (v := (vi 10)) rfl .nil)) (.two (.cons (.c (.v _)) (.cons (.c (.v _)) .nil))))

theorem safe_Mul_fn {a : Int} {b : Int} {r : Int × Int} (h : Z0L a b = r) : Fn CX 59 [(vi a), (vi b)] (.tup [(vi r.1), (vi r.2)]) := by
 refine Fn.ends Try.func59 rfl rfl rfl rfl rfl rfl ?_
 have H : Hs (⟨0, fun _ => .none⟩ : Heap) [] := Has.nil (Nat.le_refl _)
 generalize (⟨0, fun _ => .none⟩ : Heap) = σ at H ⊢
 unfold Z0L at h
 refine .then (.Z0 2 rfl H fun b1 σ H => (.assign (v := (vi 0)) rfl rfl (.assign (v := (vi 0)) rfl rfl (.nila H fun H => (.then ?_)))))
 refine .Z0 10 rfl H fun b2 σ H => (.move (v := (vi a)) rfl rfl (.call (ys := [(vi a)]) (r := (vu (ZD a))) rfl (Z7R rfl) rfl (.move (v := (vi b)) rfl rfl (.call (ys := [(vi b)]) (r := (vu (ZD b))) rfl (Z7R rfl) rfl (.call (ys := [(vu (ZD a)), (vu (ZD b))]) (r := (.tup [(vu (ZH (ZD a) (ZD b)).1), (vu (ZH (ZD a) (ZD b)).2)])) rfl (Z6r rfl) rfl ?_)))))
 refine .move (v := (.tup [(vu (ZH (ZD a) (ZD b)).1), (vu (ZH (ZD a) (ZD b)).2)])) rfl rfl (.extract (v := (vu (ZH (ZD a) (ZD b)).1)) rfl rfl rfl (.extract (v := (vu (ZH (ZD a) (ZD b)).2)) rfl rfl rfl (.assign (v := (vu (ZH (ZD a) (ZD b)).1)) rfl rfl (.assign (v := (vu (ZH (ZD a) (ZD b)).2)) rfl rfl (.nila H fun H => ?_)))))
 refine .then (.then (.Z0 2 rfl H fun b3 σ H => (.move (v := (vu (ZH (ZD a) (ZD b)).1)) rfl rfl (.int (m := (ZH (ZD a) (ZD b)).1) (m' := 0) (r := .bool (((ZH (ZD a) (ZD b)).1) != 0)) rfl rfl rfl rfl rfl (.nila H fun H => ?_)))))
 refine .whether (v := (((ZH (ZD a) (ZD b)).1) != 0)) rfl ?_ ?_ <;> intro hc1
 ·replace h := Z6 hc1 h
  refine .then (.Z0 2 rfl H fun b4 σ H => (.assign (v := (vi 0)) rfl rfl (.assign (v := (vi 10)) rfl rfl (.nila H fun H => (.ret ?_)))))
  subst h
  exact (Ends.H (xs := [(vi 0), (vi 10)]) (.inr rfl) H (.tmp (v := (vi 0)) rfl (.tmp (v := (vi 10)) rfl .nil)) (.two (.cons (.c (.v _)) (.cons (.c (.v _)) .nil))))
 ·replace h := Z7 hc1 h
  refine .skip (.then (.Z0 11 rfl H fun b5 σ H => (.move (v := (vu (ZH (ZD a) (ZD b)).2)) rfl rfl (.move (v := (vi a)) rfl rfl (.int (m := a) (m' := 0) (r := .bool (decide (a < 0))) rfl rfl rfl rfl rfl ?_)))))
  refine .move (v := (vi b)) rfl rfl (.int (m := b) (m' := 0) (r := .bool (decide (b < 0))) rfl rfl rfl rfl rfl (.neB (b := (decide (a < 0))) (b' := (decide (b < 0))) rfl rfl rfl rfl (.call (ys := [(vu (ZH (ZD a) (ZD b)).2), (vb ((decide (a < 0)) != (decide (b < 0))))]) (r := (.tup [(vi (Z0K ((ZH (ZD a) (ZD b)).2) ((decide (a < 0)) != (decide (b < 0)))).1), (vi (Z0K ((ZH (ZD a) (ZD b)).2) ((decide (a < 0)) != (decide (b < 0)))).2)])) rfl (Z9B rfl) rfl (.extract (v := (vi (Z0K ((ZH (ZD a) (ZD b)).2) ((decide (a < 0)) != (decide (b < 0)))).1)) rfl rfl rfl (.extract (v := (vi (Z0K ((ZH (ZD a) (ZD b)).2) ((decide (a < 0)) != (decide (b < 0)))).2)) rfl rfl rfl ?_)))))
  refine .assign (v := (vi (Z0K ((ZH (ZD a) (ZD b)).2) ((decide (a < 0)) != (decide (b < 0)))).1)) rfl rfl (.assign (v := (vi (Z0K ((ZH (ZD a) (ZD b)).2) ((decide (a < 0)) != (decide (b < 0)))).2)) rfl rfl (.nila H fun H => (.ret ?_)))
  subst h
  exact (Ends.H (xs := [(vi (Z0K ((ZH (ZD a) (ZD b)).2) ((decide (a < 0)) != (decide (b < 0)))).1), (vi (Z0K ((ZH (ZD a) (ZD b)).2) ((decide (a < 0)) != (decide (b < 0)))).2)]) (.inr rfl) H (.tmp (v := (vi (Z0K ((ZH (ZD a) (ZD b)).2) ((decide (a < 0)) != (decide (b < 0)))).1)) rfl (.tmp (v := (vi (Z0K ((ZH (ZD a) (ZD b)).2) ((decide (a < 0)) != (decide (b < 0)))).2)) rfl .nil)) (.two (.cons (.c (.v _)) (.cons (.c (.v _)) .nil))))

theorem Z7I {f : Form} {i : Int} {r : (List Span) × Int × Int} (h : Z20 f i = some r) : Fn CX 46 [(.agg (vs (Form.cs f))), (vi i)] (.tup [(vl Span.cs r.1), (vi r.2.1), (vi r.2.2)]) := by
 refine Fn.ends Try.func46 rfl rfl rfl rfl rfl rfl ?_
 have H : Hs (⟨0, fun _ => .none⟩ : Heap) [] := Has.nil (Nat.le_refl _)
 generalize (⟨0, fun _ => .none⟩ : Heap) = σ at H ⊢
 unfold Z20 at h
 refine .then (.Z0 4 rfl H fun b1 σ H => (.boxH (cs := (vF f)) H (by omega) (by omega) rfl rfl rfl fun σ H => (.assign (v := .nils) rfl rfl (.assign (v := (vi 0)) rfl rfl (.assign (v := (vi 0)) rfl rfl ?_)))))
 refine .nila H fun H => (.then (.then (.Z0 8 rfl H fun b2 σ H => (.ZX (off := 0) (cs := (vF f)) H 0 rfl rfl rfl rfl rfl rfl rfl nofun rfl (.move (v := (vi i)) rfl rfl ?_)))))
 obtain ⟨x1, q1, h⟩ := bind_some h
 refine .call (ys := [(.agg (vF f)), (vi i)]) (r := (.tup [(vi x1.1), (vb x1.2)])) rfl (Z8T q1) rfl (.move (v := (.tup [(vi x1.1), (vb x1.2)])) rfl rfl (.extract (v := (vi x1.1)) rfl rfl rfl (.extract (v := (vb x1.2)) rfl rfl rfl (.assign (v := (vi x1.1)) rfl rfl (.assign (v := (vb x1.2)) rfl rfl ?_)))))
 refine .nila H fun H => (.then (.Z0 1 rfl H fun b3 σ H => (.move (v := (vb x1.2)) rfl rfl (.nila H fun H => ?_))))
 refine .whether (v := x1.2) rfl ?_ ?_ <;> intro hc1
 ·replace h := Z6 hc1 h
  refine .then (.Z0 9 rfl H fun b4 σ H => (.Z2 (off := 0) (fo := 3) H 0 rfl rfl rfl rfl rfl nofun rfl (.ZQ (off := 3) (v := (vl Granule.cs f.Odd)) H 0 rfl rfl rfl rfl rfl nofun rfl (.move (v := (vi x1.1)) rfl rfl ?_))))
  obtain ⟨x2, q2, h⟩ := bind_some h
  refine .Z0C (c := Granule.cs) (u := x2) rfl rfl q2 rfl rfl rfl rfl (.Z14 rfl rfl rfl rfl (.Z2H (u := (.sl (x2.Ticks.map Span.cs))) rfl rfl rfl rfl (.assign (v := (vl Span.cs x2.Ticks)) rfl rfl (.assign (v := (vi 0)) rfl rfl (.assign (v := (vi 0)) rfl rfl ?_)))))
  refine .nila H fun H => (.ret ?_)
  replace h := sj h; subst h
  exact (Ends.H (xs := [(vl Span.cs x2.Ticks), (vi 0), (vi 0)]) (.inr rfl) H (.tmp (v := (vl Span.cs x2.Ticks)) rfl (.tmp (v := (vi 0)) rfl (.tmp (v := (vi 0)) rfl .nil))) (.two (.cons (.c (.v _)) (.cons (.c (.v _)) (.cons (.c (.v _)) .nil)))))
 ·replace h := Z7 hc1 h
  refine .skip (.then (.then (.Z0 3 rfl H fun b5 σ H => (.Z2 (off := 0) (fo := 1) H 0 rfl rfl rfl rfl rfl nofun rfl (.ZQ (off := 1) (v := (vi f.Count)) H 0 rfl rfl rfl rfl rfl nofun rfl ?_)))))
  refine .int (m := f.Count) (m' := 0) (r := .bool (f.Count == 0)) rfl rfl rfl rfl rfl (.nila H fun H => ?_)
  refine .whether (v := (f.Count == 0)) rfl ?_ ?_ <;> intro hc2
  ·replace h := Z6 hc2 h
   refine .then (.Z0 3 rfl H fun b6 σ H => (.assign (v := .nils) rfl rfl (.assign (v := (vi 0)) rfl rfl (.assign (v := (vi 0)) rfl rfl (.nila H fun H => ?_)))))
   refine .ret ?_
   replace h := sj h; subst h
   exact (Ends.H (xs := [.nils, (vi 0), (vi 0)]) (.inr rfl) H (.tmp (v := .nils) rfl (.tmp (v := (vi 0)) rfl (.tmp (v := (vi 0)) rfl .nil))) (.two (.cons (.c .n) (.cons (.c (.v _)) (.cons (.c (.v _)) .nil)))))
  ·replace h := Z7 hc2 h
   refine .skip (.then (.Z0 11 rfl H fun b7 σ H => (.move (v := (vi i)) rfl rfl (.Z2 (off := 0) (fo := 1) H 0 rfl rfl rfl rfl rfl nofun rfl (.ZQ (off := 1) (v := (vi f.Count)) H 0 rfl rfl rfl rfl rfl nofun rfl ?_)))))
   obtain ⟨x3, q3, h⟩ := bind_some h
   refine .call (ys := [(vi i), (vi f.Count)]) (r := (.tup [(vi x3.1), (vi x3.2.1), (vi x3.2.2)])) rfl (Z6i q3) rfl (.move (v := (.tup [(vi x3.1), (vi x3.2.1), (vi x3.2.2)])) rfl rfl (.extract (v := (vi x3.1)) rfl rfl rfl (.extract (v := (vi x3.2.1)) rfl rfl rfl (.extract (v := (vi x3.2.2)) rfl rfl rfl (.assign (v := (vi x3.1)) rfl rfl ?_)))))
   refine .assign (v := (vi x3.2.1)) rfl rfl (.assign (v := (vi x3.2.2)) rfl rfl (.nila H fun H => (.then (.Z0 9 rfl H fun b8 σ H => (.move (v := (vi x3.1)) rfl rfl ?_)))))
   refine .Z2 (off := 0) (fo := 0) H 0 rfl rfl rfl rfl rfl nofun rfl (.ZQ (off := 0) (v := (vi f.Period)) H 0 rfl rfl rfl rfl rfl nofun rfl (.call (ys := [(vi x3.1), (vi f.Period)]) (r := (.tup [(vi (Z0L x3.1 f.Period).1), (vi (Z0L x3.1 f.Period).2)])) rfl (safe_Mul_fn rfl) rfl (.move (v := (.tup [(vi (Z0L x3.1 f.Period).1), (vi (Z0L x3.1 f.Period).2)])) rfl rfl (.extract (v := (vi (Z0L x3.1 f.Period).1)) rfl rfl rfl (.extract (v := (vi (Z0L x3.1 f.Period).2)) rfl rfl rfl ?_)))))
   refine .assign (v := (vi (Z0L x3.1 f.Period).1)) rfl rfl (.assign (v := (vi (Z0L x3.1 f.Period).2)) rfl rfl (.nila H fun H => (.then (.Z0 10 rfl H fun b9 σ H => (.Z2 (off := 0) (fo := 2) H 0 rfl rfl rfl rfl rfl nofun rfl ?_)))))
   refine .ZQ (off := 2) (v := (vl (cL Span.cs) f.Core)) H 0 rfl rfl rfl rfl rfl nofun rfl (.move (v := (vi x3.2.1)) rfl rfl ?_)
   obtain ⟨x4, q4, h⟩ := bind_some h
   refine .Z0C (c := (cL Span.cs)) (u := x4) rfl rfl q4 rfl rfl rfl rfl (.Z2H (u := (.sl (x4.map Span.cs))) rfl rfl rfl rfl (.move (v := (vi (Z0L x3.1 f.Period).1)) rfl rfl (.move (v := (vi (Z0L x3.1 f.Period).2)) rfl rfl (.assign (v := (vl Span.cs x4)) rfl rfl (.assign (v := (vi (Z0L x3.1 f.Period).1)) rfl rfl ?_)))))
   refine .assign (v := (vi (Z0L x3.1 f.Period).2)) rfl rfl (.nila H fun H => (.ret ?_))
   replace h := sj h; subst h
   exact (Ends.H (xs := [(vl Span.cs x4), (vi (Z0L x3.1 f.Period).1), (vi (Z0L x3.1 f.Period).2)]) (.inr rfl) H (.tmp (v := (vl Span.cs x4)) rfl (.tmp (v := (vi (Z0L x3.1 f.Period).1)) rfl (.tmp (v := (vi (Z0L x3.1 f.Period).2)) rfl .nil))) (.two (.cons (.c (.v _)) (.cons (.c (.v _)) (.cons (.c (.v _)) .nil)))))

theorem Z8S {a : Int} {b : Int} {r : Int × Int} (h : ZB a b = r) : Fn CX 60 [(vi a), (vi b)] (.tup [(vi r.1), (vi r.2)]) := by
 refine Fn.ends Try.func60 rfl rfl rfl rfl rfl rfl ?_
 have H : Hs (⟨0, fun _ => .none⟩ : Heap) [] := Has.nil (Nat.le_refl _)
 generalize (⟨0, fun _ => .none⟩ : Heap) = σ at H ⊢
 unfold ZB at h
 refine .then (.Z0 2 rfl H fun b1 σ H => (.assign (v := (vi 0)) rfl rfl (.assign (v := (vi 0)) rfl rfl (.nila H fun H => (.then ?_)))))
 refine .Z0 4 rfl H fun b2 σ H => (.move (v := (vi a)) rfl rfl (.move (v := (vi b)) rfl rfl (.int (m := a) (m' := b) (r := .int .i64 (w64 (a + b))) rfl rfl rfl rfl rfl (.assign (v := (vi (w64 (a + b)))) rfl rfl (.nila H fun H => ?_)))))
 refine .then (.then (.Z0 10 rfl H fun b3 σ H => (.move (v := (vi (w64 (a + b)))) rfl rfl (.move (v := (vi a)) rfl rfl (.int (m := (w64 (a + b))) (m' := a) (r := .bool (decide ((w64 (a + b)) > a))) rfl rfl rfl rfl rfl ?_)))))
 refine .move (v := (vi b)) rfl rfl (.int (m := b) (m' := 0) (r := .bool (decide (b > 0))) rfl rfl rfl rfl rfl (.neB (b := (decide ((w64 (a + b)) > a))) (b' := (decide (b > 0))) rfl rfl rfl rfl (.move (v := (vb ((decide ((w64 (a + b)) > a)) != (decide (b > 0))))) rfl rfl ?_)))
 refine .mid 3 (K1 := fun e σ => Z4 e [(19, (vb (((decide ((w64 (a + b)) > a)) != (decide (b > 0))) && (b != 0)))), (6, (vi (w64 (a + b))))] ∧ Has σ (b3 + 10) (b3 + 10) []) rfl ?_ ?_
 ·refine .split rfl rfl ?_ ?_ <;> intro hc1
  ·skip
   refine .wanted rfl rfl (.move (v := (vi b)) rfl rfl (.wanted rfl rfl (.int (m := b) (m' := 0) (r := .bool (b != 0)) rfl rfl rfl rfl rfl (.Ze (v := (vb (b != 0))) rfl rfl rfl (.nil ?_)))))
   exact ⟨⟨Z1D hc1, rfl, trivial⟩, H.weak (by omega) (Nat.le_refl _)⟩
  ·skip
   refine .pass rfl rfl rfl (.pass rfl rfl rfl (.Zg (v := (vb false)) rfl rfl rfl (.nil ?_)))
   exact ⟨⟨Z1E hc1, rfl, trivial⟩, H.weak (by omega) (Nat.le_refl _)⟩
 ·rintro e σ ⟨he, H⟩
  obtain ⟨e, rfl⟩ := he.ex
  refine .nila H fun H => ?_
  refine .whether (v := (((decide ((w64 (a + b)) > a)) != (decide (b > 0))) && (b != 0))) rfl ?_ ?_ <;> intro hc2
  ·replace h := Z6 hc2 h
   refine .then (.Z0 2 rfl H fun b4 σ H => (.assign (v := (vi 0)) rfl rfl (.assign (v := (vi 10)) rfl rfl (.nila H fun H => (.ret ?_)))))
   subst h
   exact (Ends.H (xs := [(vi 0), (vi 10)]) (.inr rfl) H (.tmp (v := (vi 0)) rfl (.tmp (v := (vi 10)) rfl .nil)) (.two (.cons (.c (.v _)) (.cons (.c (.v _)) .nil))))
  ·replace h := Z7 hc2 h
   refine .skip (.then (.Z0 3 rfl H fun b5 σ H => (.move (v := (vi (w64 (a + b)))) rfl rfl (.assign (v := (vi (w64 (a + b)))) rfl rfl (.assign (v := (vi 0)) rfl rfl ?_)))))
   refine .nila H fun H => (.ret ?_)
   subst h
   exact (Ends.H (xs := [(vi (w64 (a + b))), (vi 0)]) (.inr rfl) H (.tmp (v := (vi (w64 (a + b)))) rfl (.tmp (v := (vi 0)) rfl .nil)) (.two (.cons (.c (.v _)) (.cons (.c (.v _)) .nil))))

end Go.Dn
