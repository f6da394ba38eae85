/- Rules to walk through code with. -/
import Derived.Test.YtefaoeaohhdhkaaD17
set_option linter.unusedVariables false
set_option linter.unusedSimpArgs false
namespace Go.Dn
open Go

/-- A slot written: as 'upd', in a form that is quick to look through. -/
def set (e : Env) (d : Nat) (v : PV) : Env := fun j => bif Nat.beq j d then v else e j

theorem set_eq (e : Env) (d : Nat) (v : PV) : set e d v = upd e d v := by
  funext j
  simp only [set, upd]
  by_cases h : j = d
  · subst h; simp
  · have : Nat.beq j d = false := by
      cases hb : Nat.beq j d with
      | false => rfl
      | true => exact absurd (Nat.eq_of_beq_eq_true hb) h
    rw [this, if_neg h]
    rfl

/-- The operations of a region, in the text's order. -/
structure Ops (X : Ctx) (n : Nat) (dr : Bool) (ops : Array Oper) (base i : Nat) (l : List Oper) (e : Env) (σ : Heap) (K : Env → Heap → Prop) : Prop where
  run : ∃ e' σ', (if dr then runDraw X (callL X) n ops base i l e σ else runOps X (callL X) n ops base i l e σ) = some (e', σ') ∧ K e' σ'

variable {X : Ctx} {n : Nat} {dr : Bool} {fn : FuncId} {ops : Array Oper} {base i : Nat} {l : List Oper} {e : Env} {σ : Heap} {K : Env → Heap → Prop} {Q : Ex → Env → Heap → Prop} {c a b : Code}

/-- What comes behind the end of a piece of code. -/
def Then' (R : Env → Heap → Prop) (Q : Ex → Env → Heap → Prop) : Ex → Env → Heap → Prop
  | .normal, e, σ => R e σ
  | x, e, σ => Q x e σ

def InBlock (id : Nat) (Q : Ex → Env → Heap → Prop) : Ex → Env → Heap → Prop
  | .exit id', e, σ => if id' = id then Q .normal e σ else Q (.exit id') e σ
  | x, e, σ => Q x e σ

theorem then_normal {R : Env → Heap → Prop} : Then' R Q .normal e σ = R e σ := rfl
theorem then_ret {R : Env → Heap → Prop} : Then' R Q .ret e σ = Q .ret e σ := rfl
theorem then_exit {R : Env → Heap → Prop} {id : Nat} : Then' R Q (.exit id) e σ = Q (.exit id) e σ := rfl
theorem inBlock_normal {id : Nat} : InBlock id Q .normal e σ = Q .normal e σ := rfl
theorem inBlock_ret {id : Nat} : InBlock id Q .ret e σ = Q .ret e σ := rfl
theorem inBlock_exit {id id' : Nat} : InBlock id Q (.exit id') e σ = if id' = id then Q .normal e σ else Q (.exit id') e σ := rfl

theorem Runs.then (h : Runs X n fn a e σ (Then' (fun e σ => Runs X n fn b e σ Q) Q)) : Runs X n fn (.seq a b) e σ Q :=
  .seq (h.mono fun x e σ hx => by cases x <;> exact hx)

theorem Runs.inBlock {id : Nat} (h : Runs X n fn c e σ (InBlock id Q)) : Runs X n fn (.block id c) e σ Q :=
  .block (h.mono fun x e σ hx => by
    cases x with
    | exit id' =>
      simp only [InBlock] at hx
      by_cases hid : id' = id
      · simp only [hid, if_true] at hx ⊢; exact hx
      · simp only [hid, if_false] at hx
        rw [if_neg (by simpa using hid)]
        exact hx
    | normal => exact (by simpa [InBlock] using hx)
    | ret => exact (by simpa [InBlock] using hx))

theorem Runs.region {id m m' : Nat} {ent : Nat → Ent} (hm : m + l.length = m') (h : Ops X n false l.toArray m 0 l e ⟨m', ent⟩ (Q .normal)) : Runs X n fn (.region id l.toArray false) e ⟨m, ent⟩ Q := by
  subst hm
  obtain ⟨e', σ', h1, h2⟩ := h.run
  simp only [Bool.false_eq_true, if_false] at h1
  exact Runs.ops (r := (e', σ')) (by simpa using h1) h2

theorem Runs.drawn {id m m' : Nat} {ent : Nat → Ent} (hd : drawOK l.toArray = true) (hm : m + l.length = m') (h : Ops X n true l.toArray m 0 l e ⟨m', ent⟩ (Q .normal)) : Runs X n fn (.region id l.toArray true) e ⟨m, ent⟩ Q := by
  subst hm
  obtain ⟨e', σ', h1, h2⟩ := h.run
  simp only [if_true] at h1
  exact Runs.draw hd (r := (e', σ')) (by simpa using h1) h2

theorem Runs.whether {t : Operand} {v : Bool} (ht : operandD X e t = some (.v (.bool v))) (h1 : v = true → Runs X n fn a e σ Q) (h2 : v = false → Runs X n fn b e σ Q) : Runs X n fn (.cond t a b) e σ Q := .cond ht h1 h2
theorem Runs.yes {t : Operand} (ht : operandD X e t = some (.v (.bool true))) (h1 : Runs X n fn a e σ Q) : Runs X n fn (.cond t a b) e σ Q := .cond ht (fun _ => h1) (fun h => by cases h)
theorem Runs.yesB {t : Operand} {v : Bool} (ht : operandD X e t = some (.v (.bool v))) (hv : v = true) (h1 : Runs X n fn a e σ Q) : Runs X n fn (.cond t a b) e σ Q := .cond ht (fun _ => h1) (fun h => by rw [hv] at h; cases h)
theorem Runs.noB {t : Operand} {v : Bool} (ht : operandD X e t = some (.v (.bool v))) (hv : v = false) (h1 : Runs X n fn b e σ Q) : Runs X n fn (.cond t a b) e σ Q := .cond ht (fun h => by rw [hv] at h; cases h) (fun _ => h1)
theorem Runs.no {t : Operand} (ht : operandD X e t = some (.v (.bool false))) (h1 : Runs X n fn b e σ Q) : Runs X n fn (.cond t a b) e σ Q := .cond ht (fun h => by cases h) (fun _ => h1)

theorem Ops.nil (h : K e σ) : Ops X n dr ops base i [] e σ K := ⟨e, σ, by cases dr <;> rfl, h⟩

theorem Ops.step {o : Oper} {e1 : Env} {σ1 : Heap} (h : stepO X (callL X) n ops base i o e σ = some (e1, σ1)) (ha : dr = true → wantedD ops e o = some true → drawAsk X ops base i o e = true) (hk : Ops X n dr ops base (i + 1) l e1 σ1 K) : Ops X n dr ops base i (o :: l) e σ K := by
  obtain ⟨e', σ', h1, h2⟩ := hk.run
  refine ⟨⟨e', σ', ?_, h2⟩⟩
  cases dr with
  | false =>
    simp only [Bool.false_eq_true, if_false] at h1 ⊢
    simp only [runOps, h, Option.bind_some, h1]
  | true =>
    simp only [if_true] at h1 ⊢
    have : stepW X (callL X) n ops base i o e σ = some (e1, σ1) := by
      unfold stepW
      rw [if_neg]
      · exact h
      · rintro ⟨q1, q2⟩
        rw [ha rfl q1] at q2
        cases q2
    simp only [runDraw, this, Option.bind_some, h1]

/-- An operation that neither looks at memory nor calls. -/
def inert (op : Op) : Bool := opKind op == .pure && (match op with | .slice .. => false | _ => true)

theorem ask_inert {o : Oper} (h : inert o.op = true) : drawAsk X ops base i o e = true := by
  unfold inert at h
  simp only [Bool.and_eq_true, beq_iff_eq] at h
  unfold drawAsk
  rw [h.1]
  cases ho : o.op <;> rw [ho] at h <;> simp_all

theorem ask_read0 {o : Oper} (h : opKind o.op = .read) (ht : touched X e o.op = []) : drawAsk X ops base i o e = true := by
  unfold drawAsk
  rw [h, ht]
  rfl

theorem blt_lt {d m : Nat} (h : Nat.blt d m = true) : d < m := by
  rw [Nat.blt_eq] at h
  exact h

section
variable {d : Nat} {op : Op} {t : TypeId} {p : String} {af : Array Edge} {x : PV} {σ1 : Heap}

/-- An operation that nothing guards. -/
theorem Ops.plain (h : stepOp X (callL X) e σ (base + i) op = some (x, σ1)) (ha : dr = true → drawAsk X ops base i ⟨some d, op, t, p, af, none⟩ e = true) (hd : Nat.blt d n = true) (hk : Ops X n dr ops base (i + 1) l (set e d x) σ1 K) : Ops X n dr ops base i (⟨some d, op, t, p, af, none⟩ :: l) e σ K := by
  refine .step ?_ (fun hw _ => ha hw) hk
  simp only [stepO, wantedD, h, Option.bind_some, putD, if_pos (blt_lt hd), set_eq]

theorem Ops.plain0 (h : stepOp X (callL X) e σ (base + i) op = some (x, σ1)) (ha : dr = true → drawAsk X ops base i ⟨none, op, t, p, af, none⟩ e = true) (hk : Ops X n dr ops base (i + 1) l e σ1 K) : Ops X n dr ops base i (⟨none, op, t, p, af, none⟩ :: l) e σ K := by
  refine .step ?_ (fun hw _ => ha hw) hk
  simp only [stepO, wantedD, h, Option.bind_some, putD]

/-- What a guard reads is made plain. -/
theorem Ops.part {o : Oper} {g : Nat} {v : Bool} (h : e g = .v (.bool v)) (ht : v = true → Ops X n dr ops base i (o :: l) (set e g (.v (.bool true))) σ K) (hf : v = false → Ops X n dr ops base i (o :: l) (set e g (.v (.bool false))) σ K) : Ops X n dr ops base i (o :: l) e σ K := by
  have key : set e g (.v (.bool v)) = e := by
    rw [set_eq]
    funext k
    simp only [upd]
    split
    · rename_i hk; rw [hk, h]
    · rfl
  cases v with
  | true => rw [← key]; exact ht rfl
  | false => rw [← key]; exact hf rfl

variable {j g : Nat} {w : Bool}

theorem Ops.split {dst : Option Tmp} {v : Bool} (hg : (ops[j]?).bind (·.dst) = some g) (h : e g = .v (.bool v)) (ht : v = true → Ops X n dr ops base i (⟨dst, op, t, p, af, some (j, w)⟩ :: l) (set e g (.v (.bool true))) σ K)
    (hf : v = false → Ops X n dr ops base i (⟨dst, op, t, p, af, some (j, w)⟩ :: l) (set e g (.v (.bool false))) σ K) : Ops X n dr ops base i (⟨dst, op, t, p, af, some (j, w)⟩ :: l) e σ K := by
  have _ := hg
  exact .part h ht hf

theorem Ops.wanted {dst : Option Tmp} (hg : (ops[j]?).bind (·.dst) = some g) (he : e g = .v (.bool w)) (hk : Ops X n dr ops base i (⟨dst, op, t, p, af, none⟩ :: l) e σ K) : Ops X n dr ops base i (⟨dst, op, t, p, af, some (j, w)⟩ :: l) e σ K := by
  obtain ⟨e', σ', h1, h2⟩ := hk.run
  refine ⟨⟨e', σ', ?_, h2⟩⟩
  have this : wantedD ops e ⟨dst, op, t, p, af, some (j, w)⟩ = some true := by
    simp only [wantedD, hg, he]
    cases w <;> rfl
  have t2 : wantedD ops e ⟨dst, op, t, p, af, none⟩ = some true := rfl
  have s1 : stepO X (callL X) n ops base i ⟨dst, op, t, p, af, some (j, w)⟩ e σ = stepO X (callL X) n ops base i ⟨dst, op, t, p, af, none⟩ e σ := by
    unfold stepO
    rw [this, t2]
  have s2 : drawAsk X ops base i ⟨dst, op, t, p, af, some (j, w)⟩ e = drawAsk X ops base i ⟨dst, op, t, p, af, none⟩ e := rfl
  have s3 : stepW X (callL X) n ops base i ⟨dst, op, t, p, af, some (j, w)⟩ e σ = stepW X (callL X) n ops base i ⟨dst, op, t, p, af, none⟩ e σ := by
    unfold stepW
    rw [this, t2, s1, s2]
  rw [← h1]
  cases dr <;> simp only [Bool.false_eq_true, if_false, if_true, runOps, runDraw, s1, s3]

/-- The same, where it is known. -/
theorem Ops.knownT {dst : Option Tmp} {v : Bool} (hg : (ops[j]?).bind (·.dst) = some g) (h : e g = .v (.bool v)) (hv : v = true) (ht : Ops X n dr ops base i (⟨dst, op, t, p, af, some (j, w)⟩ :: l) (set e g (.v (.bool true))) σ K) : Ops X n dr ops base i (⟨dst, op, t, p, af, some (j, w)⟩ :: l) e σ K :=
  .split hg h (fun _ => ht) (fun h => by rw [hv] at h; cases h)
theorem Ops.knownF {dst : Option Tmp} {v : Bool} (hg : (ops[j]?).bind (·.dst) = some g) (h : e g = .v (.bool v)) (hv : v = false) (ht : Ops X n dr ops base i (⟨dst, op, t, p, af, some (j, w)⟩ :: l) (set e g (.v (.bool false))) σ K) : Ops X n dr ops base i (⟨dst, op, t, p, af, some (j, w)⟩ :: l) e σ K :=
  .split hg h (fun h => by rw [hv] at h; cases h) (fun _ => ht)

/-- A guarded operation that is wanted. -/
theorem Ops.want (hg : (ops[j]?).bind (·.dst) = some g) (he : e g = .v (.bool w)) (hk : Ops X n dr ops base i (⟨some d, op, t, p, af, none⟩ :: l) e σ K) : Ops X n dr ops base i (⟨some d, op, t, p, af, some (j, w)⟩ :: l) e σ K := .wanted hg he hk
theorem Ops.want0 (hg : (ops[j]?).bind (·.dst) = some g) (he : e g = .v (.bool w)) (hk : Ops X n dr ops base i (⟨none, op, t, p, af, none⟩ :: l) e σ K) : Ops X n dr ops base i (⟨none, op, t, p, af, some (j, w)⟩ :: l) e σ K := .wanted hg he hk

/-- A guarded operation that is not. -/
theorem Ops.pass (hg : (ops[j]?).bind (·.dst) = some g) (he : e g = .v (.bool (!w))) (hd : Nat.blt d n = true) (hk : Ops X n dr ops base (i + 1) l (set e d .undef) σ K) : Ops X n dr ops base i (⟨some d, op, t, p, af, some (j, w)⟩ :: l) e σ K := by
  have : wantedD ops e ⟨some d, op, t, p, af, some (j, w)⟩ = some false := by
    simp only [wantedD, hg, he]
    cases w <;> rfl
  refine .step ?_ (fun _ h => by rw [this] at h; cases h) hk
  simp only [stepO, this, putD, if_pos (blt_lt hd), set_eq]

theorem Ops.passU (hg : (ops[j]?).bind (·.dst) = some g) (he : e g = .undef) (hd : Nat.blt d n = true) (hk : Ops X n dr ops base (i + 1) l (set e d .undef) σ K) : Ops X n dr ops base i (⟨some d, op, t, p, af, some (j, w)⟩ :: l) e σ K := by
  have : wantedD ops e ⟨some d, op, t, p, af, some (j, w)⟩ = some false := by
    simp only [wantedD, hg, he]
  refine .step ?_ (fun _ h => by rw [this] at h; cases h) hk
  simp only [stepO, this, putD, if_pos (blt_lt hd), set_eq]

theorem Ops.pass0 (hg : (ops[j]?).bind (·.dst) = some g) (he : e g = .v (.bool (!w))) (hk : Ops X n dr ops base (i + 1) l e σ K) : Ops X n dr ops base i (⟨none, op, t, p, af, some (j, w)⟩ :: l) e σ K := by
  have : wantedD ops e ⟨none, op, t, p, af, some (j, w)⟩ = some false := by
    simp only [wantedD, hg, he]
    cases w <;> rfl
  refine .step ?_ (fun _ h => by rw [this] at h; cases h) hk
  simp only [stepO, this, putD]

theorem Ops.pass0U (hg : (ops[j]?).bind (·.dst) = some g) (he : e g = .undef) (hk : Ops X n dr ops base (i + 1) l e σ K) : Ops X n dr ops base i (⟨none, op, t, p, af, some (j, w)⟩ :: l) e σ K := by
  have : wantedD ops e ⟨none, op, t, p, af, some (j, w)⟩ = some false := by
    simp only [wantedD, hg, he]
  refine .step ?_ (fun _ h => by rw [this] at h; cases h) hk
  simp only [stepO, this, putD]

/-- A call of a function on values without references. -/
theorem Ops.call {f : FuncId} {args : Array Operand} {ts : Array TypeId} {ys : List PV} {r : PV} (ha : operandsD X e args.toList = some ys) (hf : Fn X f ys r) (hd : Nat.blt d n = true) (hk : Ops X n dr ops base (i + 1) l (set e d r) σ K) :
    Ops X n dr ops base i (⟨some d, .call { callee := .value (.func f), args := args, argTypes := ts }, t, p, af, none⟩ :: l) e σ K :=
  .plain (x := r) (σ1 := σ) (by simp only [stepOp, callOpD, ha, operandD, hf.call σ]) (fun _ => by
    simp only [drawAsk, opKind, ha, callAsk, operandD, pure_calm hf.pure, hf.opn, hf.keep, Bool.not_false, Bool.and_self]) hd hk
end

/-! ### One rule for each common operation -/
section
variable {d : Nat} {t t1 t2 : TypeId} {p : String} {af : Array Edge} {x y : Operand} {v : PV}

theorem ask_bin {op : BinOp} {u v : FV} {o : Oper} (hx : operandD X e x = some (.v u)) (hy : operandD X e y = some (.v v)) (ho : o.op = .binOp op t1 x y t2 := by rfl) : drawAsk X ops base i o e = true := by
  by_cases h : opKind o.op = .pure
  · exact ask_inert (by rw [ho] at h; simp only [inert, ho, h]; rfl)
  · refine ask_read0 ?_ ?_
    · rw [ho] at h ⊢
      cases op <;> first | rfl | exact absurd rfl h
    · rw [ho]
      simp only [touched, opLooks, List.flatMap_cons, List.flatMap_nil, hx, hy, vids, List.append_nil]

theorem Ops.move (hx : operandD X e x = some v) (hd : Nat.blt d n = true) (hk : Ops X n dr ops base (i + 1) l (set e d v) σ K) : Ops X n dr ops base i (⟨some d, .move x, t, p, af, none⟩ :: l) e σ K :=
  .plain (by simp only [stepOp, hx, Option.map_some]) (fun _ => ask_inert rfl) hd hk

theorem Ops.assign (hx : operandD X e x = some v) (hd : Nat.blt d n = true) (hk : Ops X n dr ops base (i + 1) l (set e d v) σ K) : Ops X n dr ops base i (⟨some d, .assign x, t, p, af, none⟩ :: l) e σ K :=
  .plain (by simp only [stepOp, hx, Option.map_some]) (fun _ => ask_inert rfl) hd hk

theorem Ops.int {op : BinOp} {k : IntKind} {m m' : Int} {r : FV} (hx : operandD X e x = some (.v (.int k m))) (hy : operandD X e y = some (.v (.int k m'))) (hop : (op != .shl && op != .shr) = true) (hr : intBin op k m m' = some r) (hd : Nat.blt d n = true) (hk : Ops X n dr ops base (i + 1) l (set e d (.v r)) σ K) :
    Ops X n dr ops base i (⟨some d, .binOp op t1 x y t2, t, p, af, none⟩ :: l) e σ K := by
  refine .plain (x := .v r) (σ1 := σ) ?_ (fun _ => ask_bin hx hy) hd hk
  simp only [stepOp, hx, hy]
  cases op <;> simp [binD, hr] at hop ⊢

theorem Ops.shl {k k' : IntKind} {m m' : Int} (hx : operandD X e x = some (.v (.int k m))) (hy : operandD X e y = some (.v (.int k' m'))) (h0 : 0 ≤ m') (hd : Nat.blt d n = true) (hk : Ops X n dr ops base (i + 1) l (set e d (.v (.int k (k.wrap (m * 2 ^ min m'.toNat k.bits))))) σ K) :
    Ops X n dr ops base i (⟨some d, .binOp .shl t1 x y t2, t, p, af, none⟩ :: l) e σ K := by
  refine .plain (σ1 := σ) ?_ (fun _ => ask_bin hx hy) hd hk
  simp only [stepOp, hx, hy, binD, if_neg (Int.not_lt.2 h0), Option.map_some]

theorem Ops.shr {k k' : IntKind} {m m' : Int} (hx : operandD X e x = some (.v (.int k m))) (hy : operandD X e y = some (.v (.int k' m'))) (h0 : 0 ≤ m') (hd : Nat.blt d n = true) (hk : Ops X n dr ops base (i + 1) l (set e d (.v (.int k (m.fdiv (2 ^ min m'.toNat k.bits))))) σ K) :
    Ops X n dr ops base i (⟨some d, .binOp .shr t1 x y t2, t, p, af, none⟩ :: l) e σ K := by
  refine .plain (σ1 := σ) ?_ (fun _ => ask_bin hx hy) hd hk
  simp only [stepOp, hx, hy, binD, if_neg (Int.not_lt.2 h0), Option.map_some]

theorem Ops.quo {k : IntKind} {m m' : Int} (hx : operandD X e x = some (.v (.int k m))) (hy : operandD X e y = some (.v (.int k m'))) (h0 : m' ≠ 0) (hd : Nat.blt d n = true) (hk : Ops X n dr ops base (i + 1) l (set e d (.v (.int k (k.wrap (m.tdiv m'))))) σ K) :
    Ops X n dr ops base i (⟨some d, .binOp .quo t1 x y t2, t, p, af, none⟩ :: l) e σ K :=
  .int hx hy rfl (by simp only [intBin, if_neg h0]) hd hk

theorem Ops.rem {k : IntKind} {m m' : Int} (hx : operandD X e x = some (.v (.int k m))) (hy : operandD X e y = some (.v (.int k m'))) (h0 : m' ≠ 0) (hd : Nat.blt d n = true) (hk : Ops X n dr ops base (i + 1) l (set e d (.v (.int k (m.tmod m')))) σ K) :
    Ops X n dr ops base i (⟨some d, .binOp .rem t1 x y t2, t, p, af, none⟩ :: l) e σ K :=
  .int hx hy rfl (by simp only [intBin, if_neg h0]) hd hk

theorem Ops.eqB {b b' : Bool} (hx : operandD X e x = some (.v (.bool b))) (hy : operandD X e y = some (.v (.bool b'))) (ht : X.P.underlying t1 = some .bool) (hd : Nat.blt d n = true) (hk : Ops X n dr ops base (i + 1) l (set e d (.v (.bool (b == b')))) σ K) :
    Ops X n dr ops base i (⟨some d, .binOp .eql t1 x y t2, t, p, af, none⟩ :: l) e σ K := by
  refine .plain (σ1 := σ) ?_ (fun _ => ask_bin hx hy) hd hk
  simp only [stepOp, hx, hy, binD, guardFree, if_true, eqD, ht, Option.map_some]

theorem Ops.neB {b b' : Bool} (hx : operandD X e x = some (.v (.bool b))) (hy : operandD X e y = some (.v (.bool b'))) (ht : X.P.underlying t1 = some .bool) (hd : Nat.blt d n = true) (hk : Ops X n dr ops base (i + 1) l (set e d (.v (.bool (b != b')))) σ K) :
    Ops X n dr ops base i (⟨some d, .binOp .neq t1 x y t2, t, p, af, none⟩ :: l) e σ K := by
  refine .plain (σ1 := σ) ?_ (fun _ => ask_bin hx hy) hd hk
  simp only [stepOp, hx, hy, binD, guardFree, if_true, eqD, ht, Option.map_some]
  rfl

theorem Ops.not {b : Bool} (hx : operandD X e x = some (.v (.bool b))) (hd : Nat.blt d n = true) (hk : Ops X n dr ops base (i + 1) l (set e d (.v (.bool (!b)))) σ K) : Ops X n dr ops base i (⟨some d, .unOp .not t1 x, t, p, af, none⟩ :: l) e σ K :=
  .plain (by simp only [stepOp, hx, Option.bind_some, unD, Option.map_some]) (fun _ => ask_inert rfl) hd hk

theorem Ops.neg {k : IntKind} {m : Int} (hx : operandD X e x = some (.v (.int k m))) (hd : Nat.blt d n = true) (hk : Ops X n dr ops base (i + 1) l (set e d (.v (.int k (k.wrap (0 - m))))) σ K) : Ops X n dr ops base i (⟨some d, .unOp .neg t1 x, t, p, af, none⟩ :: l) e σ K :=
  .plain (by simp only [stepOp, hx, Option.bind_some, unD, Option.map_some]) (fun _ => ask_inert rfl) hd hk

theorem Ops.conv {k k' : IntKind} {m : Int} {de : TypeDesc} (hx : operandD X e x = some (.v (.int k m))) (h1 : X.P.underlying t1 = some de) (h2 : tint X.P t2 = some k') (hd : Nat.blt d n = true) (hk : Ops X n dr ops base (i + 1) l (set e d (.v (.int k' (k'.wrap m)))) σ K) : Ops X n dr ops base i (⟨some d, .convert t1 t2 x, t, p, af, none⟩ :: l) e σ K :=
  .plain (by simp only [stepOp, hx, Option.bind_some, convD, h1, h2, Option.map_some]) (fun _ => ask_inert rfl) hd hk

theorem Ops.pickT {c : Operand} (hc : operandD X e c = some (.v (.bool true))) (hx : operandD X e x = some v) (hd : Nat.blt d n = true) (hk : Ops X n dr ops base (i + 1) l (set e d v) σ K) : Ops X n dr ops base i (⟨some d, .pick c x y, t, p, af, none⟩ :: l) e σ K :=
  .plain (by simp only [stepOp, hc, hx, Option.map_some]) (fun _ => ask_inert rfl) hd hk
theorem Ops.pickF {c : Operand} (hc : operandD X e c = some (.v (.bool false))) (hx : operandD X e y = some v) (hd : Nat.blt d n = true) (hk : Ops X n dr ops base (i + 1) l (set e d v) σ K) : Ops X n dr ops base i (⟨some d, .pick c x y, t, p, af, none⟩ :: l) e σ K :=
  .plain (by simp only [stepOp, hc, hx, Option.map_some]) (fun _ => ask_inert rfl) hd hk

theorem Ops.moveV {u : FV} (hx : operandD X e x = some (.v u)) (hd : Nat.blt d n = true) (hk : Ops X n dr ops base (i + 1) l (set e d (.v u)) σ K) : Ops X n dr ops base i (⟨some d, .move x, t, p, af, none⟩ :: l) e σ K := .move hx hd hk
theorem Ops.assignV {u : FV} (hx : operandD X e x = some (.v u)) (hd : Nat.blt d n = true) (hk : Ops X n dr ops base (i + 1) l (set e d (.v u)) σ K) : Ops X n dr ops base i (⟨some d, .assign x, t, p, af, none⟩ :: l) e σ K := .assign hx hd hk
theorem Ops.moveT {u : List PV} (hx : operandD X e x = some (.tup u)) (hd : Nat.blt d n = true) (hk : Ops X n dr ops base (i + 1) l (set e d (.tup u)) σ K) : Ops X n dr ops base i (⟨some d, .move x, t, p, af, none⟩ :: l) e σ K := .move hx hd hk
theorem Ops.moveA {u : List PV} (hx : operandD X e x = some (.agg u)) (hd : Nat.blt d n = true) (hk : Ops X n dr ops base (i + 1) l (set e d (.agg u)) σ K) : Ops X n dr ops base i (⟨some d, .move x, t, p, af, none⟩ :: l) e σ K := .move hx hd hk
theorem Ops.assignA {u : List PV} (hx : operandD X e x = some (.agg u)) (hd : Nat.blt d n = true) (hk : Ops X n dr ops base (i + 1) l (set e d (.agg u)) σ K) : Ops X n dr ops base i (⟨some d, .assign x, t, p, af, none⟩ :: l) e σ K := .assign hx hd hk
theorem Ops.pickTV {c : Operand} {u : FV} (hc : operandD X e c = some (.v (.bool true))) (hx : operandD X e x = some (.v u)) (hd : Nat.blt d n = true) (hk : Ops X n dr ops base (i + 1) l (set e d (.v u)) σ K) : Ops X n dr ops base i (⟨some d, .pick c x y, t, p, af, none⟩ :: l) e σ K := .pickT hc hx hd hk
theorem Ops.pickFV {c : Operand} {u : FV} (hc : operandD X e c = some (.v (.bool false))) (hx : operandD X e y = some (.v u)) (hd : Nat.blt d n = true) (hk : Ops X n dr ops base (i + 1) l (set e d (.v u)) σ K) : Ops X n dr ops base i (⟨some d, .pick c x y, t, p, af, none⟩ :: l) e σ K := .pickF hc hx hd hk

theorem Ops.extract {vs : List PV} {j : Nat} (hx : operandD X e x = some (.tup vs)) (hj : vs[j]? = some v) (hd : Nat.blt d n = true) (hk : Ops X n dr ops base (i + 1) l (set e d v) σ K) : Ops X n dr ops base i (⟨some d, .extract x j, t, p, af, none⟩ :: l) e σ K :=
  .plain (by simp only [stepOp, hx, hj, Option.map_some]) (fun _ => ask_inert rfl) hd hk
end

/-! ### A function's end -/
def plainRes : PV → Bool
  | .tup xs => xs.all PV.pure
  | x => x.pure

theorem expVal_pure {x : PV} (h : x.pure = true) : expVal σ x = some (x, σ) := by
  have := expArg_pure (σ := σ) h
  cases x <;> simp [PV.pure] at h <;> exact this

theorem expVals_pure : ∀ {xs : List PV}, xs.all PV.pure = true → expVals σ xs = some (xs, σ)
  | [], _ => rfl
  | x :: xs, h => by
    simp only [List.all_cons, Bool.and_eq_true] at h
    simp [expVals, expVal_pure h.1, expVals_pure h.2]

theorem expRes_pure {x : PV} (h : plainRes x = true) : expRes σ x = some (x, σ) := by
  cases x with
  | tup xs => simp only [plainRes] at h; simp [expRes, expVals_pure h]
  | v y => exact expVal_pure (x := .v y) h
  | fptr y => exact expVal_pure (x := .fptr y) h
  | agg y => exact expVal_pure (x := .agg y) h
  | _ => simp [plainRes, PV.pure] at h

/-- What stands at a function's end. -/
structure Ends (X : Ctx) (rs : List ResultVar) (r : PV) (x : Ex) (e : Env) (σ : Heap) : Prop where
  out : (x = .normal ∨ x = .ret) ∧ ∃ xs σ', resultsD X.P e σ rs = some xs ∧ expRes σ (packD xs) = some (r, σ')

theorem Ends.ret {rs : List ResultVar} {xs : List PV} {r : PV} (h : resultsD X.P e σ rs = some xs) (hp : plainRes (packD xs) = true) (hr : packD xs = r) : Ends X rs r .ret e σ :=
  ⟨.inr rfl, xs, σ, h, by rw [← hr]; exact expRes_pure hp⟩
theorem Ends.normal {rs : List ResultVar} {xs : List PV} {r : PV} (h : resultsD X.P e σ rs = some xs) (hp : plainRes (packD xs) = true) (hr : packD xs = r) : Ends X rs r .normal e σ :=
  ⟨.inl rfl, xs, σ, h, by rw [← hr]; exact expRes_pure hp⟩

theorem Fn.ends {f : FuncId} {args : List PV} {r : PV} {fu : Func} {c : Code} {m : Nat} (hf : X.P.funcs[f]? = some fu) (hb : fu.body = some c) (hi : X.intr f args = none) (hk : X.keep f = false) (ho : X.opn f = false) (hp : args.all PV.pure = true) (hm : max fu.ntmps args.length = m)
    (h : Runs X m f c (envOf args) ⟨0, fun _ => .none⟩ (Ends X fu.results.toList r)) : Fn X f args r :=
  .of hf hb hi hk ho hp (by subst hm; exact h.mono fun _ _ _ hx => hx.out)

/-! ### Small facts for reckoning -/
theorem ofVal_int (k : IntKind) (m : Int) : PV.ofVal (.int k m) = some (.v (.int k m)) := rfl
theorem ofVal_bool (b : Bool) : PV.ofVal (.bool b) = some (.v (.bool b)) := rfl
theorem ofVal_str (b : ByteArray) : PV.ofVal (.string b) = some (.v (.str b)) := rfl

theorem env_zero {x : PV} {xs : List PV} : envOf (x :: xs) 0 = x := rfl
theorem env_succ {x : PV} {xs : List PV} {k : Nat} : envOf (x :: xs) (k + 1) = envOf xs k := rfl

end Go.Dn
