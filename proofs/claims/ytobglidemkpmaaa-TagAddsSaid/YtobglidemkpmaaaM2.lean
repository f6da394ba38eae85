/- Part 2 of what the row stands on. -/
import Derived.Test.YtobglidemkpmaaaProg
import Derived.KernelRfl
import Derived.Test.YtobglidemkpmaaaM1
set_option linter.unusedVariables false
set_option linter.unusedSimpArgs false
namespace Go.Dn
open Go

section
variable {X : Ctx} {n : Nat} {fn : FuncId} {ops : Array Oper} {base i : Nat} {l : List Oper} {e : Env} {σ : Heap} {K : Env → Heap → Prop}
variable {d : Nat} {t t1 : TypeId} {p : String} {af : Array Edge} {x y z : Operand} {lo hi k : Nat} {L : List Res}

theorem Ops.makeMapH (H : Has σ lo hi L) (hlo : lo ≤ base + i) (hhi : base + i < hi) (ht : tmap X.P t1 = true) (hd : Nat.blt d n = true)
  (hk : ∀ σ', Has σ' (base + i + 1) hi (.mp (base + i) [] :: L) → Ops X n false ops base (i + 1) l (set e d (.mp (base + i))) σ' K) :
  Ops X n false ops base i (⟨some d, .makeMap t1 none, t, p, af, none⟩ :: l) e σ K :=
 .plain (x := .mp (base + i)) (σ1 := σ.put (base + i) (.map [])) (by simp only [ZJ, ht, if_true]) (fun h => by cases h) hd
  (hk _ (H.push hlo hhi (r' := .mp (base + i) []) Z1Z rfl))

theorem Has.mpE (H : Has σ lo hi L) {id : Nat} {kv : List (Int × Int)} (hk : L[k]? = some (.mp id kv)) : σ.ent id = .map kv := H.holds k _ hk

theorem Ops.lookupH {id : Nat} {kv : List (Int × Int)} {a : Int} (H : Has σ lo hi L) (k : Nat) (hk : L[k]? = some (.mp id kv)) (hx : Z1 X e x = some (.mp id)) (hy : Z1 X e y = some (.v (.int .i64 a))) (ht : tmap X.P t1 = true) (hd : Nat.blt d n = true)
  (hk' : Ops X n false ops base (i + 1) l (set e d (.v (.int .i64 (mget kv a)))) σ K) : Ops X n false ops base i (⟨some d, .lookup t1 x y false, t, p, af, none⟩ :: l) e σ K :=
 .plain (x := .v (.int .i64 (mget kv a))) (σ1 := σ) (by simp only [ZJ, hx, hy, mgetD, ht, if_true, H.mpE hk, Option.map_some]) (fun h => by cases h) hd hk'

theorem Ops.mapUpdateH {id : Nat} {kv : List (Int × Int)} {a b : Int} (H : Has σ lo hi L) (k : Nat) (hk : L[k]? = some (.mp id kv)) (hx : Z1 X e x = some (.mp id)) (hy : Z1 X e y = some (.v (.int .i64 a))) (hz : Z1 X e z = some (.v (.int .i64 b))) (ht : tmap X.P t1 = true)
  (hk' : ∀ σ', Has σ' lo hi (L.set k (.mp id (mput kv a b))) → Ops X n false ops base (i + 1) l e σ' K) : Ops X n false ops base i (⟨none, .mapUpdate t1 x y z, t, p, af, none⟩ :: l) e σ K :=
 .plain0 (x := .undef) (σ1 := σ.put id (.map (mput kv a b))) (by simp only [ZJ, hx, hy, hz, mupdD, ht, if_true, H.mpE hk, Option.map_some]) (fun h => by cases h)
  (hk' _ (H.put hk rfl (r' := .mp id (mput kv a b)) Z1Z rfl))
end

theorem Ops.nila {X : Ctx} {n : Nat} {dr : Bool} {ops : Array Oper} {base i : Nat} {e : Env} {σ : Heap} {K : Env → Heap → Prop} {lo hi : Nat} {L : List Res} (H : Has σ lo hi L) (h : Hs σ L → K e σ) : Ops X n dr ops base i [] e σ K := .nil (h H.all)

theorem Ops.callFX {X : Ctx} {n : Nat} {dr : Bool} {ops : Array Oper} {base i : Nat} {l : List Oper} {e : Env} {σ : Heap} {K : Env → Heap → Prop} {d : Nat} {t : TypeId} {p : String} {af : Array Edge} {x : Operand} {lo hi : Nat} {L : List Res}
  {f : FuncId} {args : Array Operand} {ts : Array TypeId} {xs ys : List PV} {r : PV} {L' : List Res} (H : Has σ lo hi L) (hx : Z1 X e x = some (.v (.fn f))) (ha : Zd X e args.toList = some xs) (hE : ExpVs L xs ys L') (hf : Fn X f ys r) (hi0 : X.intr f xs = none) (hi1 : X.intr f ys = none) (hdr : dr = true → Z33 (Region.before ops) ops i = true) (hd : Nat.blt d n = true)
  (hk : ∀ σ', Has σ' lo hi L' → Ops X n dr ops base (i + 1) l (set e d r) σ' K) :
  Ops X n dr ops base i (⟨some d, .call { callee := .value x, args := args, argTypes := ts }, t, p, af, none⟩ :: l) e σ K := by
 obtain ⟨σ', q1, q2, q3, _⟩ := Z5d H hE
 exact .plain (x := r) (σ1 := σ') (by simp only [ZJ, Z03, ha, hx, callL_exp hf hi0 hi1 q2]) (fun h => Z4k (hdr h)) hd (hk σ' q3)

theorem callO_exp {X : Ctx} {f : FuncId} {args ys : List PV} {r : PV} {σ σ' σ2 : Heap} (hk : X.keep f = false) (ho : X.opn f = true) (hi0 : X.intr f args = none) (hi1 : X.intr f ys = none) (he : Z0c σ args = some (ys, σ')) (hp : ys.all PV.pure = true) (h : Z0X X (.fn f) ys σ' = some (r, σ2)) : Z0X X (.fn f) args σ = some (r, σ2) := by
 obtain ⟨k, hk'⟩ := Z2b.1 h
 refine Z2b.2 ⟨k, ?_⟩
 cases k with
 | zero => simp [Z0b] at hk'
 | succ k =>
  simp only [Z0b, hi1, hk, Bool.false_eq_true, if_false, Z1a hp, ho, if_true] at hk'
  simp only [Z0b, hi0, hk, Bool.false_eq_true, if_false, he, ho, if_true]
  exact hk'

theorem Ops.callFOX {X : Ctx} {n : Nat} {dr : Bool} {ops : Array Oper} {base i : Nat} {l : List Oper} {e : Env} {σ : Heap} {K : Env → Heap → Prop} {d : Nat} {t : TypeId} {p : String} {af : Array Edge} {lo hi : Nat} {L : List Res}
  {f : FuncId} {args : Array Operand} {ts : Array TypeId} {xs ys : List PV} {PostA : PV → List Res → Prop} {L' : List Res} (H : Has σ lo hi L) (ha : Zd X e args.toList = some xs) (hE : ExpVs L xs ys L') (hf : FnO X f ys PostA) (hk0 : X.keep f = false) (ho : X.opn f = true) (hi0 : X.intr f xs = none) (hi1 : X.intr f ys = none) (hdr : dr = true → Z33 (Region.before ops) ops i = true) (hd : Nat.blt d n = true)
  (hk : ∀ r A' σ', PostA r A' → Has σ' lo hi (A' ++ L') → Ops X n dr ops base (i + 1) l (set e d r) σ' K) :
  Ops X n dr ops base i (⟨some d, .call { callee := .value (.func f), args := args, argTypes := ts }, t, p, af, none⟩ :: l) e σ K := by
 obtain ⟨σ', _, q1, q2, _, q3⟩ := Z5d H hE
 obtain ⟨r, σ2, A', p1, p2, p3⟩ := callI_back (X := X) (cv := .v (.fn f)) (ys := ys) (PostA := PostA) [] q2 (fun T _ H => hf σ' T H)
 refine .plain (x := r) (σ1 := σ2) ?_ (fun h => Z4k (hdr h)) hd (hk r A' σ2 p2 p3)
 simp only [ZJ, Z03, ha, Z1]
 exact callO_exp hk0 ho hi0 hi1 q1 q3 p1

section
variable {X : Ctx} {n : Nat} {dr : Bool} {ops : Array Oper} {base i : Nat} {l : List Oper} {e : Env} {σ : Heap} {K : Env → Heap → Prop}
variable {d : Nat} {t t1 : TypeId} {p : String} {af : Array Edge} {x y z : Operand} {lo hi k : Nat} {L : List Res}

end
end Go.Dn

namespace Go.Dn
open Go Go.Proofs
def cloneV (sz by_ : Nat) : List PV → Option PV
 | [.v (.sl xs)] => if (xs.all fun y => y.length == sz) = true ∧ xs.length * by_ ≤ room then some (.v (.sl xs)) else none
 | _ => none
noncomputable def CA : Ctx := { P := Try.prog, glob := fun _ => none, intr := fun f args => none, opn := fun f => f == 25, keep := fun f => false, lit := true }
noncomputable def C0 : Ctx := { P := Try.prog, glob := fun _ => none, intr := fun _ _ => none, opn := fun _ => false, keep := fun _ => false }
theorem prog_ok : ProgOK Try.prog := by
 refine ⟨fun f fn h => ?_, by kernel_rfl⟩
 have hall : Try.prog.funcs.all (fun fn => !(fn.name == "runtime.NumGoroutine")) = true := by kernel_rfl
 have := Array.all_eq_true_iff_forall_mem.1 hall fn (Array.mem_of_getElem? h)
 simpa using this
theorem ca_ok : CtxOK CA := by
 refine ⟨prog_ok, fun f args r h s hi hG vs hv hp => ?_⟩
 simp only [CA] at h
 cases h
noncomputable def CX : Ctx := { P := Try.prog, glob := fun _ => none, intr := fun f args => CA.intr f args, opn := fun f => f == 11 || f == 25, keep := fun f => false }
theorem cx_ok : CtxOK CX := by
 refine ⟨prog_ok, fun f args r h s hi hG vs hv hp => ?_⟩
 simp only [CX] at h
 exact ca_ok.intr f args r h s hi hG vs hv hp

end Go.Dn

namespace Go.Dn
open Go

structure Span where
 From : Int
 To : Int
 deriving DecidableEq

def Span.cs (x : Span) : List FV := [(.int .i64 x.From), (.int .i64 x.To)]

def Span.ok (x : Span) : Prop := okI .i64 x.From ∧ okI .i64 x.To

structure Granule where
 Index : Int
 Ticks : (List Span)
 deriving DecidableEq

def Granule.cs (x : Granule) : List FV := [(.int .i64 x.Index), (.sl (x.Ticks.map Span.cs))]

def Granule.ok (x : Granule) : Prop := okI .i64 x.Index ∧ okL 16 Span.ok x.Ticks

structure Form where
 Period : Int
 Count : Int
 Core : (List (List Span))
 Odd : (List Granule)
 deriving DecidableEq

def Form.cs (x : Form) : List FV := [(.int .i64 x.Period), (.int .i64 x.Count), (.sl (x.Core.map (cL Span.cs))), (.sl (x.Odd.map Granule.cs))]

def Form.ok (x : Form) : Prop := okI .i64 x.Period ∧ okI .i64 x.Count ∧ okL 24 (okL 16 Span.ok) x.Core ∧ okL 32 Granule.ok x.Odd

structure Bound where
 Inf : Int
 N : Int
 deriving DecidableEq

def Bound.cs (x : Bound) : List FV := [(.int .i8 x.Inf), (.int .i64 x.N)]

def Bound.ok (x : Bound) : Prop := okI .i8 x.Inf ∧ okI .i64 x.N

structure Range where
 Low : Int
 High : Int
 HasLow : Bool
 HasHigh : Bool
 deriving DecidableEq

def Range.cs (x : Range) : List FV := [(.int .i64 x.Low), (.int .i64 x.High), (.bool x.HasLow), (.bool x.HasHigh)]

def Range.ok (x : Range) : Prop := okI .i64 x.Low ∧ okI .i64 x.High ∧ okB x.HasLow ∧ okB x.HasHigh

structure size_place where
 first : Int
 last : Int
 deriving DecidableEq

def size_place.cs (x : size_place) : List FV := [(.int .i64 x.first), (.int .i64 x.last)]

def size_place.ok (x : size_place) : Prop := okI .i64 x.first ∧ okI .i64 x.last

structure size_spot where
 index : Int
 place : size_place
 deriving DecidableEq

def size_spot.cs (x : size_spot) : List FV := [(.int .i64 x.index), (.int .i64 x.place.first), (.int .i64 x.place.last)]

def size_spot.ok (x : size_spot) : Prop := okI .i64 x.index ∧ size_place.ok x.place

structure size_form where
 Form : Form
 spots : (List size_spot)
 deriving DecidableEq

def size_form.cs (x : size_form) : List FV := [(.int .i64 x.Form.Period), (.int .i64 x.Form.Count), (.sl (x.Form.Core.map (cL Span.cs))), (.sl (x.Form.Odd.map Granule.cs)), (.sl (x.spots.map size_spot.cs))]

def size_form.ok (x : size_form) : Prop := Form.ok x.Form ∧ okL 24 size_spot.ok x.spots

structure carry_asked where
 f : Form
 m : Int
 deriving DecidableEq

def carry_asked.cs (x : carry_asked) : List FV := [(.int .i64 x.f.Period), (.int .i64 x.f.Count), (.sl (x.f.Core.map (cL Span.cs))), (.sl (x.f.Odd.map Granule.cs)), (.int .i64 x.m)]

def carry_asked.ok (x : carry_asked) : Prop := Form.ok x.f ∧ okI .i64 x.m

structure Con where
 X : Int
 Y : Int
 Form : Int
 Range : Range
 deriving DecidableEq

def Con.cs (x : Con) : List FV := [(.int .i64 x.X), (.int .i64 x.Y), (.int .i64 x.Form), (.int .i64 x.Range.Low), (.int .i64 x.Range.High), (.bool x.Range.HasLow), (.bool x.Range.HasHigh)]

def Con.ok (x : Con) : Prop := okI .i64 x.X ∧ okI .i64 x.Y ∧ okI .i64 x.Form ∧ Range.ok x.Range

structure Net where
 Vars : Int
 Forms : (List Form)
 Cons : (List Con)
 deriving DecidableEq

def Net.cs (x : Net) : List FV := [(.int .i64 x.Vars), (.sl (x.Forms.map Form.cs)), (.sl (x.Cons.map Con.cs))]

def Net.ok (x : Net) : Prop := okI .i64 x.Vars ∧ okL 64 Form.ok x.Forms ∧ okL 48 Con.ok x.Cons

noncomputable def Zq.s0 (f : Form) (s1 : Int × Int) : Option ((Int × Int) ⊕ (Int)) :=
 (bif (decide (s1.2 < (f.Core.length : Int))) then
  (at? f.Core s1.2).bind fun x1 =>
  some (.inl ((w64 (s1.1 + (x1.length : Int))), (w64 (s1.2 + 1))))
 else
  some (.inr s1.1))

noncomputable def Zq.s1 (f : Form) (s2 : Int × Int) : Option ((Int × Int) ⊕ (Int)) :=
 (bif (decide (s2.2 < (f.Odd.length : Int))) then
  (at? f.Odd s2.2).bind fun x2 =>
  some (.inl ((w64 (s2.1 + (x2.Ticks.length : Int))), (w64 (s2.2 + 1))))
 else
  some (.inr s2.1))

noncomputable def Zq (f : Form) : Option (Int) :=
 (ZM (Zq.s0 f) (0, 0)).bind fun (y1 : Int) =>
 (ZM (Zq.s1 f) (y1, 0)).bind fun (y2 : Int) =>
 some y2

noncomputable def Z0M (f : Form) : Option (Bool) :=
 (
  (bif ((decide ((f.Core.length : Int) ≤ 12)) && (decide ((f.Odd.length : Int) ≤ 8))) then
   (Zq f).bind fun x1 =>
   some (decide (x1 ≤ 60))
  else
   some false)).bind fun (y1 : Bool) =>
 some y1

noncomputable def ZR (t : Int) : Bool :=
 ((decide (t ≥ (-1099511627776))) && (decide (t ≤ 1099511627776)))

noncomputable def Zt.s0 (l : (List Span)) (s1 : Int) : Option ((Int) ⊕ (Jx (Unit) (Bool))) :=
 (bif (decide (s1 < (l.length : Int))) then
  (at? l s1).bind fun x1 =>
  (
   (bif (((!(ZR x1.From)) || (!(ZR x1.To))) || (decide (x1.From > x1.To))) then
    some true
   else
    (
     (bif (decide (s1 > 0)) then
      (at? l (w64 (s1 - 1))).bind fun x2 =>
      some (decide (x1.From < (w64 (x2.To + 2))))
     else
      some false)).bind fun (y3 : Bool) =>
    some y3)).bind fun (y2 : Bool) =>
  (bif y2 then
   some (.inr (.ret false))
  else
   some (.inl (w64 (s1 + 1))))
 else
  some (.inr (.go ())))

noncomputable def Zt (l : (List Span)) : Option (Bool) :=
 (ZM (Zt.s0 l) 0).bind fun (y1 : Jx (Unit) (Bool)) =>
 y1.elim (fun r' =>
   some r') fun a2 =>
 some true

noncomputable def Zg (i : Int) : Bool :=
 ((decide (i ≥ (-1099511627776))) && (decide (i ≤ 1099511627776)))

noncomputable def Zc.s0 (f : Form) (s1 : Int) : Option ((Int) ⊕ (Jx (Unit) (Bool))) :=
 (bif (decide (s1 < (f.Core.length : Int))) then
  (at? f.Core s1).bind fun x1 =>
  (Zt x1).bind fun x2 =>
  (bif (!x2) then
   some (.inr (.ret false))
  else
   some (.inl (w64 (s1 + 1))))
 else
  some (.inr (.go ())))

noncomputable def Zc.s1 (f : Form) (s2 : Int) : Option ((Int) ⊕ (Jx (Unit) (Bool))) :=
 (bif (decide (s2 < (f.Odd.length : Int))) then
  (at? f.Odd s2).bind fun x3 =>
  (Zt x3.Ticks).bind fun x4 =>
  (
   (bif ((!x4) || (!(Zg x3.Index))) then
    some true
   else
    (
     (bif (decide (s2 > 0)) then
      (at? f.Odd (w64 (s2 - 1))).bind fun x5 =>
      some (decide (x3.Index ≤ x5.Index))
     else
      some false)).bind fun (y4 : Bool) =>
    some y4)).bind fun (y3 : Bool) =>
  (bif y3 then
   some (.inr (.ret false))
  else
   some (.inl (w64 (s2 + 1))))
 else
  some (.inr (.go ())))

noncomputable def Zc (f : Form) : Option (Bool) :=
 (bif ((((f.Count != (f.Core.length : Int)) || ((f.Count == 0) != (f.Period == 0))) || (decide (f.Period < 0))) || (decide (f.Period > 1099511627776))) then
  some false
 else
  (ZM (Zc.s0 f) 0).bind fun (y1 : Jx (Unit) (Bool)) =>
  y1.elim (fun r' =>
    some r') fun a2 =>
  (ZM (Zc.s1 f) 0).bind fun (y2 : Jx (Unit) (Bool)) =>
  y2.elim (fun r' =>
    some r') fun a4 =>
  some true)

noncomputable def Zy.s0 (f : Form) (s2 : Int × (List (List Span))) : Option ((Int × (List (List Span))) ⊕ ((List (List Span)))) :=
 (bif (decide (s2.1 < (f.Core.length : Int))) then
  (
   (
    (at? f.Core s2.1).bind fun x1 =>
    (bif (decide ((x1.length : Int) > 0)) then
     (app? 24 s2.2 [x1]).bind fun x2 =>
     some x2
    else
     some s2.2)).bind fun (y3 : (List (List Span))) =>
   some y3).bind fun (y2 : (List (List Span))) =>
  some (.inl ((w64 (s2.1 + 1)), y2))
 else
  some (.inr s2.2))

noncomputable def Zy.s1 (f : Form) (y1 : (List (List Span))) (s3 : Int) : Option ((Int) ⊕ (Jx (Unit) (Bool))) :=
 (bif (decide (s3 < (y1.length : Int))) then
  (
   (
    (at? y1 s3).bind fun x3 =>
    (nz? (y1.length : Int)).bind fun u1 =>
    (at? y1 ((w64 (s3 + 1)).tmod (y1.length : Int))).bind fun x4 =>
    (
     (bif ((w64 (s3 + 1)) == (y1.length : Int)) then
      some f.Period
     else
      some 0)).bind fun (y7 : Int) =>
    (at? x3 (w64 ((x3.length : Int) - 1))).bind fun x5 =>
    (at? x4 0).bind fun x6 =>
    (bif (decide (x5.To ≥ (w64 (x6.From + y7)))) then
     some (.ret false)
    else
     some (.go ()))).bind fun (y6 : Jx (Unit) (Bool)) =>
   y6.elim (fun r' =>
     some (.ret r')) fun a4 =>
   some (.go ())).bind fun (y5 : Jx (Unit) (Bool)) =>
  y5.elim (fun r' =>
    some (.inr (.ret r'))) fun a5 =>
  some (.inl (w64 (s3 + 1)))
 else
  some (.inr (.go ())))

noncomputable def Zy (f : Form) : Option (Bool) :=
 (ZM (Zy.s0 f) (0, [])).bind fun (y1 : (List (List Span))) =>
 (ZM (Zy.s1 f y1) 0).bind fun (y4 : Jx (Unit) (Bool)) =>
 y4.elim (fun r' =>
   some r') fun a6 =>
 some true

noncomputable def Z4.s0 (x' : (List Granule)) (target : Int) (cmp : Granule → Int → Option Int) (s1 : Int × Int) : Option ((Int × Int) ⊕ (Int)) :=
 (bif (decide (s1.1 < s1.2)) then
  (
   (at? x' (w64 ((IntKind.u64.wrap (w64 (s1.1 + s1.2))).fdiv (2 ^ 1)))).bind fun x1 =>
   (cmp x1 target).bind fun x2 =>
   (bif (decide (x2 < 0)) then
    some ((w64 ((w64 ((IntKind.u64.wrap (w64 (s1.1 + s1.2))).fdiv (2 ^ 1))) + 1)), s1.2)
   else
    some (s1.1, (w64 ((IntKind.u64.wrap (w64 (s1.1 + s1.2))).fdiv (2 ^ 1)))))).bind fun (y2 : Int × Int) =>
  some (.inl (y2.1, y2.2))
 else
  some (.inr s1.1))

noncomputable def Z4 (x' : (List Granule)) (target : Int) (cmp : Granule → Int → Option Int) : Option (Int × Bool) :=
 (ZM (Z4.s0 x' target cmp) (0, (x'.length : Int))).bind fun (y1 : Int) =>
 (
  (bif (decide (y1 < (x'.length : Int))) then
   (at? x' y1).bind fun x3 =>
   (cmp x3 target).bind fun x4 =>
   some (x4 == 0)
  else
   some false)).bind fun (y3 : Bool) =>
 some (y1, y3)

noncomputable def Zo (x' : Int) : Bool :=
 (x' != x')

noncomputable def Z0K (x' : Int) (y : Int) : Int :=
 (bif (Zo x') then
  (bif (Zo y) then
   0
  else
   (-1))
 else
  (bif (Zo y) then
   1
  else
   (bif (decide (x' < y)) then
    (-1)
   else
    (bif (decide (x' > y)) then
     1
    else
     0))))

noncomputable def Z2W (g : Granule) (i : Int) : Int :=
 (Z0K g.Index i)

noncomputable def Z3P (f : Form) (i : Int) : Option (Int × Bool) :=
 (Z4 f.Odd i (fun z0 z1 => some (Z2W z0 z1))).bind fun x1 =>
 some (x1.1, x1.2)

noncomputable def Z0y (a : Int) (b : Int) : Option (Int × Int × Int) :=
 (bif (b == 0) then
  some (0, 0, 11)
 else
  (bif ((b == (-1)) && (a == (-9223372036854775808))) then
   some (0, 0, 10)
  else
   (nz? b).bind fun u1 =>
   (nz? b).bind fun u2 =>
   (
    (bif (((a.tmod b) != 0) && ((decide ((a.tmod b) < 0)) != (decide (b < 0)))) then
     some ((w64 ((w64 (a.tdiv b)) - 1)), (w64 ((a.tmod b) + b)))
    else
     some ((w64 (a.tdiv b)), (a.tmod b)))).bind fun (y1 : Int × Int) =>
   some (y1.1, y1.2, 0)))

noncomputable def ZD (a : Int) : Int :=
 (bif (decide (a < 0)) then
  (IntKind.u64.wrap (0 - (IntKind.u64.wrap a)))
 else
  (IntKind.u64.wrap a))

noncomputable def ZH (x' : Int) (y : Int) : Int × Int :=
 ((IntKind.u64.wrap ((IntKind.u64.wrap ((IntKind.u64.wrap ((x'.fdiv (2 ^ 32)) * (y.fdiv (2 ^ 32)))) + ((IntKind.u64.wrap ((IntKind.u64.wrap ((x'.fdiv (2 ^ 32)) * (iAnd .u64 y 4294967295))) + ((IntKind.u64.wrap ((iAnd .u64 x' 4294967295) * (iAnd .u64 y 4294967295))).fdiv (2 ^ 32)))).fdiv (2 ^ 32)))) + ((IntKind.u64.wrap ((iAnd .u64 (IntKind.u64.wrap ((IntKind.u64.wrap ((x'.fdiv (2 ^ 32)) * (iAnd .u64 y 4294967295))) + ((IntKind.u64.wrap ((iAnd .u64 x' 4294967295) * (iAnd .u64 y 4294967295))).fdiv (2 ^ 32)))) 4294967295) + (IntKind.u64.wrap ((iAnd .u64 x' 4294967295) * (y.fdiv (2 ^ 32)))))).fdiv (2 ^ 32)))), (IntKind.u64.wrap (x' * y)))

noncomputable def Z0C (n : Int) (minus : Bool) : Int × Int :=
 (bif (minus && (decide (n ≤ 9223372036854775808))) then
  ((w64 (IntKind.u64.wrap (0 - n))), 0)
 else
  (bif ((!minus) && (decide (n ≤ 9223372036854775807))) then
   ((w64 n), 0)
  else
   (0, 10)))

noncomputable def Z0E (a : Int) (b : Int) : Int × Int :=
 (bif (((ZH (ZD a) (ZD b)).1) != 0) then
  (0, 10)
 else
  ((Z0C ((ZH (ZD a) (ZD b)).2) ((decide (a < 0)) != (decide (b < 0)))).1, (Z0C ((ZH (ZD a) (ZD b)).2) ((decide (a < 0)) != (decide (b < 0)))).2))

noncomputable def Z1n (f : Form) (i : Int) : Option ((List Span) × Int × Int) :=
 (Z3P f i).bind fun x1 =>
 (bif x1.2 then
  (at? f.Odd x1.1).bind fun x2 =>
  some (x2.Ticks, 0, 0)
 else
  (bif (f.Count == 0) then
   some ([], 0, 0)
  else
   (Z0y i f.Count).bind fun x3 =>
   (at? f.Core x3.2.1).bind fun x4 =>
   some (x4, (Z0E x3.1 f.Period).1, (Z0E x3.1 f.Period).2)))

noncomputable def ZB (a : Int) (b : Int) : Int × Int :=
 (bif (((decide ((w64 (a + b)) > a)) != (decide (b > 0))) && (b != 0)) then
  (0, 10)
 else
  ((w64 (a + b)), 0))

noncomputable def Z02.s0 (l : (List Span)) (by' : Int) (s2 : Int × (List Span)) : Option ((Int × (List Span)) ⊕ (Jx ((List Span)) ((List Span) × Int))) :=
 (bif (decide (s2.1 < (l.length : Int))) then
  (at? l s2.1).bind fun x1 =>
  (bif ((((((ZB x1.From by').2) != 0) || (((ZB x1.To by').2) != 0)) || (!(ZR ((ZB x1.From by').1)))) || (!(ZR ((ZB x1.To by').1)))) then
   some (.inr (.ret ([], 20)))
  else
   (app? 16 s2.2 [(Span.mk ((ZB x1.From by').1) ((ZB x1.To by').1))]).bind fun x2 =>
   some (.inl ((w64 (s2.1 + 1)), x2)))
 else
  some (.inr (.go s2.2)))

noncomputable def Z02 (l : (List Span)) (by' : Int) : Option ((List Span) × Int) :=
 (ZM (Z02.s0 l by') (0, [])).bind fun (y1 : Jx ((List Span)) ((List Span) × Int)) =>
 y1.elim (fun r' =>
   some r') fun a2 =>
 some (a2, 0)

noncomputable def Z09 (f : Form) (i : Int) : Option ((List Span) × Int) :=
 (bif (!(Zg i)) then
  some ([], 20)
 else
  (Z1n f i).bind fun x1 =>
  (bif ((x1.1.length : Int) == 0) then
   some ([], 0)
  else
   (bif (x1.2.2 != 0) then
    some ([], 20)
   else
    (Z02 x1.1 x1.2.1).bind fun x2 =>
    some (x2.1, x2.2))))

noncomputable def ZE.s0 (s : (List (List Span))) (f : (List Span) → Option Bool) (s1 : Int) : Option ((Int) ⊕ (Jx (Unit) (Int))) :=
 (bif (decide (s1 < (s.length : Int))) then
  (at? s s1).bind fun x1 =>
  (f x1).bind fun x2 =>
  (bif x2 then
   some (.inr (.ret s1))
  else
   some (.inl (w64 (s1 + 1))))
 else
  some (.inr (.go ())))

noncomputable def ZE (s : (List (List Span))) (f : (List Span) → Option Bool) : Option (Int) :=
 (ZM (ZE.s0 s f) 0).bind fun (y1 : Jx (Unit) (Int)) =>
 y1.elim (fun r' =>
   some r') fun a2 =>
 some (-1)

noncomputable def ZU (s : (List (List Span))) (f : (List Span) → Option Bool) : Option (Bool) :=
 (ZE s f).bind fun x1 =>
 some (decide (x1 ≥ 0))

noncomputable def Z3M (l : (List Span)) : Bool :=
 (decide ((l.length : Int) > 0))

noncomputable def Z30 (f : Form) : Option (Bool) :=
 (ZU f.Core (fun z0 => some (Z3M z0))).bind fun x1 =>
 some (!x1)

noncomputable def Z3B (f : Form) (i : Int) : Option (Bool) :=
 (Z1n f i).bind fun x1 =>
 some (decide ((x1.1.length : Int) > 0))

noncomputable def Zl.s0 (f : Form) (by' : Int) (s1 : Int) : Option ((Int) ⊕ (Jx (Unit) (Int × Bool))) :=
 (bif ((decide (s1 ≥ 0)) && (decide (s1 < (f.Odd.length : Int)))) then
  (at? f.Odd s1).bind fun x3 =>
  (bif (decide ((x3.Ticks.length : Int) > 0)) then
   (at? f.Odd s1).bind fun x4 =>
   some (.inr (.ret (x4.Index, true)))
  else
   some (.inl (w64 (s1 + by'))))
 else
  some (.inr (.go ())))

noncomputable def Zl.s1 (f : Form) (by' : Int) (s2 : Int) : Option ((Int) ⊕ (Jx (Unit) (Int × Bool))) :=
 (bif (Zg s2) then
  (Z3B f s2).bind fun x5 =>
  (bif x5 then
   some (.inr (.ret (s2, true)))
  else
   some (.inl (w64 (s2 + by'))))
 else
  some (.inr (.go ())))

noncomputable def Zl (f : Form) (from' : Int) (by' : Int) : Option (Int × Bool) :=
 (Z30 f).bind fun x1 =>
 (bif x1 then
  (Z3P f from').bind fun x2 =>
  (
   (bif ((decide (by' < 0)) && (!x2.2)) then
    some (w64 (x2.1 - 1))
   else
    some x2.1)).bind fun (y1 : Int) =>
  (ZM (Zl.s0 f by') y1).bind fun (y2 : Jx (Unit) (Int × Bool)) =>
  y2.elim (fun r' =>
    some r') fun a2 =>
  some (0, false)
 else
  (ZM (Zl.s1 f by') from').bind fun (y3 : Jx (Unit) (Int × Bool)) =>
  y3.elim (fun r' =>
    some r') fun a4 =>
  some (0, false))

noncomputable def Z0u (f : Form) (i : Int) : Option (Int × Bool) :=
 (bif (decide (i ≤ (-1099511627776))) then
  some (0, false)
 else
  (Zl f (iMin (w64 (i - 1)) 1099511627776) (-1)).bind fun x1 =>
  some (x1.1, x1.2))

noncomputable def Z0l (f : Form) (i : Int) : Option (Int × Bool) :=
 (bif (decide (i ≥ 1099511627776)) then
  some (0, false)
 else
  (Zl f (iMax (w64 (i + 1)) (-1099511627776)) 1).bind fun x1 =>
  some (x1.1, x1.2))

noncomputable def Z0P (a : (List Span)) (b : (List Span)) : Option (Bool) :=
 (
  (bif (((a.length : Int) == 0) || ((b.length : Int) == 0)) then
   some true
  else
   (at? a (w64 ((a.length : Int) - 1))).bind fun x1 =>
   (at? b 0).bind fun x2 =>
   some (decide (x1.To < x2.From)))).bind fun (y1 : Bool) =>
 some y1

noncomputable def Z14 (f : Form) (i : Int) : Option (Bool) :=
 (Z09 f i).bind fun x1 =>
 (bif (x1.2 != 0) then
  some false
 else
  (Z0u f i).bind fun x2 =>
  (Z0l f i).bind fun x3 =>
  (
   (bif x2.2 then
    (Z09 f x2.1).bind fun x4 =>
    (bif (x4.2 != 0) then
     some (.ret false)
    else
     some (.go x4.1))
   else
    some (.go []))).bind fun (y1 : Jx ((List Span)) (Bool)) =>
  y1.elim (fun r' =>
    some r') fun a2 =>
  (
   (bif x3.2 then
    (Z09 f x3.1).bind fun x5 =>
    (bif (x5.2 != 0) then
     some (.ret false)
    else
     some (.go x5.1))
   else
    some (.go []))).bind fun (y2 : Jx ((List Span)) (Bool)) =>
  y2.elim (fun r' =>
    some r') fun a4 =>
  (Z0P a2 x1.1).bind fun x6 =>
  (
   (bif x6 then
    (Z0P x1.1 a4).bind fun x7 =>
    some x7
   else
    some false)).bind fun (y3 : Bool) =>
  (
   (bif y3 then
    (Z0P a2 a4).bind fun x8 =>
    some x8
   else
    some false)).bind fun (y4 : Bool) =>
  some y4)

noncomputable def Zm.s0 (f : Form) (s1 : Int) : Option ((Int) ⊕ (Jx (Unit) (Int))) :=
 (bif (decide (s1 < (f.Odd.length : Int))) then
  (at? f.Odd s1).bind fun x4 =>
  (Z14 f x4.Index).bind fun x5 =>
  (bif (!x5) then
   some (.inr (.ret 50))
  else
   some (.inl (w64 (s1 + 1))))
 else
  some (.inr (.go ())))

noncomputable def Zm (f : Form) : Option (Int) :=
 (
  (bif ((decide ((f.Core.length : Int) > 6000)) || (decide ((f.Odd.length : Int) > 6000))) then
   some true
  else
   (Zq f).bind fun x1 =>
   some (decide (x1 > 60000)))).bind fun (y1 : Bool) =>
 (bif y1 then
  some 3
 else
  (Zc f).bind fun x2 =>
  (
   (bif (!x2) then
    some true
   else
    (Zy f).bind fun x3 =>
    some (!x3))).bind fun (y2 : Bool) =>
  (bif y2 then
   some 50
  else
   (ZM (Zm.s0 f) 0).bind fun (y3 : Jx (Unit) (Int)) =>
   y3.elim (fun r' =>
     some r') fun a2 =>
   some 0))

noncomputable def Z3A (f : Form) : Option (Bool) :=
 (Z0M f).bind fun x1 =>
 (
  (bif x1 then
   (Zm f).bind fun x2 =>
   some (x2 == 0)
  else
   some false)).bind fun (y1 : Bool) =>
 some y1

def Z0Z : Bool := true

noncomputable def Z1N.s0 (s1' : (List Span)) (s2' : (List Span)) (s1 : Int) : Option ((Int) ⊕ (Jx (Unit) (Bool))) :=
 (bif (decide (s1 < (s1'.length : Int))) then
  (at? s1' s1).bind fun x1 =>
  (at? s2' s1).bind fun x2 =>
  (bif (!((x1.From == x2.From) && ((x1.To == x2.To) && true))) then
   some (.inr (.ret false))
  else
   some (.inl (w64 (s1 + 1))))
 else
  some (.inr (.go ())))

noncomputable def Z1N (s1' : (List Span)) (s2' : (List Span)) : Option (Bool) :=
 (bif ((s1'.length : Int) != (s2'.length : Int)) then
  some false
 else
  (ZM (Z1N.s0 s1' s2') 0).bind fun (y1 : Jx (Unit) (Bool)) =>
  y1.elim (fun r' =>
    some r') fun a2 =>
  some true)

noncomputable def Z2U (a : (List Span)) (b : (List Span)) : Option (Bool) :=
 (Z1N a b).bind fun x1 =>
 some x1

noncomputable def epactlaw05_FormOrder (f : Form) (i : Int) (k : Int) : Option (Bool) :=
 (Z3A f).bind fun x1 =>
 (bif (!x1) then
  some Z0Z
 else
  (Z09 f (iMin i k)).bind fun x2 =>
  (Z09 f (iMax i k)).bind fun x3 =>
  (bif ((x2.2 != 0) || (x3.2 != 0)) then
   some ((((x2.2 == 0) || ((x2.2 == 20) && ((x2.1.length : Int) == 0))) && ((x3.2 == 0) || ((x3.2 == 20) && ((x3.1.length : Int) == 0)))) && Z0Z)
  else
   (Zt x2.1).bind fun x4 =>
   (
    (bif x4 then
     (Zt x3.1).bind fun x5 =>
     some x5
    else
     some false)).bind fun (y1 : Bool) =>
   (
    (bif y1 then
     (
      (bif ((iMin i k) == (iMax i k)) then
       (Z2U x2.1 x3.1).bind fun x6 =>
       some x6
      else
       some false)).bind fun (y3 : Bool) =>
     (
      (bif y3 then
       some true
      else
       (
        (bif (decide ((iMin i k) < (iMax i k))) then
         (Z0P x2.1 x3.1).bind fun x7 =>
         some x7
        else
         some false)).bind fun (y5 : Bool) =>
       some y5)).bind fun (y4 : Bool) =>
     some y4
    else
     some false)).bind fun (y2 : Bool) =>
   some (y2 && Z0Z)))

noncomputable def Z2t.s0 (f : Form) (i : Int) (s1 : Int) : Option ((Int) ⊕ (Jx (Unit) (Bool))) :=
 (bif (decide (s1 < (f.Odd.length : Int))) then
  (at? f.Odd s1).bind fun x1 =>
  (bif (x1.Index == i) then
   some (.inr (.ret true))
  else
   some (.inl (w64 (s1 + 1))))
 else
  some (.inr (.go ())))

noncomputable def Z2t (f : Form) (i : Int) : Option (Bool) :=
 (ZM (Z2t.s0 f i) 0).bind fun (y1 : Jx (Unit) (Bool)) =>
 y1.elim (fun r' =>
   some r') fun a2 =>
 some false

noncomputable def epactlaw05_FormTurns (f : Form) (i : Int) : Option (Bool) :=
 (Z3A f).bind fun x1 =>
 (
  (bif ((!x1) || (f.Count == 0)) then
   some true
  else
   (Z2t f ((w64 i).tmod 1048576)).bind fun x2 =>
   some x2)).bind fun (y1 : Bool) =>
 (
  (bif y1 then
   some true
  else
   (Z2t f (w64 (((w64 i).tmod 1048576) + f.Count))).bind fun x3 =>
   some x3)).bind fun (y2 : Bool) =>
 (bif y2 then
  some Z0Z
 else
  (Z09 f ((w64 i).tmod 1048576)).bind fun x4 =>
  (Z09 f (w64 (((w64 i).tmod 1048576) + f.Count))).bind fun x5 =>
  (bif ((x4.2 != 0) || (x5.2 != 0)) then
   some Z0Z
  else
   (Z02 x4.1 f.Period).bind fun x6 =>
   (
    (bif (x6.2 == 0) then
     (Z2U x6.1 x5.1).bind fun x7 =>
     some x7
    else
     some false)).bind fun (y3 : Bool) =>
   some (y3 && Z0Z)))

noncomputable def Z1I.s0 (f : Form) (i : Int) (x2 : Int × Bool) (s1 : Int) : Option ((Int) ⊕ (Jx (Int) (Bool))) :=
 (bif ((x2.2 && (decide (s1 < x2.1))) && (decide (s1 < (w64 (((w64 i).fdiv (2 ^ 1)) + 40))))) then
  (Z09 f s1).bind fun x4 =>
  (bif ((x4.2 == 0) && (decide ((x4.1.length : Int) > 0))) then
   some (.inr (.ret false))
  else
   some (.inl (w64 (s1 + 1))))
 else
  some (.inr (.go ((w64 i).fdiv (2 ^ 1)))))

noncomputable def Z1I.s1 (f : Form) (x3 : Int × Bool) (a2 : Int) (s2 : Int) : Option ((Int) ⊕ (Jx (Unit) (Bool))) :=
 (bif ((x3.2 && (decide (s2 > x3.1))) && (decide (s2 > (w64 (a2 - 40))))) then
  (Z09 f s2).bind fun x5 =>
  (bif ((x5.2 == 0) && (decide ((x5.1.length : Int) > 0))) then
   some (.inr (.ret false))
  else
   some (.inl (w64 (s2 - 1))))
 else
  some (.inr (.go ())))

noncomputable def Z1I (f : Form) (i : Int) : Option (Bool) :=
 (Z3A f).bind fun x1 =>
 (bif (!x1) then
  some Z0Z
 else
  (Z0l f ((w64 i).fdiv (2 ^ 1))).bind fun x2 =>
  (Z0u f ((w64 i).fdiv (2 ^ 1))).bind fun x3 =>
  (bif ((x2.2 && (decide (x2.1 ≤ ((w64 i).fdiv (2 ^ 1))))) || (x3.2 && (decide (x3.1 ≥ ((w64 i).fdiv (2 ^ 1)))))) then
   some false
  else
   (ZM (Z1I.s0 f i x2) (w64 (((w64 i).fdiv (2 ^ 1)) + 1))).bind fun (y1 : Jx (Int) (Bool)) =>
   y1.elim (fun r' =>
     some r') fun a2 =>
   (ZM (Z1I.s1 f x3 a2) (w64 (a2 - 1))).bind fun (y2 : Jx (Unit) (Bool)) =>
   y2.elim (fun r' =>
     some r') fun a4 =>
   (
    (bif x2.2 then
     (Z0u f x2.1).bind fun x6 =>
     (bif ((x6.2 && (decide (x6.1 > a2))) || (x3.2 && ((!x6.2) || (decide (x6.1 < x3.1))))) then
      some (.ret false)
     else
      some (.go ()))
    else
     some (.go ()))).bind fun (y3 : Jx (Unit) (Bool)) =>
   y3.elim (fun r' =>
     some r') fun a6 =>
   some Z0Z))

noncomputable def Z0G.s0 (s1' : (List Span)) (s2' : (List Span)) (eq : Span → Span → Option Bool) (s1 : Int) : Option ((Int) ⊕ (Jx (Unit) (Bool))) :=
 (bif (decide (s1 < (s1'.length : Int))) then
  (at? s1' s1).bind fun x1 =>
  (at? s2' s1).bind fun x2 =>
  (eq x1 x2).bind fun x3 =>
  (bif (!x3) then
   some (.inr (.ret false))
  else
   some (.inl (w64 (s1 + 1))))
 else
  some (.inr (.go ())))

noncomputable def Z0G (s1' : (List Span)) (s2' : (List Span)) (eq : Span → Span → Option Bool) : Option (Bool) :=
 (bif ((s1'.length : Int) != (s2'.length : Int)) then
  some false
 else
  (ZM (Z0G.s0 s1' s2' eq) 0).bind fun (y1 : Jx (Unit) (Bool)) =>
  y1.elim (fun r' =>
    some r') fun a2 =>
  some true)

noncomputable def Z06.s0 (s1' : (List (List Span))) (s2' : (List (List Span))) (eq : (List Span) → (List Span) → Option Bool) (s1 : Int) : Option ((Int) ⊕ (Jx (Unit) (Bool))) :=
 (bif (decide (s1 < (s1'.length : Int))) then
  (at? s1' s1).bind fun x1 =>
  (at? s2' s1).bind fun x2 =>
  (eq x1 x2).bind fun x3 =>
  (bif (!x3) then
   some (.inr (.ret false))
  else
   some (.inl (w64 (s1 + 1))))
 else
  some (.inr (.go ())))

noncomputable def Z06 (s1' : (List (List Span))) (s2' : (List (List Span))) (eq : (List Span) → (List Span) → Option Bool) : Option (Bool) :=
 (bif ((s1'.length : Int) != (s2'.length : Int)) then
  some false
 else
  (ZM (Z06.s0 s1' s2' eq) 0).bind fun (y1 : Jx (Unit) (Bool)) =>
  y1.elim (fun r' =>
    some r') fun a2 =>
  some true)

noncomputable def Zn.s0 (s1' : (List Granule)) (s2' : (List Granule)) (eq : Granule → Granule → Option Bool) (s1 : Int) : Option ((Int) ⊕ (Jx (Unit) (Bool))) :=
 (bif (decide (s1 < (s1'.length : Int))) then
  (at? s1' s1).bind fun x1 =>
  (at? s2' s1).bind fun x2 =>
  (eq x1 x2).bind fun x3 =>
  (bif (!x3) then
   some (.inr (.ret false))
  else
   some (.inl (w64 (s1 + 1))))
 else
  some (.inr (.go ())))

noncomputable def Zn (s1' : (List Granule)) (s2' : (List Granule)) (eq : Granule → Granule → Option Bool) : Option (Bool) :=
 (bif ((s1'.length : Int) != (s2'.length : Int)) then
  some false
 else
  (ZM (Zn.s0 s1' s2' eq) 0).bind fun (y1 : Jx (Unit) (Bool)) =>
  y1.elim (fun r' =>
    some r') fun a2 =>
  some true)

noncomputable def Z2k.s0 (a : (List Span)) (b : (List Span)) (s1 : Int) : Option ((Int) ⊕ (Jx (Unit) (Bool))) :=
 (bif (decide (s1 < (a.length : Int))) then
  (at? a s1).bind fun x1 =>
  (at? b s1).bind fun x2 =>
  (bif (!((x2.From == x1.From) && ((x2.To == x1.To) && true))) then
   some (.inr (.ret false))
  else
   some (.inl (w64 (s1 + 1))))
 else
  some (.inr (.go ())))

noncomputable def Z2k (a : (List Span)) (b : (List Span)) : Option (Bool) :=
 (bif ((a.length : Int) != (b.length : Int)) then
  some false
 else
  (ZM (Z2k.s0 a b) 0).bind fun (y1 : Jx (Unit) (Bool)) =>
  y1.elim (fun r' =>
    some r') fun a2 =>
  some true)

noncomputable def Zv.s0 (a : Form) (b : Form) (s1 : Int) : Option ((Int) ⊕ (Jx (Unit) (Bool))) :=
 (bif (decide (s1 < (a.Core.length : Int))) then
  (at? a.Core s1).bind fun x1 =>
  (at? b.Core s1).bind fun x2 =>
  (Z2k x1 x2).bind fun x3 =>
  (bif (!x3) then
   some (.inr (.ret false))
  else
   some (.inl (w64 (s1 + 1))))
 else
  some (.inr (.go ())))

noncomputable def Zv.s1 (a : Form) (b : Form) (s2 : Int) : Option ((Int) ⊕ (Jx (Unit) (Bool))) :=
 (bif (decide (s2 < (a.Odd.length : Int))) then
  (at? a.Odd s2).bind fun x4 =>
  (at? b.Odd s2).bind fun x5 =>
  (
   (bif (x4.Index != x5.Index) then
    some true
   else
    (at? b.Odd s2).bind fun x6 =>
    (Z2k x4.Ticks x6.Ticks).bind fun x7 =>
    some (!x7))).bind fun (y3 : Bool) =>
  (bif y3 then
   some (.inr (.ret false))
  else
   some (.inl (w64 (s2 + 1))))
 else
  some (.inr (.go ())))

noncomputable def Zv (a : Form) (b : Form) : Option (Bool) :=
 (bif ((((a.Period != b.Period) || (a.Count != b.Count)) || ((a.Core.length : Int) != (b.Core.length : Int))) || ((a.Odd.length : Int) != (b.Odd.length : Int))) then
  some false
 else
  (ZM (Zv.s0 a b) 0).bind fun (y1 : Jx (Unit) (Bool)) =>
  y1.elim (fun r' =>
    some r') fun a2 =>
  (ZM (Zv.s1 a b) 0).bind fun (y2 : Jx (Unit) (Bool)) =>
  y2.elim (fun r' =>
    some r') fun a4 =>
  some true)

noncomputable def Z29 (f : Form) : Option (Bool) :=
 (Z0M f).bind fun x1 =>
 (
  (bif x1 then
   (Zm f).bind fun x2 =>
   some (x2 == 0)
  else
   some false)).bind fun (y1 : Bool) =>
 some y1

noncomputable def Z2S.s0 (f : Form) (most : Int) (s1 : Int) : Option ((Int) ⊕ (Jx (Unit) (Bool))) :=
 (bif (decide (s1 < (f.Odd.length : Int))) then
  (at? f.Odd s1).bind fun x1 =>
  (bif ((decide (x1.Index < (w64 (0 - most)))) || (decide (x1.Index > most))) then
   some (.inr (.ret false))
  else
   some (.inl (w64 (s1 + 1))))
 else
  some (.inr (.go ())))

noncomputable def Z2S (f : Form) (most : Int) : Option (Bool) :=
 (ZM (Z2S.s0 f most) 0).bind fun (y1 : Jx (Unit) (Bool)) =>
 y1.elim (fun r' =>
   some r') fun a2 =>
 some true

def Z0j : Bool := true

noncomputable def canon_bare_1 (l : (List Span)) : Bool :=
 (decide ((l.length : Int) > 0))

noncomputable def canon_bare (f : Form) : Option (Bool) :=
 (ZU f.Core (fun z0 => some (canon_bare_1 z0))).bind fun x1 =>
 some (!x1)

noncomputable def Z31.s0 (p1' : Int) {S : Type} (yield : S → Int → Option (S × Bool)) (s1 : Int × S) : Option ((Int × S) ⊕ (Jx (S) (S))) :=
 (bif (decide (s1.1 ≤ p1')) then
  (nz? s1.1).bind fun u1 =>
  (
   (bif ((p1'.tmod s1.1) == 0) then
    (yield s1.2 s1.1).bind fun x1 =>
    some ((!x1.2), x1.1)
   else
    some (false, s1.2))).bind fun (y2 : Bool × S) =>
  (bif y2.1 then
   some (.inr (.ret y2.2))
  else
   some (.inl ((w64 (s1.1 + 1)), y2.2)))
 else
  some (.inr (.go s1.2)))

noncomputable def Z31 {S : Type} (p1' : Int) (yield : S → Int → Option (S × Bool)) (st' : S) : Option (S) :=
 (ZM (Z31.s0 p1' yield) (1, st')).bind fun (y1 : Jx (S) (S)) =>
 y1.elim (fun r' =>
   some r') fun a2 =>
 some a2

noncomputable def Z80 (x' : Span) (y : Span) (p2' : Int) : Bool :=
 (((w64 (y.From - x'.From)) == p2') && ((w64 (y.To - x'.To)) == p2'))

noncomputable def canon_shifted (a : (List Span)) (b : (List Span)) (by' : Int) : Option (Bool) :=
 (Z0G a b (fun z0 z1 => some (Z80 z0 z1 by'))).bind fun x1 =>
 some x1

noncomputable def Z6H.s0 (f : Form) (d : Int) (by' : Int) (s1 : Int) : Option ((Int) ⊕ (Jx (Unit) (Bool))) :=
 (bif (decide (s1 < (f.Core.length : Int))) then
  (
   (
    (at? f.Core s1).bind fun x1 =>
    (
     (bif (decide ((w64 (s1 + d)) ≥ f.Count)) then
      some ((w64 ((w64 (s1 + d)) - f.Count)), f.Period)
     else
      some ((w64 (s1 + d)), 0))).bind fun (y4 : Int × Int) =>
    (at? f.Core y4.1).bind fun x2 =>
    (canon_shifted x1 x2 (w64 (by' - y4.2))).bind fun x3 =>
    (bif (!x3) then
     some (.ret false)
    else
     some (.go ()))).bind fun (y3 : Jx (Unit) (Bool)) =>
   y3.elim (fun r' =>
     some (.ret r')) fun a4 =>
   some (.go ())).bind fun (y2 : Jx (Unit) (Bool)) =>
  y2.elim (fun r' =>
    some (.inr (.ret r'))) fun a5 =>
  some (.inl (w64 (s1 + 1)))
 else
  some (.inr (.go ())))

noncomputable def Z6H (f : Form) (d : Int) (by' : Int) : Option (Bool) :=
 (ZM (Z6H.s0 f d by') 0).bind fun (y1 : Jx (Unit) (Bool)) =>
 y1.elim (fun r' =>
   some r') fun a6 =>
 some true

noncomputable def Z3v.s1 (x4 : (List (List Span))) (s3 : Int × (List (List Span))) : Option ((Int × (List (List Span))) ⊕ ((List (List Span)))) :=
 (bif (decide (s3.1 < (x4.length : Int))) then
  (at? x4 s3.1).bind fun x5 =>
  (clone? 16 x5).bind fun x6 =>
  (app? 24 s3.2 [x6]).bind fun x7 =>
  some (.inl ((w64 (s3.1 + 1)), x7))
 else
  some (.inr s3.2))

noncomputable def Z3v.b0 (f : Form) (s2 : (List (List Span)) × Int × Int) (z2 : Int) : Option (((List (List Span)) × Int × Int) × Nat) :=
 (nz? z2).bind fun u1 =>
 (Z0y f.Period (w64 (f.Count.tdiv z2))).bind fun x2 =>
 (
  (bif (x2.2.1 != 0) then
   some true
  else
   (Z6H f z2 x2.1).bind fun x3 =>
   some (!x3))).bind fun (y3 : Bool) =>
 (bif y3 then
  some ((s2.1, s2.2.1, s2.2.2), 0)
 else
  (cut? f.Core 0 z2).bind fun x4 =>
  (ZM (Z3v.s1 x4) (0, s2.1)).bind fun (y4 : (List (List Span))) =>
  some ((y4, x2.1, z2), 1))

noncomputable def Z3v (f : Form) : Option (Form) :=
 (canon_bare f).bind fun x1 =>
 (bif x1 then
  some (Form.mk 0 0 [] [])
 else
  (
   (Z31 f.Count (Z2n (Z3v.b0 f)) (([], 0, 0), 0)).bind fun (y2 : ((List (List Span)) × Int × Int) × Nat) =>
   (bif (y2.2 == 0) then
    some (y2.1.1, y2.1.2.1, y2.1.2.2)
   else
    some (y2.1.1, y2.1.2.1, y2.1.2.2))).bind fun (y1 : (List (List Span)) × Int × Int) =>
  some (Form.mk y1.2.1 y1.2.2 y1.1 []))

noncomputable def canon_plain (f : Form) (g : Granule) : Option (Bool) :=
 (Z09 f g.Index).bind fun x1 =>
 (
  (bif (x1.2 == 0) then
   (Z2U x1.1 g.Ticks).bind fun x2 =>
   some x2
  else
   some false)).bind fun (y1 : Bool) =>
 some y1

noncomputable def Z0v.s0 (f : Form) (x1 : Form) (s2 : Int × (List Granule)) : Option ((Int × (List Granule)) ⊕ ((List Granule))) :=
 (bif (decide (s2.1 < (f.Odd.length : Int))) then
  (
   (
    (at? f.Odd s2.1).bind fun x2 =>
    (canon_plain x1 x2).bind fun x3 =>
    (bif (!x3) then
     (clone? 16 x2.Ticks).bind fun x4 =>
     (app? 32 s2.2 [(Granule.mk x2.Index x4)]).bind fun x5 =>
     some x5
    else
     some s2.2)).bind fun (y3 : (List Granule)) =>
   some y3).bind fun (y2 : (List Granule)) =>
  some (.inl ((w64 (s2.1 + 1)), y2))
 else
  some (.inr s2.2))

noncomputable def Z0v (f : Form) : Option (Form) :=
 (Z3v f).bind fun x1 =>
 (ZM (Z0v.s0 f x1) (0, [])).bind fun (y1 : (List Granule)) =>
 some (Form.mk x1.Period x1.Count x1.Core y1)

noncomputable def canon_equal_1 (x' : Granule) (y : Granule) : Option (Bool) :=
 (
  (bif (x'.Index == y.Index) then
   (Z2U x'.Ticks y.Ticks).bind fun x1 =>
   some x1
  else
   some false)).bind fun (y1 : Bool) =>
 some y1

noncomputable def Z7c (a : Form) (b : Form) : Option (Bool) :=
 (
  (bif ((a.Period == b.Period) && (a.Count == b.Count)) then
   (Z06 a.Core b.Core (fun z0 z1 => Z2U z0 z1)).bind fun x1 =>
   some x1
  else
   some false)).bind fun (y1 : Bool) =>
 (
  (bif y1 then
   (Zn a.Odd b.Odd (fun z0 z1 => canon_equal_1 z0 z1)).bind fun x2 =>
   some x2
  else
   some false)).bind fun (y2 : Bool) =>
 some y2

noncomputable def Z8B (f : Form) (g : Form) : Option (Bool) :=
 (Z0v f).bind fun x1 =>
 (Z0v g).bind fun x2 =>
 (Z7c x1 x2).bind fun x3 =>
 some x3

noncomputable def Z3T.s0 (f : Form) (g : Form) (s1 : Int) : Option ((Int) ⊕ (Jx (Bool) (Bool))) :=
 (bif (decide (s1 ≤ 2000)) then
  (Z09 f s1).bind fun x5 =>
  (Z09 g s1).bind fun x6 =>
  (bif ((x5.2 != 0) || (x6.2 != 0)) then
   some (.inr (.ret Z0j))
  else
   (Z2U x5.1 x6.1).bind fun x7 =>
   (bif (!x7) then
    some (.inr (.go false))
   else
    some (.inl (w64 (s1 + 1)))))
 else
  some (.inr (.go true)))

noncomputable def Z3T (f : Form) (g : Form) : Option (Bool) :=
 (Z29 f).bind fun x1 =>
 (
  (bif (!x1) then
   some true
  else
   (Z29 g).bind fun x2 =>
   some (!x2))).bind fun (y1 : Bool) =>
 (
  (bif y1 then
   some true
  else
   (Z2S f 200).bind fun x3 =>
   some (!x3))).bind fun (y2 : Bool) =>
 (
  (bif y2 then
   some true
  else
   (Z2S g 200).bind fun x4 =>
   some (!x4))).bind fun (y3 : Bool) =>
 (bif ((y3 || (decide (f.Period > 32768))) || (decide (g.Period > 32768))) then
  some Z0j
 else
  (ZM (Z3T.s0 f g) (-2000)).bind fun (y4 : Jx (Bool) (Bool)) =>
  y4.elim (fun r' =>
    some r') fun a2 =>
  (Z8B f g).bind fun x8 =>
  (
   (bif (x8 == a2) then
    (Z0v f).bind fun x9 =>
    (Z0v g).bind fun x10 =>
    (Zv x9 x10).bind fun x11 =>
    some (x11 == a2)
   else
    some false)).bind fun (y5 : Bool) =>
  some (y5 && Z0j))

noncomputable def canon_Is (f : Form) : Option (Bool) :=
 (Z0v f).bind fun x1 =>
 (Z7c f x1).bind fun x2 =>
 some x2

noncomputable def Z2z.s0 (f : Form) (i : Int) (x2 : Form) (s1 : Int) : Option ((Int) ⊕ (Jx (Unit) (Bool))) :=
 (bif (decide (s1 < ([i, 0, 1, (-1), (w64 ((i.tmod 50) - 25))].length : Int))) then
  (at? [i, 0, 1, (-1), (w64 ((i.tmod 50) - 25))] s1).bind fun x9 =>
  (Z09 f x9).bind fun x10 =>
  (Z09 x2 x9).bind fun x11 =>
  (
   (bif (x10.2 != x11.2) then
    some true
   else
    (Z2U x10.1 x11.1).bind fun x12 =>
    some (!x12))).bind fun (y5 : Bool) =>
  (bif y5 then
   some (.inr (.ret false))
  else
   some (.inl (w64 (s1 + 1))))
 else
  some (.inr (.go ())))

noncomputable def Z2z (f : Form) (i : Int) : Option (Bool) :=
 (Z29 f).bind fun x1 =>
 (bif (!x1) then
  some Z0j
 else
  (Z0v f).bind fun x2 =>
  (Zm x2).bind fun x3 =>
  (
   (bif (x3 != 0) then
    some true
   else
    (canon_Is x2).bind fun x4 =>
    some (!x4))).bind fun (y1 : Bool) =>
  (
   (bif y1 then
    some true
   else
    (Z0v x2).bind fun x5 =>
    (Zv x5 x2).bind fun x6 =>
    some (!x6))).bind fun (y2 : Bool) =>
  (
   (bif (((y2 || (decide (x2.Count > f.Count))) || (decide (x2.Period > f.Period))) || (decide ((x2.Odd.length : Int) > (f.Odd.length : Int)))) then
    some true
   else
    (Zq x2).bind fun x7 =>
    (Zq f).bind fun x8 =>
    some (decide (x7 > x8)))).bind fun (y3 : Bool) =>
  (bif y3 then
   some false
  else
   (ZM (Z2z.s0 f i x2) 0).bind fun (y4 : Jx (Unit) (Bool)) =>
   y4.elim (fun r' =>
     some r') fun a2 =>
   (Z8B f x2).bind fun x13 =>
   some (x13 && Z0j)))

noncomputable def Z61 (l : (List Span)) : Option ((List Span)) :=
 (new? 16 (l.length : Int) (Span.mk 0 0)).bind fun x1 =>
 some (cpy x1 l)

noncomputable def Z15.s0 (f : Form) (s2 : Int × (List (List Span))) : Option ((Int × (List (List Span))) ⊕ ((List (List Span)))) :=
 (bif (decide (s2.1 < (f.Core.length : Int))) then
  (at? f.Core s2.1).bind fun x1 =>
  (Z61 x1).bind fun x2 =>
  (app? 24 s2.2 [x2]).bind fun x3 =>
  some (.inl ((w64 (s2.1 + 1)), x3))
 else
  some (.inr s2.2))

noncomputable def Z15.s1 (f : Form) (s4 : Int × (List Granule)) : Option ((Int × (List Granule)) ⊕ ((List Granule))) :=
 (bif (decide (s4.1 < (f.Odd.length : Int))) then
  (at? f.Odd s4.1).bind fun x4 =>
  (Z61 x4.Ticks).bind fun x5 =>
  (app? 32 s4.2 [(Granule.mk x4.Index x5)]).bind fun x6 =>
  some (.inl ((w64 (s4.1 + 1)), x6))
 else
  some (.inr s4.2))

noncomputable def Z15 (f : Form) : Option (Form) :=
 (ZM (Z15.s0 f) (0, [])).bind fun (y1 : (List (List Span))) =>
 (ZM (Z15.s1 f) (0, [])).bind fun (y2 : (List Granule)) =>
 some (Form.mk f.Period f.Count y1 y2)

noncomputable def Z3Z.s0 (f : Form) (s1 : Int) : Option ((Int) ⊕ (Jx (Unit) (Bool))) :=
 (bif (decide (s1 < (f.Core.length : Int))) then
  (at? f.Core s1).bind fun x1 =>
  (bif (decide ((x1.length : Int) > 0)) then
   some (.inr (.ret false))
  else
   some (.inl (w64 (s1 + 1))))
 else
  some (.inr (.go ())))

noncomputable def Z3Z (f : Form) : Option (Bool) :=
 (ZM (Z3Z.s0 f) 0).bind fun (y1 : Jx (Unit) (Bool)) =>
 y1.elim (fun r' =>
   some r') fun a2 =>
 some true

noncomputable def Z7y (a : Int) (b : Int) : Option (Int × Int) :=
 (nz? b).bind fun u1 =>
 (nz? b).bind fun u2 =>
 (
  (bif (decide ((a.tmod b) < 0)) then
   some ((w64 ((w64 (a.tdiv b)) - 1)), (w64 ((a.tmod b) + b)))
  else
   some ((w64 (a.tdiv b)), (a.tmod b)))).bind fun (y1 : Int × Int) =>
 some (y1.1, y1.2)

noncomputable def Z42 (f : Form) (i : Int) : Option ((List Span) × Int) :=
 (Z7y i f.Count).bind fun x1 =>
 (at? f.Core x1.2).bind fun x2 =>
 some (x2, (w64 (x1.1 * f.Period)))

noncomputable def Z2P.s0 (a : (List Span)) (x' : Int) (b : (List Span)) (y : Int) (s1 : Int) : Option ((Int) ⊕ (Jx (Unit) (Bool))) :=
 (bif (decide (s1 < (a.length : Int))) then
  (at? a s1).bind fun x1 =>
  (at? b s1).bind fun x2 =>
  (
   (bif ((w64 (x1.From + x')) != (w64 (x2.From + y))) then
    some true
   else
    (at? a s1).bind fun x3 =>
    (at? b s1).bind fun x4 =>
    some ((w64 (x3.To + x')) != (w64 (x4.To + y))))).bind fun (y2 : Bool) =>
  (bif y2 then
   some (.inr (.ret false))
  else
   some (.inl (w64 (s1 + 1))))
 else
  some (.inr (.go ())))

noncomputable def Z2P (a : (List Span)) (x' : Int) (b : (List Span)) (y : Int) : Option (Bool) :=
 (bif ((a.length : Int) != (b.length : Int)) then
  some false
 else
  (ZM (Z2P.s0 a x' b y) 0).bind fun (y1 : Jx (Unit) (Bool)) =>
  y1.elim (fun r' =>
    some r') fun a2 =>
  some true)

noncomputable def Z3E.s0 (f : Form) (d : Int) (s1 : Int) : Option ((Int) ⊕ (Jx (Unit) (Bool))) :=
 (bif (decide (s1 < f.Count)) then
  (Z42 f s1).bind fun x1 =>
  (Z42 f (w64 (s1 + d))).bind fun x2 =>
  (nz? f.Count).bind fun u3 =>
  (Z2P x1.1 (w64 (x1.2 + (w64 ((w64 (f.Period * d)).tdiv f.Count)))) x2.1 x2.2).bind fun x3 =>
  (bif (!x3) then
   some (.inr (.ret false))
  else
   some (.inl (w64 (s1 + 1))))
 else
  some (.inr (.go ())))

noncomputable def Z3E (f : Form) (d : Int) : Option (Bool) :=
 (nz? d).bind fun u1 =>
 (
  (bif ((f.Count.tmod d) != 0) then
   some true
  else
   (nz? f.Count).bind fun u2 =>
   some (((w64 (f.Period * d)).tmod f.Count) != 0))).bind fun (y1 : Bool) =>
 (bif y1 then
  some false
 else
  (ZM (Z3E.s0 f d) 0).bind fun (y2 : Jx (Unit) (Bool)) =>
  y2.elim (fun r' =>
    some r') fun a2 =>
  some true)

noncomputable def Z0q.s0 (f : Form) (s1 : Int) : Option ((Int) ⊕ (Int)) :=
 (Z3E f s1).bind fun x2 =>
 (bif (!x2) then
  some (.inl (w64 (s1 + 1)))
 else
  some (.inr s1))

noncomputable def Z0q.s1 (f : Form) (y2 : Int) (s2 : Int × (List (List Span))) : Option ((Int × (List (List Span))) ⊕ ((List (List Span)) × Int)) :=
 (bif (decide (s2.1 < y2)) then
  (at? f.Core s2.1).bind fun x3 =>
  (app? 16 [] x3).bind fun x4 =>
  (app? 24 s2.2 [x4]).bind fun x5 =>
  some (.inl ((w64 (s2.1 + 1)), x5))
 else
  some (.inr (s2.2, (w64 ((w64 (f.Period * y2)).tdiv f.Count)))))

noncomputable def Z0q.s2 (f : Form) (y1 : (List (List Span)) × Int × Int) (s3 : Int × (List Granule)) : Option ((Int × (List Granule)) ⊕ ((List Granule))) :=
 (bif (decide (s3.1 < (f.Odd.length : Int))) then
  (
   (
    (
     (bif (decide (y1.2.2 > 0)) then
      (at? f.Odd s3.1).bind fun x6 =>
      (Z42 (Form.mk y1.2.1 y1.2.2 y1.1 []) x6.Index).bind fun x7 =>
      some (x7.1, x7.2)
     else
      some ([], 0))).bind fun (y7 : (List Span) × Int) =>
    (at? f.Odd s3.1).bind fun x8 =>
    (Z2P y7.1 y7.2 x8.Ticks 0).bind fun x9 =>
    (bif (!x9) then
     (at? f.Odd s3.1).bind fun x10 =>
     (at? f.Odd s3.1).bind fun x11 =>
     (app? 16 [] x11.Ticks).bind fun x12 =>
     (app? 32 s3.2 [(Granule.mk x10.Index x12)]).bind fun x13 =>
     some x13
    else
     some s3.2)).bind fun (y6 : (List Granule)) =>
   some y6).bind fun (y5 : (List Granule)) =>
  some (.inl ((w64 (s3.1 + 1)), y5))
 else
  some (.inr s3.2))

noncomputable def Z0q (f : Form) : Option (Form) :=
 (
  (Z3Z f).bind fun x1 =>
  (bif (!x1) then
   (ZM (Z0q.s0 f) 1).bind fun (y2 : Int) =>
   (nz? f.Count).bind fun u1 =>
   (ZM (Z0q.s1 f y2) (0, [])).bind fun (y3 : (List (List Span)) × Int) =>
   some (y3.1, y3.2, y2)
  else
   some ([], 0, 0))).bind fun (y1 : (List (List Span)) × Int × Int) =>
 (ZM (Z0q.s2 f y1) (0, [])).bind fun (y4 : (List Granule)) =>
 some (Form.mk y1.2.1 y1.2.2 y1.1 y4)

noncomputable def epactlaw06_CanonTells (f : Form) : Option (Bool) :=
 (Z29 f).bind fun x1 =>
 (bif (!x1) then
  some Z0j
 else
  (Z15 f).bind fun x2 =>
  (Z0v x2).bind fun x3 =>
  (Z0q f).bind fun x4 =>
  (Zv x3 x4).bind fun x5 =>
  (
   (bif x5 then
    (canon_Is x2).bind fun x6 =>
    (Zv f x4).bind fun x7 =>
    some (x6 == x7)
   else
    some false)).bind fun (y1 : Bool) =>
  (
   (bif y1 then
    (Zv x2 f).bind fun x8 =>
    some x8
   else
    some false)).bind fun (y2 : Bool) =>
  some (y2 && Z0j))

noncomputable def Z4Y (f : Form) : Option (Bool) :=
 (Z0M f).bind fun x1 =>
 (
  (bif x1 then
   (Zm f).bind fun x2 =>
   some (x2 == 0)
  else
   some false)).bind fun (y1 : Bool) =>
 some y1

def Z1O : Bool := true

noncomputable def Z0w (a : Bound) : Bool :=
 ((a.Inf == 0) || (((a.Inf == 1) || (a.Inf == (-1))) && (a.N == 0)))

noncomputable def size_inRange (k : Int) : Bool :=
 ((decide (k ≥ (-1099511627776))) && (decide (k ≤ 1099511627776)))

noncomputable def Z1A (l : (List Span)) : Option (Span × Bool) :=
 (bif ((l.length : Int) == 0) then
  some ((Span.mk 0 0), false)
 else
  (at? l 0).bind fun x1 =>
  (at? l (w64 ((l.length : Int) - 1))).bind fun x2 =>
  some ((Span.mk x1.From x2.To), true))

noncomputable def Z7B.s0 (x1 : Form) (s2 : Int × (List size_spot)) : Option ((Int × (List size_spot)) ⊕ ((List size_spot))) :=
 (bif (decide (s2.1 < (x1.Core.length : Int))) then
  (
   (
    (at? x1.Core s2.1).bind fun x2 =>
    (Z1A x2).bind fun x3 =>
    (bif x3.2 then
     (app? 24 s2.2 [(size_spot.mk s2.1 (size_place.mk x3.1.From x3.1.To))]).bind fun x4 =>
     some x4
    else
     some s2.2)).bind fun (y3 : (List size_spot)) =>
   some y3).bind fun (y2 : (List size_spot)) =>
  some (.inl ((w64 (s2.1 + 1)), y2))
 else
  some (.inr s2.2))

noncomputable def Z7B (f : Form) : Option (size_form) :=
 (Z0v f).bind fun x1 =>
 (ZM (Z7B.s0 x1) (0, [])).bind fun (y1 : (List size_spot)) =>
 some (size_form.mk x1 y1)

noncomputable def Z3N.s0 (f : Int → Option Bool) (s1 : Int × Int) : Option ((Int × Int) ⊕ (Int)) :=
 (bif (decide (s1.1 < s1.2)) then
  (
   (f (w64 ((IntKind.u64.wrap (w64 (s1.1 + s1.2))).fdiv (2 ^ 1)))).bind fun x1 =>
   (bif (!x1) then
    some ((w64 ((w64 ((IntKind.u64.wrap (w64 (s1.1 + s1.2))).fdiv (2 ^ 1))) + 1)), s1.2)
   else
    some (s1.1, (w64 ((IntKind.u64.wrap (w64 (s1.1 + s1.2))).fdiv (2 ^ 1)))))).bind fun (y2 : Int × Int) =>
  some (.inl (y2.1, y2.2))
 else
  some (.inr s1.1))

noncomputable def Z3N (n : Int) (f : Int → Option Bool) : Option (Int) :=
 (ZM (Z3N.s0 f) (0, n)).bind fun (y1 : Int) =>
 some y1

noncomputable def Z7F (n : Int) (p1' : size_form) (p2' : Int) (p3' : Int) : Option (Bool) :=
 (at? p1'.spots n).bind fun x1 =>
 some (decide ((w64 (x1.place.last - (w64 (p2' * p1'.Form.Period)))) ≥ p3'))

noncomputable def Z7E (n : Int) (p1' : size_form) (p2' : Int) (p3' : Int) : Option (Bool) :=
 (at? p1'.spots n).bind fun x1 =>
 some (decide ((w64 (x1.place.first + (w64 (p2' * p1'.Form.Period)))) > p3'))

noncomputable def Z5W (f : size_form) (t : Int) (up : Bool) : Option (Int) :=
 (bif up then
  (at? f.spots (w64 ((f.spots.length : Int) - 1))).bind fun x1 =>
  (Z0y (w64 (x1.place.last - t)) f.Form.Period).bind fun x2 =>
  (Z3N (f.spots.length : Int) (fun z0 => Z7F z0 f x2.1 t)).bind fun x3 =>
  (at? f.spots x3).bind fun x4 =>
  some (w64 (x4.index - (w64 (x2.1 * f.Form.Count))))
 else
  (at? f.spots 0).bind fun x5 =>
  (Z0y (w64 (t - x5.place.first)) f.Form.Period).bind fun x6 =>
  (Z3N (f.spots.length : Int) (fun z0 => Z7E z0 f x6.1 t)).bind fun x7 =>
  (at? f.spots (w64 (x7 - 1))).bind fun x8 =>
  some (w64 (x8.index + (w64 (x6.1 * f.Form.Count)))))

noncomputable def Z7w (g : Granule) (i : Int) : Int :=
 (Z0K g.Index i)

noncomputable def size_form_odd (f : size_form) (i : Int) : Option (Int) :=
 (Z4 f.Form.Odd i (fun z0 z1 => some (Z7w z0 z1))).bind fun x1 =>
 (bif (!x1.2) then
  some (-1)
 else
  some x1.1)

noncomputable def size_form_has (f : size_form) (i : Int) : Option (Bool) :=
 (Z0y i f.Form.Count).bind fun x1 =>
 (at? f.Form.Core x1.2.1).bind fun x2 =>
 some (decide ((x2.length : Int) > 0))

noncomputable def Z0I.s0 (f : size_form) (y1 : Int) (s1 : Int) : Option ((Int) ⊕ (Int)) :=
 (size_form_odd f s1).bind fun x2 =>
 (
  (bif (decide (x2 ≥ 0)) then
   some true
  else
   (size_form_has f s1).bind fun x3 =>
   some (!x3))).bind fun (y4 : Bool) =>
 (bif y4 then
  some (.inl (w64 (s1 + y1)))
 else
  some (.inr s1))

noncomputable def Z0I.s1 (s2 : Int × Int × (List Int) × Int × Bool) : Option ((Int × Int × (List Int) × Int × Bool) ⊕ ((List Int) × Int × Bool)) :=
 (bif (decide (s2.2.1 < s2.1)) then
  (
   (
    (at? s2.2.2.1 s2.2.1).bind fun x4 =>
    (bif ((!s2.2.2.2.2) || (decide (x4 > s2.2.2.2.1))) then
     some (x4, true)
    else
     some (s2.2.2.2.1, s2.2.2.2.2))).bind fun (y8 : Int × Bool) =>
   some (y8.1, y8.2)).bind fun (y7 : Int × Bool) =>
  some (.inl (s2.1, (w64 (s2.2.1 + 1)), s2.2.2.1, y7.1, y7.2))
 else
  some (.inr (s2.2.2.1, s2.2.2.2.1, s2.2.2.2.2)))

noncomputable def Z0I.s3 (s4 : Int × Int × (List Int) × Int × Bool) : Option ((Int × Int × (List Int) × Int × Bool) ⊕ ((List Int) × Int × Bool)) :=
 (bif (decide (s4.2.1 < s4.1)) then
  (
   (
    (at? s4.2.2.1 s4.2.1).bind fun x7 =>
    (bif ((!s4.2.2.2.2) || (decide (x7 > s4.2.2.2.1))) then
     some (x7, true)
    else
     some (s4.2.2.2.1, s4.2.2.2.2))).bind fun (y15 : Int × Bool) =>
   some (y15.1, y15.2)).bind fun (y14 : Int × Bool) =>
  some (.inl (s4.1, (w64 (s4.2.1 + 1)), s4.2.2.1, y14.1, y14.2))
 else
  some (.inr (s4.2.2.1, s4.2.2.2.1, s4.2.2.2.2)))

noncomputable def Z0I.s2 (f : size_form) (t : Int) (up : Bool) (y1 : Int) (s3 : Int × Int × Bool) : Option ((Int × Int × Bool) ⊕ (Int × Bool)) :=
 (bif (decide (s3.1 < (f.Form.Odd.length : Int))) then
  (
   (
    (at? f.Form.Odd s3.1).bind fun x5 =>
    (Z1A x5.Ticks).bind fun x6 =>
    (bif (x6.2 && ((up && (decide (x6.1.To ≥ t))) || ((!up) && (decide (x6.1.From ≤ t))))) then
     (
      (ZM (Z0I.s3) (([(w64 ((w64 (0 - y1)) * x5.Index))].length : Int), 0, [(w64 ((w64 (0 - y1)) * x5.Index))], s3.2.1, s3.2.2)).bind fun (y13 : (List Int) × Int × Bool) =>
      some (y13.1, y13.2.1, y13.2.2)).bind fun (y12 : (List Int) × Int × Bool) =>
     some (y12.2.1, y12.2.2)
    else
     some (s3.2.1, s3.2.2))).bind fun (y11 : Int × Bool) =>
   some (y11.1, y11.2)).bind fun (y10 : Int × Bool) =>
  some (.inl ((w64 (s3.1 + 1)), y10.1, y10.2))
 else
  some (.inr (s3.2.1, s3.2.2)))

noncomputable def Z0I (f : size_form) (t : Int) (up : Bool) : Option (Int × Bool) :=
 (
  (bif up then
   some 1
  else
   some (-1))).bind fun (y1 : Int) =>
 (
  (bif (decide (f.Form.Count > 0)) then
   (Z5W f t up).bind fun x1 =>
   (ZM (Z0I.s0 f y1) x1).bind fun (y3 : Int) =>
   (
    (ZM (Z0I.s1) (([(w64 ((w64 (0 - y1)) * y3))].length : Int), 0, [(w64 ((w64 (0 - y1)) * y3))], 0, false)).bind fun (y6 : (List Int) × Int × Bool) =>
    some (y6.1, y6.2.1, y6.2.2)).bind fun (y5 : (List Int) × Int × Bool) =>
   some (y5.2.1, y5.2.2)
  else
   some (0, false))).bind fun (y2 : Int × Bool) =>
 (ZM (Z0I.s2 f t up y1) (0, y2.1, y2.2)).bind fun (y9 : Int × Bool) =>
 some ((w64 ((w64 (0 - y1)) * y9.1)), y9.2)

noncomputable def Z1d.s1 (s2 : Int × Int × (List Int) × Int × Bool) : Option ((Int × Int × (List Int) × Int × Bool) ⊕ ((List Int) × Int × Bool)) :=
 (bif (decide (s2.2.1 < s2.1)) then
  (
   (
    (at? s2.2.2.1 s2.2.1).bind fun x4 =>
    (bif ((!s2.2.2.2.2) || (decide (x4 > s2.2.2.2.1))) then
     some (x4, true)
    else
     some (s2.2.2.2.1, s2.2.2.2.2))).bind fun (y9 : Int × Bool) =>
   some (y9.1, y9.2)).bind fun (y8 : Int × Bool) =>
  some (.inl (s2.1, (w64 (s2.2.1 + 1)), s2.2.2.1, y8.1, y8.2))
 else
  some (.inr (s2.2.2.1, s2.2.2.2.1, s2.2.2.2.2)))

noncomputable def Z1d.s0 (d : Int) (up : Bool) (x1 : size_form) (y1 : Int) (s1 : Int × Int × Bool) : Option ((Int × Int × Bool) ⊕ (Int × Bool)) :=
 (bif (decide (s1.1 < (x1.spots.length : Int))) then
  (
   (
    (at? x1.spots s1.1).bind fun x2 =>
    (
     (bif up then
      some x2.place.first
     else
      some x2.place.last)).bind fun (y5 : Int) =>
    (Z5W x1 (w64 (y5 + d)) up).bind fun x3 =>
    (
     (ZM (Z1d.s1) (([(w64 (y1 * (w64 (x3 - x2.index))))].length : Int), 0, [(w64 (y1 * (w64 (x3 - x2.index))))], s1.2.1, s1.2.2)).bind fun (y7 : (List Int) × Int × Bool) =>
     some (y7.1, y7.2.1, y7.2.2)).bind fun (y6 : (List Int) × Int × Bool) =>
    some (y6.2.1, y6.2.2)).bind fun (y4 : Int × Bool) =>
   some (y4.1, y4.2)).bind fun (y3 : Int × Bool) =>
  some (.inl ((w64 (s1.1 + 1)), y3.1, y3.2))
 else
  some (.inr (s1.2.1, s1.2.2)))

noncomputable def Z1d.s3 (s4 : Int × Int × (List Int) × Int × Bool) : Option ((Int × Int × (List Int) × Int × Bool) ⊕ ((List Int) × Int × Bool)) :=
 (bif (decide (s4.2.1 < s4.1)) then
  (
   (
    (at? s4.2.2.1 s4.2.1).bind fun x8 =>
    (bif ((!s4.2.2.2.2) || (decide (x8 > s4.2.2.2.1))) then
     some (x8, true)
    else
     some (s4.2.2.2.1, s4.2.2.2.2))).bind fun (y18 : Int × Bool) =>
   some (y18.1, y18.2)).bind fun (y17 : Int × Bool) =>
  some (.inl (s4.1, (w64 (s4.2.1 + 1)), s4.2.2.1, y17.1, y17.2))
 else
  some (.inr (s4.2.2.1, s4.2.2.2.1, s4.2.2.2.2)))

noncomputable def Z1d.s4 (s5 : Int × Int × (List Int) × Int × Bool) : Option ((Int × Int × (List Int) × Int × Bool) ⊕ ((List Int) × Int × Bool)) :=
 (bif (decide (s5.2.1 < s5.1)) then
  (
   (
    (at? s5.2.2.1 s5.2.1).bind fun x10 =>
    (bif ((!s5.2.2.2.2) || (decide (x10 > s5.2.2.2.1))) then
     some (x10, true)
    else
     some (s5.2.2.2.1, s5.2.2.2.2))).bind fun (y22 : Int × Bool) =>
   some (y22.1, y22.2)).bind fun (y21 : Int × Bool) =>
  some (.inl (s5.1, (w64 (s5.2.1 + 1)), s5.2.2.1, y21.1, y21.2))
 else
  some (.inr (s5.2.2.1, s5.2.2.2.1, s5.2.2.2.2)))

noncomputable def Z1d.s2 (d : Int) (up : Bool) (x1 : size_form) (y1 : Int) (s3 : Int × Int × Bool) : Option ((Int × Int × Bool) ⊕ (Int × Bool)) :=
 (bif (decide (s3.1 < (x1.Form.Odd.length : Int))) then
  (
   (
    (at? x1.Form.Odd s3.1).bind fun x5 =>
    (Z1A x5.Ticks).bind fun x6 =>
    (bif (!x6.2) then
     some (.ret ())
    else
     (
      (bif up then
       some (x6.1.To, x6.1.From)
      else
       some (x6.1.From, x6.1.To))).bind fun (y13 : Int × Int) =>
     (
      (Z0I x1 (w64 (y13.2 + d)) up).bind fun x7 =>
      (bif x7.2 then
       (
        (ZM (Z1d.s3) (([(w64 (y1 * (w64 (x7.1 - x5.Index))))].length : Int), 0, [(w64 (y1 * (w64 (x7.1 - x5.Index))))], s3.2.1, s3.2.2)).bind fun (y16 : (List Int) × Int × Bool) =>
        some (y16.1, y16.2.1, y16.2.2)).bind fun (y15 : (List Int) × Int × Bool) =>
       some (y15.2.1, y15.2.2)
      else
       some (s3.2.1, s3.2.2))).bind fun (y14 : Int × Bool) =>
     (Z0I x1 (w64 (y13.1 - d)) (!up)).bind fun x9 =>
     (bif x9.2 then
      (
       (ZM (Z1d.s4) (([(w64 (y1 * (w64 (x5.Index - x9.1))))].length : Int), 0, [(w64 (y1 * (w64 (x5.Index - x9.1))))], y14.1, y14.2)).bind fun (y20 : (List Int) × Int × Bool) =>
       some (y20.1, y20.2.1, y20.2.2)).bind fun (y19 : (List Int) × Int × Bool) =>
      some (.go (y19.2.1, y19.2.2))
     else
      some (.go (y14.1, y14.2))))).bind fun (y12 : Jx (Int × Bool) (Unit)) =>
   y12.elim (fun a4 =>
     some (s3.2.1, s3.2.2)) fun a3 =>
   some (a3.1, a3.2)).bind fun (y11 : Int × Bool) =>
  some (.inl ((w64 (s3.1 + 1)), y11.1, y11.2))
 else
  some (.inr (s3.2.1, s3.2.2)))

noncomputable def Z1d (g : Form) (d : Int) (up : Bool) : Option (Int × Bool × Int) :=
 (bif (!(size_inRange d)) then
  some (0, false, 2)
 else
  (Z7B g).bind fun x1 =>
  (
   (bif up then
    some (-1)
   else
    some 1)).bind fun (y1 : Int) =>
  (ZM (Z1d.s0 d up x1 y1) (0, 0, false)).bind fun (y2 : Int × Bool) =>
  (ZM (Z1d.s2 d up x1 y1) (0, y2.1, y2.2)).bind fun (y10 : Int × Bool) =>
  some ((w64 (y1 * y10.1)), y10.2, 0))

noncomputable def size_Down (f : Form) (d : Int) : Option (Int × Bool × Int) :=
 (Z1d f d false).bind fun x1 =>
 some (x1.1, x1.2.1, x1.2.2)

noncomputable def size_Up (f : Form) (d : Int) : Option (Int × Bool × Int) :=
 (Z1d f d true).bind fun x1 =>
 some (x1.1, x1.2.1, x1.2.2)

noncomputable def Z4C (f : Form) (low : Bound) (high : Bound) : Option (Range × Bool × Int) :=
 (bif ((((!(Z0w low)) || (!(Z0w high))) || (low.Inf == 1)) || (high.Inf == (-1))) then
  some ((Range.mk 0 0 false false), false, 2)
 else
  (
   (bif ((high.Inf == 0) && (decide (high.N ≤ 1099511627776))) then
    (size_Down f (iMax high.N (-1099511627776))).bind fun x1 =>
    (bif (!x1.2.1) then
     some (.ret ((Range.mk 0 0 false false), false, 0))
    else
     some (.go (x1.1, true)))
   else
    some (.go (0, false)))).bind fun (y1 : Jx (Int × Bool) (Range × Bool × Int)) =>
  y1.elim (fun r' =>
    some r') fun a2 =>
  (
   (bif ((low.Inf == 0) && (decide (low.N ≥ (-1099511627776)))) then
    (size_Up f (iMin low.N 1099511627776)).bind fun x2 =>
    (bif (!x2.2.1) then
     some (.ret ((Range.mk 0 0 false false), false, 0))
    else
     some (.go (x2.1, true)))
   else
    some (.go (0, false)))).bind fun (y2 : Jx (Int × Bool) (Range × Bool × Int)) =>
  y2.elim (fun r' =>
    some r') fun a4 =>
  some ((Range.mk a4.1 a2.1 a4.2 a2.2), true, 0))

noncomputable def epactlaw25_CarryArgs (f : Form) (low : Bound) (high : Bound) : Option (Bool) :=
 (Z4Y f).bind fun x1 =>
 (bif (!x1) then
  some Z1O
 else
  (Z4C f low high).bind fun x2 =>
  (bif ((((!(Z0w low)) || (!(Z0w high))) || (low.Inf == 1)) || (high.Inf == (-1))) then
   some ((((x2.2.2 == 2) && (!x2.2.1)) && ((x2.1.Low == 0) && ((x2.1.High == 0) && ((x2.1.HasLow == false) && ((x2.1.HasHigh == false) && true))))) && Z1O)
  else
   (bif (((x2.2.2 != 0) || ((low.Inf == (-1)) && x2.1.HasLow)) || ((high.Inf == 1) && x2.1.HasHigh)) then
    some false
   else
    (Z4C f (Bound.mk (-1) 0) (Bound.mk 1 0)).bind fun x3 =>
    some ((((x3.2.2 == 0) && x3.2.1) && ((x3.1.Low == 0) && ((x3.1.High == 0) && ((x3.1.HasLow == false) && ((x3.1.HasHigh == false) && true))))) && Z1O))))

noncomputable def Z5v (a : carry_asked) (gap : Int) : Option (Bool) :=
 (size_Down a.f (w64 (gap - 1099511627776))).bind fun x1 =>
 some ((x1.2.1 && (x1.2.2 == 0)) && (decide (x1.1 ≥ a.m)))

noncomputable def Z7a (f : Form) (m : Int) : Option (Bound) :=
 (Z3N 2199023255553 (fun z0 => Z5v (carry_asked.mk f (iMin (iMax m (-4611686018427387904)) 4611686018427387904)) z0)).bind fun x1 =>
 (bif ((w64 ((iMin x1 2199023255552) - 1099511627776)) == (-1099511627776)) then
  some (Bound.mk (-1) 0)
 else
  some (Bound.mk 0 (w64 ((iMin x1 2199023255552) - 1099511627776))))

noncomputable def safe_Sub (a : Int) (b : Int) : Int × Int :=
 (bif (((decide ((w64 (a - b)) < a)) != (decide (b > 0))) && (b != 0)) then
  (0, 10)
 else
  ((w64 (a - b)), 0))

noncomputable def safe_Minus (a : Bound) : Bound × Int :=
 (bif (!(Z0w a)) then
  ((Bound.mk 0 0), 2)
 else
  (bif (((safe_Sub 0 a.N).2) != 0) then
   ((Bound.mk 0 0), (safe_Sub 0 a.N).2)
  else
   ((Bound.mk (IntKind.i8.wrap (0 - a.Inf)) ((safe_Sub 0 a.N).1)), 0)))

noncomputable def Z8h (f : Form) (n : Int) : Option (Bound) :=
 (Z7a f (w64 (0 - (iMax n (-4611686018427387904))))).bind fun x1 =>
 some ((safe_Minus x1).1)

noncomputable def safe_Less (a : Bound) (b : Bound) : Bool :=
 (bif ((!(Z0w a)) || (!(Z0w b))) then
  false
 else
  (bif (a.Inf != b.Inf) then
   (decide (a.Inf < b.Inf))
  else
   (decide (a.N < b.N))))

noncomputable def Z2x.s0 (x2 : Bound) (x3 : Bound) (x4 : Bound) (x5 : Bound) (s1 : Int) : Option ((Int) ⊕ (Jx (Unit) (Bool))) :=
 (bif (decide (s1 < ([x2, x3, x4, x5].length : Int))) then
  (at? [x2, x3, x4, x5] s1).bind fun x6 =>
  (bif (((!(Z0w x6)) || (decide (x6.N > 1099511627776))) || (decide (x6.N < (-1099511627776)))) then
   some (.inr (.ret false))
  else
   some (.inl (w64 (s1 + 1))))
 else
  some (.inr (.go ())))

noncomputable def Z2x (f : Form) (m : Int) (n : Int) (low : Int) (high : Int) (wide : Int) : Option (Bool) :=
 (Z4Y f).bind fun x1 =>
 (bif (!x1) then
  some Z1O
 else
  (Z7a f (iMin m n)).bind fun x2 =>
  (Z7a f (iMax m n)).bind fun x3 =>
  (Z8h f (iMin m n)).bind fun x4 =>
  (Z8h f (iMax m n)).bind fun x5 =>
  (ZM (Z2x.s0 x2 x3 x4 x5) 0).bind fun (y1 : Jx (Unit) (Bool)) =>
  y1.elim (fun r' =>
    some r') fun a2 =>
  (bif ((((safe_Less x3 x2) || (safe_Less x5 x4)) || (x2.Inf == 1)) || (x4.Inf == (-1))) then
   some false
  else
   (Z4C f (Bound.mk 0 (low.tmod 4398046511104)) (Bound.mk 0 (high.tmod 4398046511104))).bind fun x7 =>
   (Z4C f (Bound.mk 0 (w64 ((low.tmod 4398046511104) - (iAnd .i64 wide 65535)))) (Bound.mk 0 (w64 ((high.tmod 4398046511104) + (iAnd .i64 wide 65535))))).bind fun x8 =>
   (bif (((((x7.2.2 != 0) || (x8.2.2 != 0)) || ((!x7.1.HasLow) && (x7.1.Low != 0))) || ((!x7.1.HasHigh) && (x7.1.High != 0))) || ((!x7.2.1) && (!((x7.1.Low == 0) && ((x7.1.High == 0) && ((x7.1.HasLow == false) && ((x7.1.HasHigh == false) && true))))))) then
    some false
   else
    (bif (((x7.2.1 && (!x8.2.1)) && (decide ((high.tmod 4398046511104) ≥ (-1099511627776)))) && (decide ((low.tmod 4398046511104) ≤ 1099511627776))) then
     some false
    else
     (bif ((x7.2.1 && x8.2.1) && ((x8.1.HasLow && ((!x7.1.HasLow) || (decide (x8.1.Low > x7.1.Low)))) || (x8.1.HasHigh && ((!x7.1.HasHigh) || (decide (x8.1.High < x7.1.High)))))) then
      some false
     else
      some Z1O)))))

noncomputable def ZF : Form :=
 (Form.mk 7 1 [[(Span.mk 0 4)]] [])

noncomputable def find_up : Unit :=
 ()

noncomputable def Z5f (h' : Span) (t : Int) (period : Int) : Option (Int) :=
 (Z0y (w64 (h'.To - t)) period).bind fun x1 =>
 some (w64 (0 - x1.1))

noncomputable def ZA.s0 (f : Form) (t : Int) (s1 : Int × Bool × Int) : Option ((Int × Bool × Int) ⊕ (Int × Bool)) :=
 (bif (decide (s1.2.2 < (f.Core.length : Int))) then
  (
   (
    (at? f.Core s1.2.2).bind fun x1 =>
    (Z1A x1).bind fun x2 =>
    (bif (!x2.2) then
     some (.ret ())
    else
     (Z5f x2.1 t f.Period).bind fun x3 =>
     (bif ((!s1.2.1) || (decide ((w64 ((w64 ((w64 ((w64 (x3 * f.Count)) + s1.2.2)) - s1.1)) * 1)) < 0))) then
      some (.go ((w64 ((w64 (x3 * f.Count)) + s1.2.2)), true))
     else
      some (.go (s1.1, s1.2.1))))).bind fun (y3 : Jx (Int × Bool) (Unit)) =>
   y3.elim (fun a4 =>
     some (s1.1, s1.2.1)) fun a3 =>
   some (a3.1, a3.2)).bind fun (y2 : Int × Bool) =>
  some (.inl (y2.1, y2.2, (w64 (s1.2.2 + 1))))
 else
  some (.inr (s1.1, s1.2.1)))

noncomputable def ZA (f : Form) (t : Int) : Option (Int × Bool) :=
 (ZM (ZA.s0 f t) (0, false, 0)).bind fun (y1 : Int × Bool) =>
 some (y1.1, y1.2)

noncomputable def Z3.s0 (f : Form) (s1 : Int × (List (Int × Int))) : Option ((Int × (List (Int × Int))) ⊕ ((List (Int × Int)))) :=
 (bif (decide (s1.1 < (f.Odd.length : Int))) then
  (at? f.Odd s1.1).bind fun x2 =>
  some (.inl ((w64 (s1.1 + 1)), (mput s1.2 x2.Index (w64 ((mget s1.2 x2.Index) + 1)))))
 else
  some (.inr s1.2))

noncomputable def Z3.s1 (f : Form) (y1 : (List (Int × Int))) (s2 : Int × Bool × Int) : Option ((Int × Bool × Int) ⊕ (Jx (Unit) (Int × Bool))) :=
 (bif (s2.2.1 && (decide (s2.2.2 < 2))) then
  (
   (
    (Z09 (Form.mk f.Period f.Count f.Core []) s2.1).bind fun x4 =>
    (bif (x4.2 != 0) then
     some (.go (w64 (s2.2.2 + 1)))
    else
     (bif ((mget y1 s2.1) == 0) then
      some (.ret (s2.1, true))
     else
      some (.go s2.2.2)))).bind fun (y4 : Jx (Int) (Int × Bool)) =>
   y4.elim (fun r' =>
     some (.ret r')) fun a4 =>
   some (.go a4)).bind fun (y3 : Jx (Int) (Int × Bool)) =>
  y3.elim (fun r' =>
    some (.inr (.ret r'))) fun a5 =>
  (Z0l (Form.mk f.Period f.Count f.Core []) s2.1).bind fun x5 =>
  some (.inl (x5.1, x5.2, a5))
 else
  some (.inr (.go ())))

noncomputable def Z3 (f : Form) (t : Int) : Option (Int × Bool) :=
 (ZA f t).bind fun x1 =>
 (bif (!x1.2) then
  some (0, false)
 else
  (ZM (Z3.s0 f) (0, [])).bind fun (y1 : (List (Int × Int))) =>
  (Z0l (Form.mk f.Period f.Count f.Core []) (w64 (x1.1 - 1))).bind fun x3 =>
  (ZM (Z3.s1 f y1) (x3.1, x3.2, 0)).bind fun (y2 : Jx (Unit) (Int × Bool)) =>
  y2.elim (fun r' =>
    some r') fun a6 =>
  some (0, false))

noncomputable def Z1m (h' : Span) (t : Int) : Bool :=
 (decide (h'.To ≥ t))

noncomputable def Z6.s0 (f : Form) (t : Int) (s1 : Int × Bool × Int) : Option ((Int × Bool × Int) ⊕ (Int × Bool)) :=
 (bif (decide (s1.2.2 < (f.Odd.length : Int))) then
  (
   (
    (at? f.Odd s1.2.2).bind fun x2 =>
    (Z1A x2.Ticks).bind fun x3 =>
    (bif ((x3.2 && (Z1m x3.1 (iMax (iMin t 1099511627777) (-1099511627777)))) && ((!s1.2.1) || (decide ((w64 ((w64 (x2.Index - s1.1)) * 1)) < 0)))) then
     some (x2.Index, true)
    else
     some (s1.1, s1.2.1))).bind fun (y3 : Int × Bool) =>
   some (y3.1, y3.2)).bind fun (y2 : Int × Bool) =>
  some (.inl (y2.1, y2.2, (w64 (s1.2.2 + 1))))
 else
  some (.inr (s1.1, s1.2.1)))

noncomputable def Z6 (f : Form) (t : Int) : Option (Int × Bool) :=
 (Z3 f (iMax (iMin t 1099511627777) (-1099511627777))).bind fun x1 =>
 (ZM (Z6.s0 f t) (x1.1, x1.2, 0)).bind fun (y1 : Int × Bool) =>
 some (y1.1, y1.2)

noncomputable def Z3m (f : Form) (t : Int) : Option (Int × Bool) :=
 (Z6 f t).bind fun x1 =>
 some (x1.1, x1.2)

noncomputable def Z7.s0 (x' : (List Span)) (target : Int) (cmp : Span → Int → Option Int) (s1 : Int × Int) : Option ((Int × Int) ⊕ (Int)) :=
 (bif (decide (s1.1 < s1.2)) then
  (
   (at? x' (w64 ((IntKind.u64.wrap (w64 (s1.1 + s1.2))).fdiv (2 ^ 1)))).bind fun x1 =>
   (cmp x1 target).bind fun x2 =>
   (bif (decide (x2 < 0)) then
    some ((w64 ((w64 ((IntKind.u64.wrap (w64 (s1.1 + s1.2))).fdiv (2 ^ 1))) + 1)), s1.2)
   else
    some (s1.1, (w64 ((IntKind.u64.wrap (w64 (s1.1 + s1.2))).fdiv (2 ^ 1)))))).bind fun (y2 : Int × Int) =>
  some (.inl (y2.1, y2.2))
 else
  some (.inr s1.1))

noncomputable def Z7 (x' : (List Span)) (target : Int) (cmp : Span → Int → Option Int) : Option (Int × Bool) :=
 (ZM (Z7.s0 x' target cmp) (0, (x'.length : Int))).bind fun (y1 : Int) =>
 (
  (bif (decide (y1 < (x'.length : Int))) then
   (at? x' y1).bind fun x3 =>
   (cmp x3 target).bind fun x4 =>
   some (x4 == 0)
  else
   some false)).bind fun (y3 : Bool) =>
 some (y1, y3)

noncomputable def Z24 (s : Span) (t : Int) : Int :=
 (bif (decide (s.To < t)) then
  (-1)
 else
  (bif (decide (s.From > t)) then
   1
  else
   0))

noncomputable def Z38 (l : (List Span)) (t : Int) : Option (Bool) :=
 (Z7 l t (fun z0 z1 => some (Z24 z0 z1))).bind fun x1 =>
 some (x1.2 && (decide (x1.1 < (l.length : Int))))

noncomputable def Z3L (f : Form) (t : Int) : Option (Int × Bool) :=
 (Z3m f t).bind fun x1 =>
 (bif (!x1.2) then
  some (0, false)
 else
  (Z09 f x1.1).bind fun x2 =>
  (Z38 x2.1 t).bind fun x3 =>
  (bif (!x3) then
   some (0, false)
  else
   some (x1.1, true)))

noncomputable def Z04 (f : Form) (a : Int) (b : Int) : Option (Int × Bool) :=
 (Z3L f a).bind fun x1 =>
 (bif (!x1.2) then
  some (0, false)
 else
  (Z3L f b).bind fun x2 =>
  (bif (!x2.2) then
   some (0, false)
  else
   some ((w64 (x2.1 - x1.1)), true)))

noncomputable def ZW.s0 (s : (List Int)) (f : Int → Option Bool) (s1 : Int) : Option ((Int) ⊕ (Jx (Unit) (Int))) :=
 (bif (decide (s1 < (s.length : Int))) then
  (at? s s1).bind fun x1 =>
  (f x1).bind fun x2 =>
  (bif x2 then
   some (.inr (.ret s1))
  else
   some (.inl (w64 (s1 + 1))))
 else
  some (.inr (.go ())))

noncomputable def ZW (s : (List Int)) (f : Int → Option Bool) : Option (Int) :=
 (ZM (ZW.s0 s f) 0).bind fun (y1 : Jx (Unit) (Int)) =>
 y1.elim (fun r' =>
   some r') fun a2 =>
 some (-1)

noncomputable def Z0A (s : (List Int)) (f : Int → Option Bool) : Option (Bool) :=
 (ZW s f).bind fun x1 =>
 some (decide (x1 ≥ 0))

noncomputable def Z5g (t : Int) : Bool :=
 ((decide (t < (-1099511627776))) || (decide (t > 1099511627776)))

noncomputable def Z5h (n : Net) (ticks : (List Int)) : Option (Bool) :=
 (
  (bif ((ticks.length : Int) == n.Vars) then
   (Z0A ticks (fun z0 => some (Z5g z0))).bind fun x1 =>
   some (!x1)
  else
   some false)).bind fun (y1 : Bool) =>
 some y1

noncomputable def Z6n (n : Net) (c : Con) (ticks : (List Int)) : Option (Bool) :=
 (at? n.Forms c.Form).bind fun x1 =>
 (at? ticks c.X).bind fun x2 =>
 (at? ticks c.Y).bind fun x3 =>
 (Z04 x1 x2 x3).bind fun x4 =>
 (
  (
   (
    (bif (!x4.2) then
     some (!x4.2)
    else
     (bif (c.Range.HasLow && (decide (x4.1 < c.Range.Low))) then
      some (c.Range.HasLow && (decide (x4.1 < c.Range.Low)))
     else
      some (c.Range.HasHigh && (decide (x4.1 > c.Range.High)))))).bind fun (y3 : Bool) =>
   (bif y3 then
    some (.ret false)
   else
    some (.go ()))).bind fun (y2 : Jx (Unit) (Bool)) =>
  y2.elim (fun r' =>
    some (.ret r')) fun a3 =>
  some (.go ())).bind fun (y1 : Jx (Unit) (Bool)) =>
 y1.elim (fun r' =>
   some r') fun a4 =>
 some true

noncomputable def Z0S.s0 (p1' : Net) (p2' : (List Int)) {S : Type} (yield : S → Int → Option (S × Bool)) (s1 : Int × S) : Option ((Int × S) ⊕ (Jx (S) (S))) :=
 (bif (decide (s1.1 < (p1'.Cons.length : Int))) then
  (at? p1'.Cons s1.1).bind fun x1 =>
  (Z6n p1' x1 p2').bind fun x2 =>
  (
   (bif (!x2) then
    (yield s1.2 s1.1).bind fun x3 =>
    some ((!x3.2), x3.1)
   else
    some (false, s1.2))).bind fun (y2 : Bool × S) =>
  (bif y2.1 then
   some (.inr (.ret y2.2))
  else
   some (.inl ((w64 (s1.1 + 1)), y2.2)))
 else
  some (.inr (.go s1.2)))

noncomputable def Z0S {S : Type} (p1' : Net) (p2' : (List Int)) (yield : S → Int → Option (S × Bool)) (st' : S) : Option (S) :=
 (ZM (Z0S.s0 p1' p2' yield) (0, st')).bind fun (y1 : Jx (S) (S)) =>
 y1.elim (fun r' =>
   some r') fun a2 =>
 some a2

noncomputable def Z1K.b0 (s2 : (List Int)) (z2 : Int) : Option (((List Int)) × Nat) :=
 (app? 8 s2 [z2]).bind fun x2 =>
 some (x2, 0)

noncomputable def Z1K (n : Net) (ticks : (List Int)) : Option ((List Int) × Int) :=
 (Z5h n ticks).bind fun x1 =>
 (bif (!x1) then
  some ([], 230)
 else
  (Z0S n ticks (Z2n Z1K.b0) ([], 0)).bind fun (y1 : ((List Int)) × Nat) =>
  some (y1.1, 0))

noncomputable def ZP (i : Int) (many : Int) : Bool :=
 ((decide (i ≥ 0)) && (decide (i < many)))

noncomputable def ZT.s0 (s : (List Form)) (f : Form → Option Bool) (s1 : Int) : Option ((Int) ⊕ (Jx (Unit) (Int))) :=
 (bif (decide (s1 < (s.length : Int))) then
  (at? s s1).bind fun x1 =>
  (f x1).bind fun x2 =>
  (bif x2 then
   some (.inr (.ret s1))
  else
   some (.inl (w64 (s1 + 1))))
 else
  some (.inr (.go ())))

noncomputable def ZT (s : (List Form)) (f : Form → Option Bool) : Option (Int) :=
 (ZM (ZT.s0 s f) 0).bind fun (y1 : Jx (Unit) (Int)) =>
 y1.elim (fun r' =>
   some r') fun a2 =>
 some (-1)

noncomputable def Zz (s : (List Form)) (f : Form → Option Bool) : Option (Bool) :=
 (ZT s f).bind fun x1 =>
 some (decide (x1 ≥ 0))

noncomputable def Z3Q (f : Form) : Option (Bool) :=
 (Zm f).bind fun x1 =>
 some (x1 != 0)

noncomputable def ZV.s0 (s : (List Con)) (f : Con → Option Bool) (s1 : Int) : Option ((Int) ⊕ (Jx (Unit) (Int))) :=
 (bif (decide (s1 < (s.length : Int))) then
  (at? s s1).bind fun x1 =>
  (f x1).bind fun x2 =>
  (bif x2 then
   some (.inr (.ret s1))
  else
   some (.inl (w64 (s1 + 1))))
 else
  some (.inr (.go ())))

noncomputable def ZV (s : (List Con)) (f : Con → Option Bool) : Option (Int) :=
 (ZM (ZV.s0 s f) 0).bind fun (y1 : Jx (Unit) (Int)) =>
 y1.elim (fun r' =>
   some r') fun a2 =>
 some (-1)

noncomputable def Z08 (s : (List Con)) (f : Con → Option Bool) : Option (Bool) :=
 (ZV s f).bind fun x1 =>
 some (decide (x1 ≥ 0))

noncomputable def Z1E (r' : Range) : Bool :=
 ((r'.HasLow || (r'.Low == 0)) && (r'.HasHigh || (r'.High == 0)))

noncomputable def Z2B (n : Net) (c : Con) : Bool :=
 ((((ZP c.X n.Vars) && (ZP c.Y n.Vars)) && (ZP c.Form (n.Forms.length : Int))) && (Z1E c.Range))

noncomputable def Z4F (c : Con) (p1' : Net) : Bool :=
 (!(Z2B p1' c))

noncomputable def Z4e (n : Net) : Option (Int) :=
 (
  (
   (
    (bif (!(ZP n.Vars 25)) then
     some (!(ZP n.Vars 25))
    else
     (bif (decide ((n.Forms.length : Int) > 20)) then
      some (decide ((n.Forms.length : Int) > 20))
     else
      some (decide ((n.Cons.length : Int) > 200))))).bind fun (y3 : Bool) =>
   (bif y3 then
    some (.ret 230)
   else
    (
     (Zz n.Forms (fun z0 => Z3Q z0)).bind fun x1 =>
     (bif x1 then
      some x1
     else
      (Z08 n.Cons (fun z0 => some (Z4F z0 n))).bind fun x2 =>
      some x2)).bind fun (y4 : Bool) =>
    (bif y4 then
     some (.ret 230)
    else
     some (.go ())))).bind fun (y2 : Jx (Unit) (Int)) =>
  y2.elim (fun r' =>
    some (.ret r')) fun a3 =>
  some (.go ())).bind fun (y1 : Jx (Unit) (Int)) =>
 y1.elim (fun r' =>
   some r') fun a4 =>
 some 0

noncomputable def Z1k.b0 (s1 : Unit) (z1 : Int) : Option ((Unit) × Nat) :=
 some ((), 1)

noncomputable def Z1k (n : Net) (ticks : (List Int)) : Option (Bool) :=
 (Z5h n ticks).bind fun x1 =>
 (bif (!x1) then
  some false
 else
  (Z0S n ticks (Z2n Z1k.b0) ((), 0)).bind fun (y1 : (Unit) × Nat) =>
  (bif (y1.2 == 0) then
   some true
  else
   some false))

noncomputable def Z0J.s0 (a : (List Int)) (b : (List Int)) (s1 : Int) : Option ((Int) ⊕ (Jx (Unit) (Bool))) :=
 (bif (decide (s1 < (a.length : Int))) then
  (at? a s1).bind fun x1 =>
  (at? b s1).bind fun x2 =>
  (bif (x1 != x2) then
   some (.inr (.ret false))
  else
   some (.inl (w64 (s1 + 1))))
 else
  some (.inr (.go ())))

noncomputable def Z0J (a : (List Int)) (b : (List Int)) : Option (Bool) :=
 (bif ((a.length : Int) != (b.length : Int)) then
  some false
 else
  (ZM (Z0J.s0 a b) 0).bind fun (y1 : Jx (Unit) (Bool)) =>
  y1.elim (fun r' =>
    some r') fun a2 =>
  some true)

noncomputable def Z16 : Option (Bool) :=
 (Z04 ZF 3 9).bind fun x1 =>
 (Z04 ZF 3 5).bind fun x2 =>
 (Z1K (Net.mk 2 [ZF] [(Con.mk 0 1 0 (Range.mk 1 2 true true))]) [3, 4]).bind fun x3 =>
 (Z1K (Net.mk 2 [ZF] [(Con.mk 0 1 0 (Range.mk 1 2 true true))]) [3, 5]).bind fun x4 =>
 (
  (bif ((x1.2 && (x1.1 == 1)) && (!x2.2)) then
   (Z4e (Net.mk 2 [ZF] [(Con.mk 0 1 0 (Range.mk 1 2 true true))])).bind fun x5 =>
   some (x5 == 0)
  else
   some false)).bind fun (y1 : Bool) =>
 (
  (bif y1 then
   (Z1k (Net.mk 2 [ZF] [(Con.mk 0 1 0 (Range.mk 1 2 true true))]) [3, 9]).bind fun x6 =>
   some x6
  else
   some false)).bind fun (y2 : Bool) =>
 (
  (bif (y2 && (x3.2 == 0)) then
   (Z0J x3.1 [0]).bind fun x7 =>
   some x7
  else
   some false)).bind fun (y3 : Bool) =>
 (
  (bif (y3 && (x4.2 == 0)) then
   (Z0J x4.1 [0]).bind fun x8 =>
   some x8
  else
   some false)).bind fun (y4 : Bool) =>
 some y4

def Zw : Bool := true

noncomputable def Z1V (f : Form) (a : Int) (b : Int) (c : Int) : Option (Bool) :=
 (Z0M f).bind fun x1 =>
 (
  (bif (!x1) then
   some true
  else
   (Zm f).bind fun x2 =>
   some (x2 != 0))).bind fun (y1 : Bool) =>
 (bif y1 then
  some Zw
 else
  (Z04 f a b).bind fun x3 =>
  (Z04 f b a).bind fun x4 =>
  (Z04 f b c).bind fun x5 =>
  (Z04 f a c).bind fun x6 =>
  (Z04 f a a).bind fun x7 =>
  (Z04 f b b).bind fun x8 =>
  (bif (((((x3.2 != x4.2) || (x3.2 != (x7.2 && x8.2))) || ((!x3.2) && (x3.1 != 0))) || (x7.1 != 0)) || (x8.1 != 0)) then
   some false
  else
   (bif ((x3.2 && (x3.1 != (w64 (0 - x4.1)))) || ((x3.2 && x5.2) && ((!x6.2) || (x6.1 != (w64 (x3.1 + x5.1)))))) then
    some false
   else
    (bif (((x3.2 && (decide (a ≤ b))) && (decide (x3.1 < 0))) || ((x3.2 && (decide (a ≥ b))) && (decide (x3.1 > 0)))) then
     some false
    else
     some Zw))))

end Go.Dn

namespace Go.Dn
open Go

def Le {α : Type} (a b : Option α) : Prop := ∀ r, a = some r → b = some r
theorem Le.refl {α : Type} (a : Option α) : Le a a := fun _ h => h
theorem Le.bind {α β : Type} {a b : Option α} {f g : α → Option β} (h : Le a b) (hf : ∀ x, Le (f x) (g x)) : Le (a.bind f) (b.bind g) := fun r hr => by
 cases ha : a with
 | none => rw [ha] at hr; cases hr
 | some x => rw [ha] at hr; rw [h x ha]; exact hf x r hr
theorem Le.cond {α : Type} {c : Bool} {a b a' b' : Option α} (h : Le a a') (h' : Le b b') : Le (bif c then a else b) (bif c then a' else b') := by
 cases c
 ·exact h'
 ·exact h
theorem Le.elim {A B C : Type} {y : Jx A B} {f f' : B → Option C} {g g' : A → Option C} (h : ∀ r, Le (f r) (f' r)) (h' : ∀ a, Le (g a) (g' a)) : Le (y.elim f g) (y.elim f' g') := by
 cases y
 ·exact h' _
 ·exact h _
theorem Le.Z2n {S T : Type} {f g : S → T → Option (S × Nat)} (h : ∀ s t, Le (f s t) (g s t)) (s : S × Nat) (t : T) : Le (Z2n f s t) (Z2n g s t) := fun r hr => by
 unfold Go.Dn.Z2n at hr ⊢
 split at hr
 ·rename_i h0
  rw [if_pos h0]
  cases ha : f s.1 t with
  | none => rw [ha] at hr; cases hr
  | some x => rw [ha] at hr; rw [h _ _ x ha]; exact hr
 ·cases hr
def Z1r {S R : Type} (step : S → Option (S ⊕ R)) (s : S) : Option R := Z2y step 1000000 s
theorem iterO_le {S R : Type} {step step' : S → Option (S ⊕ R)} (h : ∀ s, Le (step s) (step' s)) : ∀ (n : Nat) (s : S), Le (Z2y step n s) (Z2y step' n s)
 | 0, s => fun r hr => by cases hr
 | n + 1, s => fun r hr => by
  simp only [Z2y] at hr ⊢
  cases hs : step s with
  | none => rw [hs] at hr; cases hr
  | some x =>
   rw [hs] at hr
   rw [h s x hs]
   cases x with
   | inl s' => exact iterO_le h n s' r hr
   | inr r' => exact hr
theorem Le.loop {S R : Type} {step step' : S → Option (S ⊕ R)} {s : S} (h : ∀ s, Le (step s) (step' s)) : Le (Z1r step s) (ZM step' s) := fun r hr => Zf.2 ⟨1000000, iterO_le h _ s r hr⟩

noncomputable def Z4j (f : Form) : Option (Int) :=
 (Z1r (Zq.s0 f) (0, 0)).bind fun (y1 : Int) =>
 (Z1r (Zq.s1 f) (y1, 0)).bind fun (y2 : Int) =>
 some y2

theorem Z8Z {f : Form} : Le (Z4j f) (Zq f) := by
 unfold Z4j Zq
 repeat' (with_reducible (first | exact Le.refl _ | refine Le.bind ?_ ?_ | refine Le.loop ?_ | intro _))

noncomputable def Z2j (l : (List Span)) : Option (Bool) :=
 (Z1r (Zt.s0 l) 0).bind fun (y1 : Jx (Unit) (Bool)) =>
 y1.elim (fun r' =>
   some r') fun a2 =>
 some true

theorem Z4c {l : (List Span)} : Le (Z2j l) (Zt l) := by
 unfold Z2j Zt
 repeat' (with_reducible (first | exact Le.refl _ | refine Le.bind ?_ ?_ | refine Le.elim ?_ ?_ | refine Le.loop ?_ | intro _))

noncomputable def Z0Q.s0 (f : Form) (s1 : Int) : Option ((Int) ⊕ (Jx (Unit) (Bool))) :=
 (bif (decide (s1 < (f.Core.length : Int))) then
  (at? f.Core s1).bind fun x1 =>
  (Z2j x1).bind fun x2 =>
  (bif (!x2) then
   some (.inr (.ret false))
  else
   some (.inl (w64 (s1 + 1))))
 else
  some (.inr (.go ())))

theorem Z6U {f : Form} {s1 : Int} : Le (Z0Q.s0 f s1) (Zc.s0 f s1) := by
 unfold Z0Q.s0 Zc.s0
 repeat' (with_reducible (first | exact Le.refl _ | refine Le.bind ?_ ?_ | refine Le.cond ?_ ?_ | refine Z4c | intro _))

noncomputable def Z0Q.s1 (f : Form) (s2 : Int) : Option ((Int) ⊕ (Jx (Unit) (Bool))) :=
 (bif (decide (s2 < (f.Odd.length : Int))) then
  (at? f.Odd s2).bind fun x3 =>
  (Z2j x3.Ticks).bind fun x4 =>
  (
   (bif ((!x4) || (!(Zg x3.Index))) then
    some true
   else
    (
     (bif (decide (s2 > 0)) then
      (at? f.Odd (w64 (s2 - 1))).bind fun x5 =>
      some (decide (x3.Index ≤ x5.Index))
     else
      some false)).bind fun (y4 : Bool) =>
    some y4)).bind fun (y3 : Bool) =>
  (bif y3 then
   some (.inr (.ret false))
  else
   some (.inl (w64 (s2 + 1))))
 else
  some (.inr (.go ())))

theorem Z6T {f : Form} {s2 : Int} : Le (Z0Q.s1 f s2) (Zc.s1 f s2) := by
 unfold Z0Q.s1 Zc.s1
 repeat' (with_reducible (first | exact Le.refl _ | refine Le.bind ?_ ?_ | refine Le.cond ?_ ?_ | refine Z4c | intro _))

noncomputable def Z0Q (f : Form) : Option (Bool) :=
 (bif ((((f.Count != (f.Core.length : Int)) || ((f.Count == 0) != (f.Period == 0))) || (decide (f.Period < 0))) || (decide (f.Period > 1099511627776))) then
  some false
 else
  (Z1r (Z0Q.s0 f) 0).bind fun (y1 : Jx (Unit) (Bool)) =>
  y1.elim (fun r' =>
    some r') fun a2 =>
  (Z1r (Z0Q.s1 f) 0).bind fun (y2 : Jx (Unit) (Bool)) =>
  y2.elim (fun r' =>
    some r') fun a4 =>
  some true)

theorem Z85 {f : Form} : Le (Z0Q f) (Zc f) := by
 unfold Z0Q Zc
 repeat' (with_reducible (first | exact Le.refl _ | refine Le.bind ?_ ?_ | refine Le.cond ?_ ?_ | refine Le.elim ?_ ?_ | refine Le.loop ?_ | refine Z6U | refine Z6T | intro _))

noncomputable def Z4O (f : Form) : Option (Bool) :=
 (Z1r (Zy.s0 f) (0, [])).bind fun (y1 : (List (List Span))) =>
 (Z1r (Zy.s1 f y1) 0).bind fun (y4 : Jx (Unit) (Bool)) =>
 y4.elim (fun r' =>
   some r') fun a6 =>
 some true

theorem Z83 {f : Form} : Le (Z4O f) (Zy f) := by
 unfold Z4O Zy
 repeat' (with_reducible (first | exact Le.refl _ | refine Le.bind ?_ ?_ | refine Le.elim ?_ ?_ | refine Le.loop ?_ | intro _))

noncomputable def ZK.s0 (x' : (List Granule)) (target : Int) (cmp : Granule → Int → Option Int) (s1 : Int × Int) : Option ((Int × Int) ⊕ (Int)) :=
 (bif (decide (s1.1 < s1.2)) then
  (
   (at? x' (w64 ((IntKind.u64.wrap (w64 (s1.1 + s1.2))).fdiv (2 ^ 1)))).bind fun x1 =>
   (cmp x1 target).bind fun x2 =>
   (bif (decide (x2 < 0)) then
    some ((w64 ((w64 ((IntKind.u64.wrap (w64 (s1.1 + s1.2))).fdiv (2 ^ 1))) + 1)), s1.2)
   else
    some (s1.1, (w64 ((IntKind.u64.wrap (w64 (s1.1 + s1.2))).fdiv (2 ^ 1)))))).bind fun (y2 : Int × Int) =>
  some (.inl (y2.1, y2.2))
 else
  some (.inr s1.1))

theorem Z0r {x' : (List Granule)} {target : Int} {cmp cmp_ : Granule → Int → Option Int} {s1 : Int × Int} (h_cmp : ∀ z0 z1, Le (cmp z0 z1) (cmp_ z0 z1)) : Le (ZK.s0 x' target cmp s1) (Z4.s0 x' target cmp_ s1) := by
 unfold ZK.s0 Z4.s0
 repeat' (with_reducible (first | exact Le.refl _ | exact h_cmp _ _ | exact h_cmp | refine Le.bind ?_ ?_ | refine Le.cond ?_ ?_ | intro _))

noncomputable def ZK (x' : (List Granule)) (target : Int) (cmp : Granule → Int → Option Int) : Option (Int × Bool) :=
 (Z1r (ZK.s0 x' target cmp) (0, (x'.length : Int))).bind fun (y1 : Int) =>
 (
  (bif (decide (y1 < (x'.length : Int))) then
   (at? x' y1).bind fun x3 =>
   (cmp x3 target).bind fun x4 =>
   some (x4 == 0)
  else
   some false)).bind fun (y3 : Bool) =>
 some (y1, y3)

theorem Z10 {x' : (List Granule)} {target : Int} {cmp cmp_ : Granule → Int → Option Int} (h_cmp : ∀ z0 z1, Le (cmp z0 z1) (cmp_ z0 z1)) : Le (ZK x' target cmp) (Z4 x' target cmp_) := by
 unfold ZK Z4
 repeat' (with_reducible (first | exact Le.refl _ | exact h_cmp _ _ | exact h_cmp | refine Le.bind ?_ ?_ | refine Le.cond ?_ ?_ | refine Le.loop ?_ | refine Z0r ?_ | intro _))

noncomputable def Z4K (f : Form) (i : Int) : Option (Int × Bool) :=
 (ZK f.Odd i (fun z0 z1 => some (Z2W z0 z1))).bind fun x1 =>
 some (x1.1, x1.2)

theorem Z6B {f : Form} {i : Int} : Le (Z4K f i) (Z3P f i) := by
 unfold Z4K Z3P
 repeat' (with_reducible (first | exact Le.refl _ | refine Le.bind ?_ ?_ | refine Z10 ?_ | intro _))

noncomputable def Z3d (f : Form) (i : Int) : Option ((List Span) × Int × Int) :=
 (Z4K f i).bind fun x1 =>
 (bif x1.2 then
  (at? f.Odd x1.1).bind fun x2 =>
  some (x2.Ticks, 0, 0)
 else
  (bif (f.Count == 0) then
   some ([], 0, 0)
  else
   (Z0y i f.Count).bind fun x3 =>
   (at? f.Core x3.2.1).bind fun x4 =>
   some (x4, (Z0E x3.1 f.Period).1, (Z0E x3.1 f.Period).2)))

theorem Z5R {f : Form} {i : Int} : Le (Z3d f i) (Z1n f i) := by
 unfold Z3d Z1n
 repeat' (with_reducible (first | exact Le.refl _ | refine Le.bind ?_ ?_ | refine Le.cond ?_ ?_ | refine Z6B | intro _))

noncomputable def Z4U (l : (List Span)) (by' : Int) : Option ((List Span) × Int) :=
 (Z1r (Z02.s0 l by') (0, [])).bind fun (y1 : Jx ((List Span)) ((List Span) × Int)) =>
 y1.elim (fun r' =>
   some r') fun a2 =>
 some (a2, 0)

theorem Z81 {l : (List Span)} {by' : Int} : Le (Z4U l by') (Z02 l by') := by
 unfold Z4U Z02
 repeat' (with_reducible (first | exact Le.refl _ | refine Le.bind ?_ ?_ | refine Le.elim ?_ ?_ | refine Le.loop ?_ | intro _))

noncomputable def Z28 (f : Form) (i : Int) : Option ((List Span) × Int) :=
 (bif (!(Zg i)) then
  some ([], 20)
 else
  (Z3d f i).bind fun x1 =>
  (bif ((x1.1.length : Int) == 0) then
   some ([], 0)
  else
   (bif (x1.2.2 != 0) then
    some ([], 20)
   else
    (Z4U x1.1 x1.2.1).bind fun x2 =>
    some (x2.1, x2.2))))

theorem Z4L {f : Form} {i : Int} : Le (Z28 f i) (Z09 f i) := by
 unfold Z28 Z09
 repeat' (with_reducible (first | exact Le.refl _ | refine Le.bind ?_ ?_ | refine Le.cond ?_ ?_ | refine Z5R | refine Z81 | intro _))

noncomputable def ZX.s0 (s : (List (List Span))) (f : (List Span) → Option Bool) (s1 : Int) : Option ((Int) ⊕ (Jx (Unit) (Int))) :=
 (bif (decide (s1 < (s.length : Int))) then
  (at? s s1).bind fun x1 =>
  (f x1).bind fun x2 =>
  (bif x2 then
   some (.inr (.ret s1))
  else
   some (.inl (w64 (s1 + 1))))
 else
  some (.inr (.go ())))

theorem Z2C {s : (List (List Span))} {f f_ : (List Span) → Option Bool} {s1 : Int} (h_f : ∀ z0, Le (f z0) (f_ z0)) : Le (ZX.s0 s f s1) (ZE.s0 s f_ s1) := by
 unfold ZX.s0 ZE.s0
 repeat' (with_reducible (first | exact Le.refl _ | exact h_f _ | exact h_f | refine Le.bind ?_ ?_ | refine Le.cond ?_ ?_ | intro _))

noncomputable def ZX (s : (List (List Span))) (f : (List Span) → Option Bool) : Option (Int) :=
 (Z1r (ZX.s0 s f) 0).bind fun (y1 : Jx (Unit) (Int)) =>
 y1.elim (fun r' =>
   some r') fun a2 =>
 some (-1)

theorem Z2X {s : (List (List Span))} {f f_ : (List Span) → Option Bool} (h_f : ∀ z0, Le (f z0) (f_ z0)) : Le (ZX s f) (ZE s f_) := by
 unfold ZX ZE
 repeat' (with_reducible (first | exact Le.refl _ | exact h_f _ | exact h_f | refine Le.bind ?_ ?_ | refine Le.elim ?_ ?_ | refine Le.loop ?_ | refine Z2C ?_ | intro _))

noncomputable def Z0R (s : (List (List Span))) (f : (List Span) → Option Bool) : Option (Bool) :=
 (ZX s f).bind fun x1 =>
 some (decide (x1 ≥ 0))

theorem Z2D {s : (List (List Span))} {f f_ : (List Span) → Option Bool} (h_f : ∀ z0, Le (f z0) (f_ z0)) : Le (Z0R s f) (ZU s f_) := by
 unfold Z0R ZU
 repeat' (with_reducible (first | exact Le.refl _ | exact h_f _ | exact h_f | refine Le.bind ?_ ?_ | refine Z2X ?_ | intro _))

noncomputable def Z52 (f : Form) : Option (Bool) :=
 (Z0R f.Core (fun z0 => some (Z3M z0))).bind fun x1 =>
 some (!x1)

theorem Z8I {f : Form} : Le (Z52 f) (Z30 f) := by
 unfold Z52 Z30
 repeat' (with_reducible (first | exact Le.refl _ | refine Le.bind ?_ ?_ | refine Z2D ?_ | intro _))

noncomputable def Z4n (f : Form) (i : Int) : Option (Bool) :=
 (Z3d f i).bind fun x1 =>
 some (decide ((x1.1.length : Int) > 0))

theorem Z89 {f : Form} {i : Int} : Le (Z4n f i) (Z3B f i) := by
 unfold Z4n Z3B
 repeat' (with_reducible (first | exact Le.refl _ | refine Le.bind ?_ ?_ | refine Z5R | intro _))

noncomputable def Z18.s1 (f : Form) (by' : Int) (s2 : Int) : Option ((Int) ⊕ (Jx (Unit) (Int × Bool))) :=
 (bif (Zg s2) then
  (Z4n f s2).bind fun x5 =>
  (bif x5 then
   some (.inr (.ret (s2, true)))
  else
   some (.inl (w64 (s2 + by'))))
 else
  some (.inr (.go ())))

theorem Z6f {f : Form} {by' : Int} {s2 : Int} : Le (Z18.s1 f by' s2) (Zl.s1 f by' s2) := by
 unfold Z18.s1 Zl.s1
 repeat' (with_reducible (first | exact Le.refl _ | refine Le.bind ?_ ?_ | refine Le.cond ?_ ?_ | refine Z89 | intro _))

noncomputable def Z18 (f : Form) (from' : Int) (by' : Int) : Option (Int × Bool) :=
 (Z52 f).bind fun x1 =>
 (bif x1 then
  (Z4K f from').bind fun x2 =>
  (
   (bif ((decide (by' < 0)) && (!x2.2)) then
    some (w64 (x2.1 - 1))
   else
    some x2.1)).bind fun (y1 : Int) =>
  (Z1r (Zl.s0 f by') y1).bind fun (y2 : Jx (Unit) (Int × Bool)) =>
  y2.elim (fun r' =>
    some r') fun a2 =>
  some (0, false)
 else
  (Z1r (Z18.s1 f by') from').bind fun (y3 : Jx (Unit) (Int × Bool)) =>
  y3.elim (fun r' =>
    some r') fun a4 =>
  some (0, false))

theorem Z5G {f : Form} {from' : Int} {by' : Int} : Le (Z18 f from' by') (Zl f from' by') := by
 unfold Z18 Zl
 repeat' (with_reducible (first | exact Le.refl _ | refine Le.bind ?_ ?_ | refine Le.cond ?_ ?_ | refine Le.elim ?_ ?_ | refine Le.loop ?_ | refine Z8I | refine Z6B | refine Z6f | intro _))

noncomputable def Z3z (f : Form) (i : Int) : Option (Int × Bool) :=
 (bif (decide (i ≤ (-1099511627776))) then
  some (0, false)
 else
  (Z18 f (iMin (w64 (i - 1)) 1099511627776) (-1)).bind fun x1 =>
  some (x1.1, x1.2))

theorem Z7S {f : Form} {i : Int} : Le (Z3z f i) (Z0u f i) := by
 unfold Z3z Z0u
 repeat' (with_reducible (first | exact Le.refl _ | refine Le.bind ?_ ?_ | refine Le.cond ?_ ?_ | refine Z5G | intro _))

noncomputable def Z1y (f : Form) (i : Int) : Option (Int × Bool) :=
 (bif (decide (i ≥ 1099511627776)) then
  some (0, false)
 else
  (Z18 f (iMax (w64 (i + 1)) (-1099511627776)) 1).bind fun x1 =>
  some (x1.1, x1.2))

theorem Z3D {f : Form} {i : Int} : Le (Z1y f i) (Z0l f i) := by
 unfold Z1y Z0l
 repeat' (with_reducible (first | exact Le.refl _ | refine Le.bind ?_ ?_ | refine Le.cond ?_ ?_ | refine Z5G | intro _))

noncomputable def Z3r (f : Form) (i : Int) : Option (Bool) :=
 (Z28 f i).bind fun x1 =>
 (bif (x1.2 != 0) then
  some false
 else
  (Z3z f i).bind fun x2 =>
  (Z1y f i).bind fun x3 =>
  (
   (bif x2.2 then
    (Z28 f x2.1).bind fun x4 =>
    (bif (x4.2 != 0) then
     some (.ret false)
    else
     some (.go x4.1))
   else
    some (.go []))).bind fun (y1 : Jx ((List Span)) (Bool)) =>
  y1.elim (fun r' =>
    some r') fun a2 =>
  (
   (bif x3.2 then
    (Z28 f x3.1).bind fun x5 =>
    (bif (x5.2 != 0) then
     some (.ret false)
    else
     some (.go x5.1))
   else
    some (.go []))).bind fun (y2 : Jx ((List Span)) (Bool)) =>
  y2.elim (fun r' =>
    some r') fun a4 =>
  (Z0P a2 x1.1).bind fun x6 =>
  (
   (bif x6 then
    (Z0P x1.1 a4).bind fun x7 =>
    some x7
   else
    some false)).bind fun (y3 : Bool) =>
  (
   (bif y3 then
    (Z0P a2 a4).bind fun x8 =>
    some x8
   else
    some false)).bind fun (y4 : Bool) =>
  some y4)

theorem Z7H {f : Form} {i : Int} : Le (Z3r f i) (Z14 f i) := by
 unfold Z3r Z14
 repeat' (with_reducible (first | exact Le.refl _ | refine Le.bind ?_ ?_ | refine Le.cond ?_ ?_ | refine Le.elim ?_ ?_ | refine Z4L | refine Z7S | refine Z3D | intro _))

noncomputable def Z1B.s0 (f : Form) (s1 : Int) : Option ((Int) ⊕ (Jx (Unit) (Int))) :=
 (bif (decide (s1 < (f.Odd.length : Int))) then
  (at? f.Odd s1).bind fun x4 =>
  (Z3r f x4.Index).bind fun x5 =>
  (bif (!x5) then
   some (.inr (.ret 50))
  else
   some (.inl (w64 (s1 + 1))))
 else
  some (.inr (.go ())))

theorem Z6Y {f : Form} {s1 : Int} : Le (Z1B.s0 f s1) (Zm.s0 f s1) := by
 unfold Z1B.s0 Zm.s0
 repeat' (with_reducible (first | exact Le.refl _ | refine Le.bind ?_ ?_ | refine Le.cond ?_ ?_ | refine Z7H | intro _))

noncomputable def Z1B (f : Form) : Option (Int) :=
 (
  (bif ((decide ((f.Core.length : Int) > 6000)) || (decide ((f.Odd.length : Int) > 6000))) then
   some true
  else
   (Z4j f).bind fun x1 =>
   some (decide (x1 > 60000)))).bind fun (y1 : Bool) =>
 (bif y1 then
  some 3
 else
  (Z0Q f).bind fun x2 =>
  (
   (bif (!x2) then
    some true
   else
    (Z4O f).bind fun x3 =>
    some (!x3))).bind fun (y2 : Bool) =>
  (bif y2 then
   some 50
  else
   (Z1r (Z1B.s0 f) 0).bind fun (y3 : Jx (Unit) (Int)) =>
   y3.elim (fun r' =>
     some r') fun a2 =>
   some 0))

theorem Z84 {f : Form} : Le (Z1B f) (Zm f) := by
 unfold Z1B Zm
 repeat' (with_reducible (first | exact Le.refl _ | refine Le.bind ?_ ?_ | refine Le.cond ?_ ?_ | refine Le.elim ?_ ?_ | refine Le.loop ?_ | refine Z8Z | refine Z85 | refine Z83 | refine Z6Y | intro _))

noncomputable def Z0F (f : Form) (t : Int) : Option (Int × Bool) :=
 (Z1r (ZA.s0 f t) (0, false, 0)).bind fun (y1 : Int × Bool) =>
 some (y1.1, y1.2)

theorem Z1i {f : Form} {t : Int} : Le (Z0F f t) (ZA f t) := by
 unfold Z0F ZA
 repeat' (with_reducible (first | exact Le.refl _ | refine Le.bind ?_ ?_ | refine Le.loop ?_ | intro _))

noncomputable def ZO.s1 (f : Form) (y1 : (List (Int × Int))) (s2 : Int × Bool × Int) : Option ((Int × Bool × Int) ⊕ (Jx (Unit) (Int × Bool))) :=
 (bif (s2.2.1 && (decide (s2.2.2 < 2))) then
  (
   (
    (Z28 (Form.mk f.Period f.Count f.Core []) s2.1).bind fun x4 =>
    (bif (x4.2 != 0) then
     some (.go (w64 (s2.2.2 + 1)))
    else
     (bif ((mget y1 s2.1) == 0) then
      some (.ret (s2.1, true))
     else
      some (.go s2.2.2)))).bind fun (y4 : Jx (Int) (Int × Bool)) =>
   y4.elim (fun r' =>
     some (.ret r')) fun a4 =>
   some (.go a4)).bind fun (y3 : Jx (Int) (Int × Bool)) =>
  y3.elim (fun r' =>
    some (.inr (.ret r'))) fun a5 =>
  (Z1y (Form.mk f.Period f.Count f.Core []) s2.1).bind fun x5 =>
  some (.inl (x5.1, x5.2, a5))
 else
  some (.inr (.go ())))

theorem Z1J {f : Form} {y1 : (List (Int × Int))} {s2 : Int × Bool × Int} : Le (ZO.s1 f y1 s2) (Z3.s1 f y1 s2) := by
 unfold ZO.s1 Z3.s1
 repeat' (with_reducible (first | exact Le.refl _ | refine Le.bind ?_ ?_ | refine Le.cond ?_ ?_ | refine Le.elim ?_ ?_ | refine Z4L | refine Z3D | intro _))

noncomputable def ZO (f : Form) (t : Int) : Option (Int × Bool) :=
 (Z0F f t).bind fun x1 =>
 (bif (!x1.2) then
  some (0, false)
 else
  (Z1r (Z3.s0 f) (0, [])).bind fun (y1 : (List (Int × Int))) =>
  (Z1y (Form.mk f.Period f.Count f.Core []) (w64 (x1.1 - 1))).bind fun x3 =>
  (Z1r (ZO.s1 f y1) (x3.1, x3.2, 0)).bind fun (y2 : Jx (Unit) (Int × Bool)) =>
  y2.elim (fun r' =>
    some r') fun a6 =>
  some (0, false))

theorem Z1f {f : Form} {t : Int} : Le (ZO f t) (Z3 f t) := by
 unfold ZO Z3
 repeat' (with_reducible (first | exact Le.refl _ | refine Le.bind ?_ ?_ | refine Le.cond ?_ ?_ | refine Le.elim ?_ ?_ | refine Le.loop ?_ | refine Z1i | refine Z3D | refine Z1J | intro _))

noncomputable def Z0B (f : Form) (t : Int) : Option (Int × Bool) :=
 (ZO f (iMax (iMin t 1099511627777) (-1099511627777))).bind fun x1 =>
 (Z1r (Z6.s0 f t) (x1.1, x1.2, 0)).bind fun (y1 : Int × Bool) =>
 some (y1.1, y1.2)

theorem Z1Q {f : Form} {t : Int} : Le (Z0B f t) (Z6 f t) := by
 unfold Z0B Z6
 repeat' (with_reducible (first | exact Le.refl _ | refine Le.bind ?_ ?_ | refine Le.loop ?_ | refine Z1f | intro _))

noncomputable def Z57 (f : Form) (t : Int) : Option (Int × Bool) :=
 (Z0B f t).bind fun x1 =>
 some (x1.1, x1.2)

theorem Z88 {f : Form} {t : Int} : Le (Z57 f t) (Z3m f t) := by
 unfold Z57 Z3m
 repeat' (with_reducible (first | exact Le.refl _ | refine Le.bind ?_ ?_ | refine Z1Q | intro _))

noncomputable def ZN.s0 (x' : (List Span)) (target : Int) (cmp : Span → Int → Option Int) (s1 : Int × Int) : Option ((Int × Int) ⊕ (Int)) :=
 (bif (decide (s1.1 < s1.2)) then
  (
   (at? x' (w64 ((IntKind.u64.wrap (w64 (s1.1 + s1.2))).fdiv (2 ^ 1)))).bind fun x1 =>
   (cmp x1 target).bind fun x2 =>
   (bif (decide (x2 < 0)) then
    some ((w64 ((w64 ((IntKind.u64.wrap (w64 (s1.1 + s1.2))).fdiv (2 ^ 1))) + 1)), s1.2)
   else
    some (s1.1, (w64 ((IntKind.u64.wrap (w64 (s1.1 + s1.2))).fdiv (2 ^ 1)))))).bind fun (y2 : Int × Int) =>
  some (.inl (y2.1, y2.2))
 else
  some (.inr s1.1))

theorem Z19 {x' : (List Span)} {target : Int} {cmp cmp_ : Span → Int → Option Int} {s1 : Int × Int} (h_cmp : ∀ z0 z1, Le (cmp z0 z1) (cmp_ z0 z1)) : Le (ZN.s0 x' target cmp s1) (Z7.s0 x' target cmp_ s1) := by
 unfold ZN.s0 Z7.s0
 repeat' (with_reducible (first | exact Le.refl _ | exact h_cmp _ _ | exact h_cmp | refine Le.bind ?_ ?_ | refine Le.cond ?_ ?_ | intro _))

noncomputable def ZN (x' : (List Span)) (target : Int) (cmp : Span → Int → Option Int) : Option (Int × Bool) :=
 (Z1r (ZN.s0 x' target cmp) (0, (x'.length : Int))).bind fun (y1 : Int) =>
 (
  (bif (decide (y1 < (x'.length : Int))) then
   (at? x' y1).bind fun x3 =>
   (cmp x3 target).bind fun x4 =>
   some (x4 == 0)
  else
   some false)).bind fun (y3 : Bool) =>
 some (y1, y3)

theorem Z1P {x' : (List Span)} {target : Int} {cmp cmp_ : Span → Int → Option Int} (h_cmp : ∀ z0 z1, Le (cmp z0 z1) (cmp_ z0 z1)) : Le (ZN x' target cmp) (Z7 x' target cmp_) := by
 unfold ZN Z7
 repeat' (with_reducible (first | exact Le.refl _ | exact h_cmp _ _ | exact h_cmp | refine Le.bind ?_ ?_ | refine Le.cond ?_ ?_ | refine Le.loop ?_ | refine Z19 ?_ | intro _))

noncomputable def Z4i (l : (List Span)) (t : Int) : Option (Bool) :=
 (ZN l t (fun z0 z1 => some (Z24 z0 z1))).bind fun x1 =>
 some (x1.2 && (decide (x1.1 < (l.length : Int))))

theorem Z8t {l : (List Span)} {t : Int} : Le (Z4i l t) (Z38 l t) := by
 unfold Z4i Z38
 repeat' (with_reducible (first | exact Le.refl _ | refine Le.bind ?_ ?_ | refine Z1P ?_ | intro _))

noncomputable def Z53 (f : Form) (t : Int) : Option (Int × Bool) :=
 (Z57 f t).bind fun x1 =>
 (bif (!x1.2) then
  some (0, false)
 else
  (Z28 f x1.1).bind fun x2 =>
  (Z4i x2.1 t).bind fun x3 =>
  (bif (!x3) then
   some (0, false)
  else
   some (x1.1, true)))

theorem evle_find_At {f : Form} {t : Int} : Le (Z53 f t) (Z3L f t) := by
 unfold Z53 Z3L
 repeat' (with_reducible (first | exact Le.refl _ | refine Le.bind ?_ ?_ | refine Le.cond ?_ ?_ | refine Z88 | refine Z4L | refine Z8t | intro _))

noncomputable def Z1h (f : Form) (a : Int) (b : Int) : Option (Int × Bool) :=
 (Z53 f a).bind fun x1 =>
 (bif (!x1.2) then
  some (0, false)
 else
  (Z53 f b).bind fun x2 =>
  (bif (!x2.2) then
   some (0, false)
  else
   some ((w64 (x2.1 - x1.1)), true)))

theorem Z4H {f : Form} {a : Int} {b : Int} : Le (Z1h f a b) (Z04 f a b) := by
 unfold Z1h Z04
 repeat' (with_reducible (first | exact Le.refl _ | refine Le.bind ?_ ?_ | refine Le.cond ?_ ?_ | refine evle_find_At | intro _))

noncomputable def Zi.s0 (s : (List Int)) (f : Int → Option Bool) (s1 : Int) : Option ((Int) ⊕ (Jx (Unit) (Int))) :=
 (bif (decide (s1 < (s.length : Int))) then
  (at? s s1).bind fun x1 =>
  (f x1).bind fun x2 =>
  (bif x2 then
   some (.inr (.ret s1))
  else
   some (.inl (w64 (s1 + 1))))
 else
  some (.inr (.go ())))

theorem Z2d {s : (List Int)} {f f_ : Int → Option Bool} {s1 : Int} (h_f : ∀ z0, Le (f z0) (f_ z0)) : Le (Zi.s0 s f s1) (ZW.s0 s f_ s1) := by
 unfold Zi.s0 ZW.s0
 repeat' (with_reducible (first | exact Le.refl _ | exact h_f _ | exact h_f | refine Le.bind ?_ ?_ | refine Le.cond ?_ ?_ | intro _))

noncomputable def Zi (s : (List Int)) (f : Int → Option Bool) : Option (Int) :=
 (Z1r (Zi.s0 s f) 0).bind fun (y1 : Jx (Unit) (Int)) =>
 y1.elim (fun r' =>
   some r') fun a2 =>
 some (-1)

theorem Z3G {s : (List Int)} {f f_ : Int → Option Bool} (h_f : ∀ z0, Le (f z0) (f_ z0)) : Le (Zi s f) (ZW s f_) := by
 unfold Zi ZW
 repeat' (with_reducible (first | exact Le.refl _ | exact h_f _ | exact h_f | refine Le.bind ?_ ?_ | refine Le.elim ?_ ?_ | refine Le.loop ?_ | refine Z2d ?_ | intro _))

noncomputable def Z0h (s : (List Int)) (f : Int → Option Bool) : Option (Bool) :=
 (Zi s f).bind fun x1 =>
 some (decide (x1 ≥ 0))

theorem Z2f {s : (List Int)} {f f_ : Int → Option Bool} (h_f : ∀ z0, Le (f z0) (f_ z0)) : Le (Z0h s f) (Z0A s f_) := by
 unfold Z0h Z0A
 repeat' (with_reducible (first | exact Le.refl _ | exact h_f _ | exact h_f | refine Le.bind ?_ ?_ | refine Z3G ?_ | intro _))

noncomputable def Z4h (n : Net) (ticks : (List Int)) : Option (Bool) :=
 (
  (bif ((ticks.length : Int) == n.Vars) then
   (Z0h ticks (fun z0 => some (Z5g z0))).bind fun x1 =>
   some (!x1)
  else
   some false)).bind fun (y1 : Bool) =>
 some y1

theorem Z79 {n : Net} {ticks : (List Int)} : Le (Z4h n ticks) (Z5h n ticks) := by
 unfold Z4h Z5h
 repeat' (with_reducible (first | exact Le.refl _ | refine Le.bind ?_ ?_ | refine Le.cond ?_ ?_ | refine Z2f ?_ | intro _))

noncomputable def Z6M (n : Net) (c : Con) (ticks : (List Int)) : Option (Bool) :=
 (at? n.Forms c.Form).bind fun x1 =>
 (at? ticks c.X).bind fun x2 =>
 (at? ticks c.Y).bind fun x3 =>
 (Z1h x1 x2 x3).bind fun x4 =>
 (
  (
   (
    (bif (!x4.2) then
     some (!x4.2)
    else
     (bif (c.Range.HasLow && (decide (x4.1 < c.Range.Low))) then
      some (c.Range.HasLow && (decide (x4.1 < c.Range.Low)))
     else
      some (c.Range.HasHigh && (decide (x4.1 > c.Range.High)))))).bind fun (y3 : Bool) =>
   (bif y3 then
    some (.ret false)
   else
    some (.go ()))).bind fun (y2 : Jx (Unit) (Bool)) =>
  y2.elim (fun r' =>
    some (.ret r')) fun a3 =>
  some (.go ())).bind fun (y1 : Jx (Unit) (Bool)) =>
 y1.elim (fun r' =>
   some r') fun a4 =>
 some true

theorem evle_tag_met {n : Net} {c : Con} {ticks : (List Int)} : Le (Z6M n c ticks) (Z6n n c ticks) := by
 unfold Z6M Z6n
 repeat' (with_reducible (first | exact Le.refl _ | refine Le.bind ?_ ?_ | refine Le.cond ?_ ?_ | refine Le.elim ?_ ?_ | refine Z4H | intro _))

noncomputable def Z0W.s0 (p1' : Net) (p2' : (List Int)) {S : Type} (yield : S → Int → Option (S × Bool)) (s1 : Int × S) : Option ((Int × S) ⊕ (Jx (S) (S))) :=
 (bif (decide (s1.1 < (p1'.Cons.length : Int))) then
  (at? p1'.Cons s1.1).bind fun x1 =>
  (Z6M p1' x1 p2').bind fun x2 =>
  (
   (bif (!x2) then
    (yield s1.2 s1.1).bind fun x3 =>
    some ((!x3.2), x3.1)
   else
    some (false, s1.2))).bind fun (y2 : Bool × S) =>
  (bif y2.1 then
   some (.inr (.ret y2.2))
  else
   some (.inl ((w64 (s1.1 + 1)), y2.2)))
 else
  some (.inr (.go s1.2)))

theorem Z5D {p1' : Net} {p2' : (List Int)} {S : Type} {yield yield_ : S → Int → Option (S × Bool)} {s1 : Int × S} (h_yield : ∀ z0 z1, Le (yield z0 z1) (yield_ z0 z1)) : Le (Z0W.s0 p1' p2' yield s1) (Z0S.s0 p1' p2' yield_ s1) := by
 unfold Z0W.s0 Z0S.s0
 repeat' (with_reducible (first | exact Le.refl _ | exact h_yield _ _ | exact h_yield | refine Le.bind ?_ ?_ | refine Le.cond ?_ ?_ | refine evle_tag_met | intro _))

noncomputable def Z0W {S : Type} (p1' : Net) (p2' : (List Int)) (yield : S → Int → Option (S × Bool)) (st' : S) : Option (S) :=
 (Z1r (Z0W.s0 p1' p2' yield) (0, st')).bind fun (y1 : Jx (S) (S)) =>
 y1.elim (fun r' =>
   some r') fun a2 =>
 some a2

theorem Z3y {S : Type} {p1' : Net} {p2' : (List Int)} {yield yield_ : S → Int → Option (S × Bool)} {st' : S} (h_yield : ∀ z0 z1, Le (yield z0 z1) (yield_ z0 z1)) : Le (Z0W p1' p2' yield st') (Z0S p1' p2' yield_ st') := by
 unfold Z0W Z0S
 repeat' (with_reducible (first | exact Le.refl _ | exact h_yield _ _ | exact h_yield | refine Le.bind ?_ ?_ | refine Le.elim ?_ ?_ | refine Le.loop ?_ | refine Z5D ?_ | intro _))

noncomputable def Z3f (n : Net) (ticks : (List Int)) : Option ((List Int) × Int) :=
 (Z4h n ticks).bind fun x1 =>
 (bif (!x1) then
  some ([], 230)
 else
  (Z0W n ticks (Z2n Z1K.b0) ([], 0)).bind fun (y1 : ((List Int)) × Nat) =>
  some (y1.1, 0))

theorem Z8k {n : Net} {ticks : (List Int)} : Le (Z3f n ticks) (Z1K n ticks) := by
 unfold Z3f Z1K
 repeat' (with_reducible (first | exact Le.refl _ | refine Le.bind ?_ ?_ | refine Le.cond ?_ ?_ | refine Le.Z2n ?_ _ _ | refine Z79 | refine Z3y ?_ | intro _))

noncomputable def Ze.s0 (s : (List Form)) (f : Form → Option Bool) (s1 : Int) : Option ((Int) ⊕ (Jx (Unit) (Int))) :=
 (bif (decide (s1 < (s.length : Int))) then
  (at? s s1).bind fun x1 =>
  (f x1).bind fun x2 =>
  (bif x2 then
   some (.inr (.ret s1))
  else
   some (.inl (w64 (s1 + 1))))
 else
  some (.inr (.go ())))

theorem Z2M {s : (List Form)} {f f_ : Form → Option Bool} {s1 : Int} (h_f : ∀ z0, Le (f z0) (f_ z0)) : Le (Ze.s0 s f s1) (ZT.s0 s f_ s1) := by
 unfold Ze.s0 ZT.s0
 repeat' (with_reducible (first | exact Le.refl _ | exact h_f _ | exact h_f | refine Le.bind ?_ ?_ | refine Le.cond ?_ ?_ | intro _))

noncomputable def Ze (s : (List Form)) (f : Form → Option Bool) : Option (Int) :=
 (Z1r (Ze.s0 s f) 0).bind fun (y1 : Jx (Unit) (Int)) =>
 y1.elim (fun r' =>
   some r') fun a2 =>
 some (-1)

theorem Z2m {s : (List Form)} {f f_ : Form → Option Bool} (h_f : ∀ z0, Le (f z0) (f_ z0)) : Le (Ze s f) (ZT s f_) := by
 unfold Ze ZT
 repeat' (with_reducible (first | exact Le.refl _ | exact h_f _ | exact h_f | refine Le.bind ?_ ?_ | refine Le.elim ?_ ?_ | refine Le.loop ?_ | refine Z2M ?_ | intro _))

noncomputable def Z0a (s : (List Form)) (f : Form → Option Bool) : Option (Bool) :=
 (Ze s f).bind fun x1 =>
 some (decide (x1 ≥ 0))

theorem Z2J {s : (List Form)} {f f_ : Form → Option Bool} (h_f : ∀ z0, Le (f z0) (f_ z0)) : Le (Z0a s f) (Zz s f_) := by
 unfold Z0a Zz
 repeat' (with_reducible (first | exact Le.refl _ | exact h_f _ | exact h_f | refine Le.bind ?_ ?_ | refine Z2m ?_ | intro _))

noncomputable def Z3q (f : Form) : Option (Bool) :=
 (Z1B f).bind fun x1 =>
 some (x1 != 0)

theorem Z7P {f : Form} : Le (Z3q f) (Z3Q f) := by
 unfold Z3q Z3Q
 repeat' (with_reducible (first | exact Le.refl _ | refine Le.bind ?_ ?_ | refine Z84 | intro _))

noncomputable def Zh.s0 (s : (List Con)) (f : Con → Option Bool) (s1 : Int) : Option ((Int) ⊕ (Jx (Unit) (Int))) :=
 (bif (decide (s1 < (s.length : Int))) then
  (at? s s1).bind fun x1 =>
  (f x1).bind fun x2 =>
  (bif x2 then
   some (.inr (.ret s1))
  else
   some (.inl (w64 (s1 + 1))))
 else
  some (.inr (.go ())))

theorem Z2g {s : (List Con)} {f f_ : Con → Option Bool} {s1 : Int} (h_f : ∀ z0, Le (f z0) (f_ z0)) : Le (Zh.s0 s f s1) (ZV.s0 s f_ s1) := by
 unfold Zh.s0 ZV.s0
 repeat' (with_reducible (first | exact Le.refl _ | exact h_f _ | exact h_f | refine Le.bind ?_ ?_ | refine Le.cond ?_ ?_ | intro _))

noncomputable def Zh (s : (List Con)) (f : Con → Option Bool) : Option (Int) :=
 (Z1r (Zh.s0 s f) 0).bind fun (y1 : Jx (Unit) (Int)) =>
 y1.elim (fun r' =>
   some r') fun a2 =>
 some (-1)

theorem Z3F {s : (List Con)} {f f_ : Con → Option Bool} (h_f : ∀ z0, Le (f z0) (f_ z0)) : Le (Zh s f) (ZV s f_) := by
 unfold Zh ZV
 repeat' (with_reducible (first | exact Le.refl _ | exact h_f _ | exact h_f | refine Le.bind ?_ ?_ | refine Le.elim ?_ ?_ | refine Le.loop ?_ | refine Z2g ?_ | intro _))

noncomputable def Z0g (s : (List Con)) (f : Con → Option Bool) : Option (Bool) :=
 (Zh s f).bind fun x1 =>
 some (decide (x1 ≥ 0))

theorem Z2e {s : (List Con)} {f f_ : Con → Option Bool} (h_f : ∀ z0, Le (f z0) (f_ z0)) : Le (Z0g s f) (Z08 s f_) := by
 unfold Z0g Z08
 repeat' (with_reducible (first | exact Le.refl _ | exact h_f _ | exact h_f | refine Le.bind ?_ ?_ | refine Z3F ?_ | intro _))

noncomputable def Z4q (n : Net) : Option (Int) :=
 (
  (
   (
    (bif (!(ZP n.Vars 25)) then
     some (!(ZP n.Vars 25))
    else
     (bif (decide ((n.Forms.length : Int) > 20)) then
      some (decide ((n.Forms.length : Int) > 20))
     else
      some (decide ((n.Cons.length : Int) > 200))))).bind fun (y3 : Bool) =>
   (bif y3 then
    some (.ret 230)
   else
    (
     (Z0a n.Forms (fun z0 => Z3q z0)).bind fun x1 =>
     (bif x1 then
      some x1
     else
      (Z0g n.Cons (fun z0 => some (Z4F z0 n))).bind fun x2 =>
      some x2)).bind fun (y4 : Bool) =>
    (bif y4 then
     some (.ret 230)
    else
     some (.go ())))).bind fun (y2 : Jx (Unit) (Int)) =>
  y2.elim (fun r' =>
    some (.ret r')) fun a3 =>
  some (.go ())).bind fun (y1 : Jx (Unit) (Int)) =>
 y1.elim (fun r' =>
   some r') fun a4 =>
 some 0

theorem Z8r {n : Net} : Le (Z4q n) (Z4e n) := by
 unfold Z4q Z4e
 repeat' (with_reducible (first | exact Le.refl _ | refine Le.bind ?_ ?_ | refine Le.cond ?_ ?_ | refine Le.elim ?_ ?_ | refine Z2J ?_ | refine Z7P | refine Z2e ?_ | intro _))

noncomputable def Z4u (n : Net) (ticks : (List Int)) : Option (Bool) :=
 (Z4h n ticks).bind fun x1 =>
 (bif (!x1) then
  some false
 else
  (Z0W n ticks (Z2n Z1k.b0) ((), 0)).bind fun (y1 : (Unit) × Nat) =>
  (bif (y1.2 == 0) then
   some true
  else
   some false))

theorem Z8V {n : Net} {ticks : (List Int)} : Le (Z4u n ticks) (Z1k n ticks) := by
 unfold Z4u Z1k
 repeat' (with_reducible (first | exact Le.refl _ | refine Le.bind ?_ ?_ | refine Le.cond ?_ ?_ | refine Le.Z2n ?_ _ _ | refine Z79 | refine Z3y ?_ | intro _))

noncomputable def Z1T (a : (List Int)) (b : (List Int)) : Option (Bool) :=
 (bif ((a.length : Int) != (b.length : Int)) then
  some false
 else
  (Z1r (Z0J.s0 a b) 0).bind fun (y1 : Jx (Unit) (Bool)) =>
  y1.elim (fun r' =>
    some r') fun a2 =>
  some true)

theorem Z5X {a : (List Int)} {b : (List Int)} : Le (Z1T a b) (Z0J a b) := by
 unfold Z1T Z0J
 repeat' (with_reducible (first | exact Le.refl _ | refine Le.bind ?_ ?_ | refine Le.cond ?_ ?_ | refine Le.elim ?_ ?_ | refine Le.loop ?_ | intro _))

noncomputable def Z1x : Option (Bool) :=
 (Z1h ZF 3 9).bind fun x1 =>
 (Z1h ZF 3 5).bind fun x2 =>
 (Z3f (Net.mk 2 [ZF] [(Con.mk 0 1 0 (Range.mk 1 2 true true))]) [3, 4]).bind fun x3 =>
 (Z3f (Net.mk 2 [ZF] [(Con.mk 0 1 0 (Range.mk 1 2 true true))]) [3, 5]).bind fun x4 =>
 (
  (bif ((x1.2 && (x1.1 == 1)) && (!x2.2)) then
   (Z4q (Net.mk 2 [ZF] [(Con.mk 0 1 0 (Range.mk 1 2 true true))])).bind fun x5 =>
   some (x5 == 0)
  else
   some false)).bind fun (y1 : Bool) =>
 (
  (bif y1 then
   (Z4u (Net.mk 2 [ZF] [(Con.mk 0 1 0 (Range.mk 1 2 true true))]) [3, 9]).bind fun x6 =>
   some x6
  else
   some false)).bind fun (y2 : Bool) =>
 (
  (bif (y2 && (x3.2 == 0)) then
   (Z1T x3.1 [0]).bind fun x7 =>
   some x7
  else
   some false)).bind fun (y3 : Bool) =>
 (
  (bif (y3 && (x4.2 == 0)) then
   (Z1T x4.1 [0]).bind fun x8 =>
   some x8
  else
   some false)).bind fun (y4 : Bool) =>
 some y4

theorem Z4s : Le (Z1x) (Z16) := by
 unfold Z1x Z16
 repeat' (with_reducible (first | exact Le.refl _ | refine Le.bind ?_ ?_ | refine Le.cond ?_ ?_ | refine Z4H | refine Z8k | refine Z8r | refine Z8V | refine Z5X | intro _))

theorem Z55 : Z1x = some true := by kernel_rfl
theorem Z4y : Z16 = some true := Z4s _ Z55

end Go.Dn

namespace Go.Dn
open Go Go.Proofs
set_option maxRecDepth 100000
set_option maxHeartbeats 4000000
abbrev vl {α : Type} (c : α → List FV) (x : List α) : PV := .v (.sl (x.map c))
abbrev vi (x : Int) : PV := .v (.int .i64 x)
abbrev vu (x : Int) : PV := .v (.int .u64 x)
abbrev vb (x : Bool) : PV := .v (.bool x)
theorem sj {α : Type} {a b : α} (h : some a = some b) : a = b := Option.some.inj h
abbrev vF (f : Form) : List PV := [vi f.Period, vi f.Count, vl (cL Span.cs) f.Core, vl Granule.cs f.Odd]
abbrev vG (f : size_form) : List PV := [vi f.Form.Period, vi f.Form.Count, vl (cL Span.cs) f.Form.Core, vl Granule.cs f.Form.Odd, vl size_spot.cs f.spots]

theorem Z6x {f : Form} {r : Int} (h : Zq f = some r) : Fn CX 16 [(.agg (vs (Form.cs f)))] (vi r) := by
 refine Fn.ends Try.func16 rfl rfl rfl rfl rfl rfl ?_
 have H : Hs (⟨0, fun _ => .none⟩ : Heap) [] := Has.nil (Nat.le_refl _)
 generalize (⟨0, fun _ => .none⟩ : Heap) = σ at H ⊢
 unfold Zq at h
 refine .then (.Z0 2 rfl H fun b1 σ H => (.boxH (cs := (vF f)) H (by omega) (by omega) rfl rfl rfl fun σ H => (.assign (v := (vi 0)) rfl rfl (.nila H fun H => (.then ?_)))))
 refine .Z0 1 rfl H fun b2 σ H => (.assign (v := (vi 0)) rfl rfl (.nila H fun H => (.then (.then (.Z0 4 rfl H fun b3 σ H => ?_)))))
 refine .Z2 (off := 0) (fo := 2) H 0 rfl rfl rfl rfl rfl nofun rfl (.ZS (off := 2) (v := (vl (cL Span.cs) f.Core)) H 0 rfl rfl rfl rfl rfl nofun rfl (.Z0O (c := (cL Span.cs)) (xs := f.Core) rfl rfl rfl (.move (v := (vi 0)) rfl rfl (.nila H fun H => (.inBlock ?_)))))
 obtain ⟨y1, hj1, h⟩ := bind_some h
 obtain ⟨n1, hj1⟩ := Zf.1 hj1
 refine .mono (Runs.ZM hj1 (fun s1 e σ => Z5 e [(1, (.ptr (b1 + 0) 4 0)), (3, (vi s1.1)), (9, (vl (cL Span.cs) f.Core)), (10, (vi (f.Core.length : Int))), (11, (vi s1.2))] ∧ Hs σ [.blk (b1 + 0) 25 (vF f)]) (fun y1 x e σ => x = .exit 0 ∧ Z5 e [(1, (.ptr (b1 + 0) 4 0)), (3, (vi y1))] ∧ Hs σ [.blk (b1 + 0) 25 (vF f)]) ⟨⟨rfl, rfl, rfl, rfl, rfl, trivial⟩, H⟩ ?_) ?_
 ·intro s1 e σ hI z h
  obtain ⟨he, H⟩ := hI
  obtain ⟨e, rfl⟩ := he.ex
  unfold Zq.s0 at h
  refine .then (.Z0 1 rfl H fun b4 σ H => (.int (m := s1.2) (m' := (f.Core.length : Int)) (r := .bool (decide (s1.2 < (f.Core.length : Int)))) rfl rfl rfl rfl rfl (.nila H fun H => (.then ?_))))
  refine .whether (v := (decide (s1.2 < (f.Core.length : Int)))) rfl ?_ ?_ <;> intro hc1
  ·replace h := Z8 hc1 h
   refine .skip (.then (.inBlock (.then (.Z0 3 rfl H fun b5 σ H => ?_))))
   obtain ⟨x1, q1, h⟩ := bind_some h
   refine .Z0D (c := (cL Span.cs)) (u := x1) rfl rfl q1 rfl rfl rfl rfl (.Z2F (u := (.sl (x1.map Span.cs))) rfl rfl rfl rfl (.assign (v := (vl Span.cs x1)) rfl rfl (.nila H fun H => (.Z0 5 rfl H fun b6 σ H => (.move (v := (vi s1.1)) rfl rfl ?_)))))
   refine .move (v := (vl Span.cs x1)) rfl rfl (.Z0O (c := Span.cs) (xs := x1) rfl rfl rfl (.int (m := s1.1) (m' := (x1.length : Int)) (r := .int .i64 (w64 (s1.1 + (x1.length : Int)))) rfl rfl rfl rfl rfl (.assign (v := (vi (w64 (s1.1 + (x1.length : Int))))) rfl rfl (.nila H fun H => (.Z0 2 rfl H fun b7 σ H => ?_)))))
   refine .int (m := s1.2) (m' := 1) (r := .int .i64 (w64 (s1.2 + 1))) rfl rfl rfl rfl rfl (.move (v := (vi (w64 (s1.2 + 1)))) rfl rfl (.nila H fun H => ?_))
   replace h := sj h; subst h
   exact ⟨rfl, ⟨rfl, rfl, rfl, rfl, rfl, trivial⟩, H⟩
  ·replace h := Z9 hc1 h
   refine .exit ?_
   replace h := sj h; subst h
   exact ⟨nofun, ⟨rfl, ⟨rfl, rfl, trivial⟩, H⟩⟩
 ·rintro x e σ ⟨rfl, he, H⟩
  obtain ⟨e, rfl⟩ := he.ex
  refine .then (.then (.Z0 4 rfl H fun b8 σ H => (.Z2 (off := 0) (fo := 3) H 0 rfl rfl rfl rfl rfl nofun rfl (.ZS (off := 3) (v := (vl Granule.cs f.Odd)) H 0 rfl rfl rfl rfl rfl nofun rfl (.Z0O (c := Granule.cs) (xs := f.Odd) rfl rfl rfl ?_)))))
  refine .move (v := (vi 0)) rfl rfl (.nila H fun H => (.inBlock ?_))
  obtain ⟨y2, hj2, h⟩ := bind_some h
  obtain ⟨n2, hj2⟩ := Zf.1 hj2
  refine .mono (Runs.ZM hj2 (fun s2 e σ => Z5 e [(3, (vi s2.1)), (21, (vl Granule.cs f.Odd)), (22, (vi (f.Odd.length : Int))), (23, (vi s2.2))] ∧ Hs σ []) (fun y2 x e σ => x = .exit 2 ∧ Z5 e [(3, (vi y2))] ∧ Hs σ []) ⟨⟨rfl, rfl, rfl, rfl, trivial⟩, (H.erase 0)⟩ ?_) ?_
  ·intro s2 e σ hI z h
   obtain ⟨he, H⟩ := hI
   obtain ⟨e, rfl⟩ := he.ex
   unfold Zq.s1 at h
   refine .then (.Z0 1 rfl H fun b9 σ H => (.int (m := s2.2) (m' := (f.Odd.length : Int)) (r := .bool (decide (s2.2 < (f.Odd.length : Int)))) rfl rfl rfl rfl rfl (.nila H fun H => (.then ?_))))
   refine .whether (v := (decide (s2.2 < (f.Odd.length : Int)))) rfl ?_ ?_ <;> intro hc2
   ·replace h := Z8 hc2 h
    refine .skip (.then (.inBlock (.then (.Z0 4 rfl H fun b10 σ H => ?_))))
    obtain ⟨x2, q2, h⟩ := bind_some h
    refine .Z0D (c := Granule.cs) (u := x2) rfl rfl q2 rfl rfl rfl rfl (.Z2Y (cs := [(.int .i64 x2.Index), (.sl (x2.Ticks.map Span.cs))]) rfl rfl rfl rfl rfl rfl (.Z1b (cs := [(vi 0), .nils]) H (by omega) (by omega) rfl rfl fun σ H => (.Z11 (off := 0) (cells' := [(vi x2.Index), (vl Span.cs x2.Ticks)]) H 0 rfl rfl rfl rfl rfl rfl rfl rfl rfl nofun fun σ H => (.nila H fun H => (.Z0 6 rfl H fun b11 σ H => ?_)))))
    refine .move (v := (vi s2.1)) rfl rfl (.Z2 (off := 0) (fo := 1) H 0 rfl rfl rfl rfl rfl nofun rfl (.ZS (off := 1) (v := (vl Span.cs x2.Ticks)) H 0 rfl rfl rfl rfl rfl nofun rfl (.Z0O (c := Span.cs) (xs := x2.Ticks) rfl rfl rfl (.int (m := s2.1) (m' := (x2.Ticks.length : Int)) (r := .int .i64 (w64 (s2.1 + (x2.Ticks.length : Int)))) rfl rfl rfl rfl rfl (.assign (v := (vi (w64 (s2.1 + (x2.Ticks.length : Int))))) rfl rfl ?_)))))
    refine .nila H fun H => (.Z0 2 rfl H fun b12 σ H => (.int (m := s2.2) (m' := 1) (r := .int .i64 (w64 (s2.2 + 1))) rfl rfl rfl rfl rfl (.move (v := (vi (w64 (s2.2 + 1)))) rfl rfl (.nila H fun H => ?_))))
    replace h := sj h; subst h
    exact ⟨rfl, ⟨rfl, rfl, rfl, rfl, trivial⟩, (H.erase 0)⟩
   ·replace h := Z9 hc2 h
    refine .exit ?_
    replace h := sj h; subst h
    exact ⟨nofun, ⟨rfl, ⟨rfl, trivial⟩, H⟩⟩
  ·rintro x e σ ⟨rfl, he, H⟩
   obtain ⟨e, rfl⟩ := he.ex
   refine .then (.Z0 2 rfl H fun b13 σ H => (.move (v := (vi y2)) rfl rfl (.assign (v := (vi y2)) rfl rfl (.nila H fun H => (.ret ?_)))))
   replace h := sj h; subst h
   exact (Ends.H (xs := [(vi y2)]) (.inr rfl) H (.tmp (v := (vi y2)) rfl .nil) (.one (.c (.v _))))

theorem Z5u {f : Form} {r : Bool} (h : Z0M f = some r) : Fn CX 6 [(.agg (vs (Form.cs f)))] (vb r) := by
 refine Fn.ends Try.func6 rfl rfl rfl rfl rfl rfl ?_
 have H : Hs (⟨0, fun _ => .none⟩ : Heap) [] := Has.nil (Nat.le_refl _)
 generalize (⟨0, fun _ => .none⟩ : Heap) = σ at H ⊢
 unfold Z0M at h
 refine .then (.Z0 2 rfl H fun b1 σ H => (.boxH (cs := (vF f)) H (by omega) (by omega) rfl rfl rfl fun σ H => (.assign (v := (vb false)) rfl rfl (.nila H fun H => (.then ?_)))))
 refine .Z0 16 rfl H fun b2 σ H => (.Z2 (off := 0) (fo := 2) H 0 rfl rfl rfl rfl rfl nofun rfl (.ZS (off := 2) (v := (vl (cL Span.cs) f.Core)) H 0 rfl rfl rfl rfl rfl nofun rfl (.Z0O (c := (cL Span.cs)) (xs := f.Core) rfl rfl rfl (.int (m := (f.Core.length : Int)) (m' := 12) (r := .bool (decide ((f.Core.length : Int) ≤ 12))) rfl rfl rfl rfl rfl (.move (v := (vb (decide ((f.Core.length : Int) ≤ 12)))) rfl rfl ?_)))))
 refine .mid 5 (K1 := fun e σ => Z5 e [(12, (vb ((decide ((f.Core.length : Int) ≤ 12)) && (decide ((f.Odd.length : Int) ≤ 8))))), (1, (.ptr (b1 + 0) 4 0))] ∧ Has σ (b2 + 10) (b2 + 16) [.blk (b1 + 0) 25 (vF f)]) rfl ?_ ?_
 ·refine .split rfl rfl ?_ ?_ <;> intro hc1
  ·skip
   refine .wanted rfl rfl (.Z2 (off := 0) (fo := 3) H 0 rfl rfl rfl rfl rfl nofun rfl (.wanted rfl rfl (.ZS (off := 3) (v := (vl Granule.cs f.Odd)) H 0 rfl rfl rfl rfl rfl nofun rfl (.wanted rfl rfl (.Z0O (c := Granule.cs) (xs := f.Odd) rfl rfl rfl ?_)))))
   refine .wanted rfl rfl (.int (m := (f.Odd.length : Int)) (m' := 8) (r := .bool (decide ((f.Odd.length : Int) ≤ 8))) rfl rfl rfl rfl rfl (.ZZ (v := (vb (decide ((f.Odd.length : Int) ≤ 8)))) rfl rfl rfl (.nil ?_)))
   exact ⟨⟨Z0p hc1, rfl, trivial⟩, H.weak (by omega) (Nat.le_refl _)⟩
  ·skip
   refine .pass rfl rfl rfl (.pass rfl rfl rfl (.pass rfl rfl rfl (.pass rfl rfl rfl (.Zb (v := (vb false)) rfl rfl rfl (.nil ?_)))))
   exact ⟨⟨Z0o hc1, rfl, trivial⟩, H.weak (by omega) (Nat.le_refl _)⟩
 ·rintro e σ ⟨he, H⟩
  obtain ⟨e, rfl⟩ := he.ex
  refine .move (v := (vb ((decide ((f.Core.length : Int) ≤ 12)) && (decide ((f.Odd.length : Int) ≤ 8))))) rfl rfl ?_
  obtain ⟨y1, hj1, h⟩ := bind_some h
  refine .mid 4 (K1 := fun e σ => Z5 e [(17, (vb y1))] ∧ Has σ (b2 + 15) (b2 + 16) []) rfl ?_ ?_
  ·refine .split rfl rfl ?_ ?_ <;> intro hc2
   ·replace h := Z8 hc2 hj1
    refine .wanted rfl rfl (.ZY (off := 0) (cs := (vF f)) H 0 rfl rfl rfl rfl rfl rfl rfl nofun rfl (.wanted rfl rfl ?_))
    obtain ⟨x1, q1, h⟩ := bind_some h
    refine .call (ys := [(.agg (vF f))]) (r := (vi x1)) rfl (Z6x q1) rfl (.wanted rfl rfl (.int (m := x1) (m' := 60) (r := .bool (decide (x1 ≤ 60))) rfl rfl rfl rfl rfl (.ZZ (v := (vb (decide (x1 ≤ 60)))) rfl rfl rfl (.nil ?_))))
    replace h := sj h; subst h
    exact ⟨⟨rfl, trivial⟩, (H.erase 0).weak (by omega) (Nat.le_refl _)⟩
   ·replace h := Z9 hc2 hj1
    refine .pass rfl rfl rfl (.pass rfl rfl rfl (.pass rfl rfl rfl (.Zb (v := (vb false)) rfl rfl rfl (.nil ?_))))
    replace h := sj h; subst h
    exact ⟨⟨rfl, trivial⟩, (H.erase 0).weak (by omega) (Nat.le_refl _)⟩
  ·rintro e σ ⟨he, H⟩
   obtain ⟨e, rfl⟩ := he.ex
   refine .assign (v := (vb y1)) rfl rfl (.nila H fun H => (.ret ?_))
   replace h := sj h; subst h
   exact (Ends.H (xs := [(vb y1)]) (.inr rfl) H (.tmp (v := (vb y1)) rfl .nil) (.one (.c (.v _))))

theorem Z3H {t : Int} {r : Bool} (h : ZR t = r) : Fn CX 45 [(vi t)] (vb r) := by
 refine Fn.ends Try.func45 rfl rfl rfl rfl rfl rfl ?_
 have H : Hs (⟨0, fun _ => .none⟩ : Heap) [] := Has.nil (Nat.le_refl _)
 generalize (⟨0, fun _ => .none⟩ : Heap) = σ at H ⊢
 unfold ZR at h
 refine .then (.Z0 1 rfl H fun b1 σ H => (.assign (v := (vb false)) rfl rfl (.nila H fun H => (.then (.Z0 7 rfl H fun b2 σ H => ?_)))))
 refine .move (v := (vi t)) rfl rfl (.int (m := t) (m' := (-1099511627776)) (r := .bool (decide (t ≥ (-1099511627776)))) rfl rfl rfl rfl rfl (.move (v := (vb (decide (t ≥ (-1099511627776))))) rfl rfl ?_))
 refine .mid 3 (K1 := fun e σ => Z5 e [(8, (vb ((decide (t ≥ (-1099511627776))) && (decide (t ≤ 1099511627776)))))] ∧ Has σ (b2 + 6) (b2 + 7) []) rfl ?_ ?_
 ·refine .split rfl rfl ?_ ?_ <;> intro hc1
  ·skip
   refine .wanted rfl rfl (.move (v := (vi t)) rfl rfl (.wanted rfl rfl (.int (m := t) (m' := 1099511627776) (r := .bool (decide (t ≤ 1099511627776))) rfl rfl rfl rfl rfl (.ZZ (v := (vb (decide (t ≤ 1099511627776)))) rfl rfl rfl (.nil ?_)))))
   exact ⟨⟨Z0p hc1, trivial⟩, H.weak (by omega) (Nat.le_refl _)⟩
  ·skip
   refine .pass rfl rfl rfl (.pass rfl rfl rfl (.Zb (v := (vb false)) rfl rfl rfl (.nil ?_)))
   exact ⟨⟨Z0o hc1, trivial⟩, H.weak (by omega) (Nat.le_refl _)⟩
 ·rintro e σ ⟨he, H⟩
  obtain ⟨e, rfl⟩ := he.ex
  refine .assign (v := (vb ((decide (t ≥ (-1099511627776))) && (decide (t ≤ 1099511627776))))) rfl rfl (.nila H fun H => (.ret ?_))
  subst h
  exact (Ends.H (xs := [(vb ((decide (t ≥ (-1099511627776))) && (decide (t ≤ 1099511627776))))]) (.inr rfl) H (.tmp (v := (vb ((decide (t ≥ (-1099511627776))) && (decide (t ≤ 1099511627776))))) rfl .nil) (.one (.c (.v _))))

theorem Z5c {l : (List Span)} {r : Bool} (h : Zt l = some r) : Fn CX 27 [(vl Span.cs l)] (vb r) := by
 refine Fn.ends Try.func27 rfl rfl rfl rfl rfl rfl ?_
 have H : Hs (⟨0, fun _ => .none⟩ : Heap) [] := Has.nil (Nat.le_refl _)
 generalize (⟨0, fun _ => .none⟩ : Heap) = σ at H ⊢
 unfold Zt at h
 refine .then (.Z0 1 rfl H fun b1 σ H => (.assign (v := (vb false)) rfl rfl (.nila H fun H => (.then (.then ?_)))))
 refine .Z0 3 rfl H fun b2 σ H => (.move (v := (vl Span.cs l)) rfl rfl (.Z0O (c := Span.cs) (xs := l) rfl rfl rfl (.move (v := (vi 0)) rfl rfl (.nila H fun H => (.inBlock ?_)))))
 obtain ⟨y1, hj1, h⟩ := bind_some h
 obtain ⟨n1, hj1⟩ := Zf.1 hj1
 refine .mono (Runs.ZM hj1 (fun s1 e σ => Z5 e [(0, (vl Span.cs l)), (5, (vl Span.cs l)), (6, (vi (l.length : Int))), (7, (vi s1))] ∧ Hs σ []) (fun y1 x e σ => (∃ a1, y1 = (.go a1) ∧ x = .exit 0 ∧ Z5 e [] ∧ Hs σ []) ∨ (∃ r', y1 = (.ret r') ∧ x = .ret ∧ Ends CX Try.f27.results.toList (vb r') x e σ)) ⟨⟨rfl, rfl, rfl, rfl, trivial⟩, H⟩ ?_) ?_
 ·intro s1 e σ hI z h
  obtain ⟨he, H⟩ := hI
  obtain ⟨e, rfl⟩ := he.ex
  unfold Zt.s0 at h
  refine .then (.Z0 1 rfl H fun b3 σ H => (.int (m := s1) (m' := (l.length : Int)) (r := .bool (decide (s1 < (l.length : Int)))) rfl rfl rfl rfl rfl (.nila H fun H => (.then ?_))))
  refine .whether (v := (decide (s1 < (l.length : Int)))) rfl ?_ ?_ <;> intro hc1
  ·replace h := Z8 hc1 h
   refine .skip (.then (.inBlock (.then (.Z0 6 rfl H fun b4 σ H => (.move (v := (vi s1)) rfl rfl ?_)))))
   obtain ⟨x1, q1, h⟩ := bind_some h
   refine .Z0D (c := Span.cs) (u := x1) rfl rfl q1 rfl rfl rfl rfl (.Z2Y (cs := [(.int .i64 x1.From), (.int .i64 x1.To)]) rfl rfl rfl rfl rfl rfl (.Z1b (cs := [(vi 0), (vi 0)]) H (by omega) (by omega) rfl rfl fun σ H => (.assign (v := (vi s1)) rfl rfl (.Z11 (off := 0) (cells' := [(vi x1.From), (vi x1.To)]) H 0 rfl rfl rfl rfl rfl rfl rfl rfl rfl nofun fun σ H => (.nila H fun H => ?_)))))
   refine .then (.Z4P 33 rfl (by kernel_rfl) H fun b5 σ H B5 => (.Z2 (off := 0) (fo := 0) H 0 rfl rfl rfl rfl rfl (fun _ => .inl ⟨B5 0 _ rfl _ rfl, nofun, (fun _ => by kernel_rfl)⟩) rfl (.ZS (off := 0) (v := (vi x1.From)) H 0 rfl rfl rfl rfl rfl (fun _ => .inl ⟨B5 0 _ rfl _ rfl, nofun, (fun _ => by kernel_rfl)⟩) rfl (.call (ys := [(vi x1.From)]) (r := (vb (ZR x1.From))) rfl (Z3H rfl) rfl (.not (b := (ZR x1.From)) rfl rfl ?_)))))
   refine .move (v := (vb (!(ZR x1.From)))) rfl rfl ?_
   refine .mid 5 (K1 := fun e σ => Z5 e [(21, (vb ((!(ZR x1.From)) || (!(ZR x1.To))))), (0, (vl Span.cs l)), (3, (vi s1)), (4, (.ptr (b4 + 3) 2 0)), (5, (vl Span.cs l)), (6, (vi (l.length : Int))), (7, (vi s1))] ∧ Has σ (b5 + 10) (b5 + 33) [.blk (b4 + 3) 65 [(vi x1.From), (vi x1.To)]]) rfl ?_ ?_
   ·refine .split rfl rfl ?_ ?_ <;> intro hc2
    ·skip
     refine .pass rfl rfl rfl (.pass rfl rfl rfl (.pass rfl rfl rfl (.pass rfl rfl rfl (.ZZ (v := (vb true)) rfl rfl rfl (.nil ?_)))))
     exact ⟨⟨or_T hc2, rfl, rfl, rfl, rfl, rfl, rfl, trivial⟩, H.weak (by omega) (Nat.le_refl _)⟩
    ·skip
     refine .wanted rfl rfl (.Z2 (off := 0) (fo := 1) H 0 rfl rfl rfl rfl rfl (fun _ => .inl ⟨B5 0 _ rfl _ rfl, nofun, (fun _ => by kernel_rfl)⟩) rfl (.wanted rfl rfl (.ZS (off := 1) (v := (vi x1.To)) H 0 rfl rfl rfl rfl rfl (fun _ => .inl ⟨B5 0 _ rfl _ rfl, nofun, (fun _ => by kernel_rfl)⟩) rfl (.wanted rfl rfl (.call (ys := [(vi x1.To)]) (r := (vb (ZR x1.To))) rfl (Z3H rfl) rfl ?_)))))
     refine .wanted rfl rfl (.not (b := (ZR x1.To)) rfl rfl (.Zb (v := (vb (!(ZR x1.To)))) rfl rfl rfl (.nil ?_)))
     exact ⟨⟨or_F hc2, rfl, rfl, rfl, rfl, rfl, rfl, trivial⟩, H.weak (by omega) (Nat.le_refl _)⟩
   ·rintro e σ ⟨he, H⟩
    obtain ⟨e, rfl⟩ := he.ex
    refine .move (v := (vb ((!(ZR x1.From)) || (!(ZR x1.To))))) rfl rfl ?_
    refine .mid 6 (K1 := fun e σ => Z5 e [(28, (vb (((!(ZR x1.From)) || (!(ZR x1.To))) || (decide (x1.From > x1.To))))), (0, (vl Span.cs l)), (3, (vi s1)), (4, (.ptr (b4 + 3) 2 0)), (5, (vl Span.cs l)), (6, (vi (l.length : Int))), (7, (vi s1))] ∧ Has σ (b5 + 17) (b5 + 33) [.blk (b4 + 3) 65 [(vi x1.From), (vi x1.To)]]) rfl ?_ ?_
    ·refine .split rfl rfl ?_ ?_ <;> intro hc3
     ·skip
      refine .pass rfl rfl rfl (.pass rfl rfl rfl (.pass rfl rfl rfl (.pass rfl rfl rfl (.pass rfl rfl rfl (.ZZ (v := (vb true)) rfl rfl rfl ?_)))))
      refine .nil ?_
      exact ⟨⟨or_T hc3, rfl, rfl, rfl, rfl, rfl, rfl, trivial⟩, H.weak (by omega) (Nat.le_refl _)⟩
     ·skip
      refine .wanted rfl rfl (.Z2 (off := 0) (fo := 0) H 0 rfl rfl rfl rfl rfl (fun _ => .inl ⟨B5 0 _ rfl _ rfl, nofun, (fun _ => by kernel_rfl)⟩) rfl (.wanted rfl rfl (.ZS (off := 0) (v := (vi x1.From)) H 0 rfl rfl rfl rfl rfl (fun _ => .inl ⟨B5 0 _ rfl _ rfl, nofun, (fun _ => by kernel_rfl)⟩) rfl (.wanted rfl rfl (.Z2 (off := 0) (fo := 1) H 0 rfl rfl rfl rfl rfl (fun _ => .inl ⟨B5 0 _ rfl _ rfl, nofun, (fun _ => by kernel_rfl)⟩) rfl ?_)))))
      refine .wanted rfl rfl (.ZS (off := 1) (v := (vi x1.To)) H 0 rfl rfl rfl rfl rfl (fun _ => .inl ⟨B5 0 _ rfl _ rfl, nofun, (fun _ => by kernel_rfl)⟩) rfl (.wanted rfl rfl (.int (m := x1.From) (m' := x1.To) (r := .bool (decide (x1.From > x1.To))) rfl rfl rfl rfl rfl (.Zb (v := (vb (decide (x1.From > x1.To)))) rfl rfl rfl (.nil ?_)))))
      exact ⟨⟨or_F hc3, rfl, rfl, rfl, rfl, rfl, rfl, trivial⟩, H.weak (by omega) (Nat.le_refl _)⟩
    ·rintro e σ ⟨he, H⟩
     obtain ⟨e, rfl⟩ := he.ex
     refine .move (v := (vb (((!(ZR x1.From)) || (!(ZR x1.To))) || (decide (x1.From > x1.To))))) rfl rfl ?_
     obtain ⟨y2, hj2, h⟩ := bind_some h
     refine .mid 15 (K1 := fun e σ => Z5 e [(44, (vb y2)), (0, (vl Span.cs l)), (5, (vl Span.cs l)), (6, (vi (l.length : Int))), (7, (vi s1))] ∧ Has σ (b5 + 33) (b5 + 33) []) rfl ?_ ?_
     ·refine .split rfl rfl ?_ ?_ <;> intro hc4
      ·replace h := Z8 hc4 hj2
       refine .pass rfl rfl rfl (.pass rfl rfl rfl (.pass rfl rfl rfl (.Z00 rfl rfl rfl (.Z00 rfl rfl rfl (.Z00 rfl rfl rfl ?_)))))
       refine .Z00 rfl rfl rfl (.Z00 rfl rfl rfl (.Z00 rfl rfl rfl (.Z00 rfl rfl rfl (.Z00 rfl rfl rfl (.Z00 rfl rfl rfl ?_)))))
       refine .Z00 rfl rfl rfl (.pass rfl rfl rfl (.ZZ (v := (vb true)) rfl rfl rfl (.nil ?_)))
       replace h := sj h; subst h
       exact ⟨⟨rfl, rfl, rfl, rfl, rfl, trivial⟩, (H.erase 0).weak (by omega) (Nat.le_refl _)⟩
      ·replace h := Z9 hc4 hj2
       refine .wanted rfl rfl (.move (v := (vi s1)) rfl rfl (.wanted rfl rfl (.int (m := s1) (m' := 0) (r := .bool (decide (s1 > 0))) rfl rfl rfl rfl rfl (.wanted rfl rfl (.move (v := (vb (decide (s1 > 0)))) rfl rfl ?_)))))
       obtain ⟨y3, hj3, h⟩ := bind_some h
       refine .mid 11 (K1 := fun e σ => Z5 e [(43, (vb y3)), (0, (vl Span.cs l)), (5, (vl Span.cs l)), (6, (vi (l.length : Int))), (7, (vi s1)), (29, (vb false))] ∧ Has σ (b5 + 32) (b5 + 33) []) rfl ?_ ?_
       ·refine .split rfl rfl ?_ ?_ <;> intro hc5
        ·replace h := Z8 hc5 hj3
         refine .wanted rfl rfl (.Z2 (off := 0) (fo := 0) H 0 rfl rfl rfl rfl rfl (fun _ => .inl ⟨B5 0 _ rfl _ rfl, nofun, (fun _ => by kernel_rfl)⟩) rfl (.wanted rfl rfl (.ZS (off := 0) (v := (vi x1.From)) H 0 rfl rfl rfl rfl rfl (fun _ => .inl ⟨B5 0 _ rfl _ rfl, nofun, (fun _ => by kernel_rfl)⟩) rfl (.wanted rfl rfl (.move (v := (vl Span.cs l)) rfl rfl ?_)))))
         refine .wanted rfl rfl (.move (v := (vi s1)) rfl rfl (.wanted rfl rfl (.int (m := s1) (m' := 1) (r := .int .i64 (w64 (s1 - 1))) rfl rfl rfl rfl rfl (.wanted rfl rfl ?_))))
         obtain ⟨x2, q2, h⟩ := bind_some h
         refine .Z0D (c := Span.cs) (u := x2) rfl rfl q2 rfl rfl rfl rfl (.wanted rfl rfl (.Z0x rfl rfl rfl rfl (.wanted rfl rfl (.Z2F (u := (.int .i64 x2.To)) rfl rfl rfl rfl (.wanted rfl rfl ?_)))))
         refine .int (m := x2.To) (m' := 2) (r := .int .i64 (w64 (x2.To + 2))) rfl rfl rfl rfl rfl (.wanted rfl rfl (.int (m := x1.From) (m' := (w64 (x2.To + 2))) (r := .bool (decide (x1.From < (w64 (x2.To + 2))))) rfl rfl rfl rfl rfl (.wanted rfl rfl (.ZZ (v := (vb (decide (x1.From < (w64 (x2.To + 2)))))) rfl rfl rfl (.nil ?_)))))
         replace h := sj h; subst h
         exact ⟨⟨rfl, rfl, rfl, rfl, rfl, rfl, trivial⟩, (H.erase 0).weak (by omega) (Nat.le_refl _)⟩
        ·replace h := Z9 hc5 hj3
         refine .pass rfl rfl rfl (.pass rfl rfl rfl (.pass rfl rfl rfl (.pass rfl rfl rfl (.pass rfl rfl rfl (.pass rfl rfl rfl ?_)))))
         refine .pass rfl rfl rfl (.pass rfl rfl rfl (.pass rfl rfl rfl (.pass rfl rfl rfl (.wanted rfl rfl (.Zb (v := (vb false)) rfl rfl rfl ?_)))))
         refine .nil ?_
         replace h := sj h; subst h
         exact ⟨⟨rfl, rfl, rfl, rfl, rfl, rfl, trivial⟩, (H.erase 0).weak (by omega) (Nat.le_refl _)⟩
       ·rintro e σ ⟨he, H⟩
        obtain ⟨e, rfl⟩ := he.ex
        refine .Zb (v := (vb y3)) rfl rfl rfl (.nil ?_)
        replace h := sj h; subst h
        exact ⟨⟨rfl, rfl, rfl, rfl, rfl, trivial⟩, H.weak (by omega) (Nat.le_refl _)⟩
     ·rintro e σ ⟨he, H⟩
      obtain ⟨e, rfl⟩ := he.ex
      refine .nila H fun H => ?_
      refine .whether (v := y2) rfl ?_ ?_ <;> intro hc6
      ·replace h := Z8 hc6 h
       refine .then (.Z0 1 rfl H fun b6 σ H => (.assign (v := (vb false)) rfl rfl (.nila H fun H => (.ret ?_))))
       replace h := sj h; subst h
       exact ⟨nofun, (.inr ⟨_, rfl, rfl, (Ends.H (xs := [(vb false)]) (.inr rfl) H (.tmp (v := (vb false)) rfl .nil) (.one (.c (.v _))))⟩)⟩
      ·replace h := Z9 hc6 h
       refine .skip (.Z0 2 rfl H fun b7 σ H => (.int (m := s1) (m' := 1) (r := .int .i64 (w64 (s1 + 1))) rfl rfl rfl rfl rfl (.move (v := (vi (w64 (s1 + 1)))) rfl rfl (.nila H fun H => ?_))))
       replace h := sj h; subst h
       exact ⟨rfl, ⟨rfl, rfl, rfl, rfl, trivial⟩, H⟩
  ·replace h := Z9 hc1 h
   refine .exit ?_
   replace h := sj h; subst h
   exact ⟨nofun, (.inl ⟨_, rfl, rfl, trivial, H⟩)⟩
 ·rintro x e σ (⟨a2, rfl, rfl, he, H⟩ | ⟨r', rfl, rfl, hE⟩)
  ·skip
   replace h := jgo h
   obtain ⟨e, rfl⟩ := he.ex
   refine .then (.Z0 1 rfl H fun b8 σ H => (.assign (v := (vb true)) rfl rfl (.nila H fun H => (.ret ?_))))
   replace h := sj h; subst h
   exact (Ends.H (xs := [(vb true)]) (.inr rfl) H (.tmp (v := (vb true)) rfl .nil) (.one (.c (.v _))))
  ·skip
   replace h := jret h
   replace h := sj h; subst h
   exact hE

theorem Z3W {i : Int} {r : Bool} (h : Zg i = r) : Fn CX 28 [(vi i)] (vb r) := by
 refine Fn.ends Try.func28 rfl rfl rfl rfl rfl rfl ?_
 have H : Hs (⟨0, fun _ => .none⟩ : Heap) [] := Has.nil (Nat.le_refl _)
 generalize (⟨0, fun _ => .none⟩ : Heap) = σ at H ⊢
 unfold Zg at h
 refine .then (.Z0 1 rfl H fun b1 σ H => (.assign (v := (vb false)) rfl rfl (.nila H fun H => (.then (.Z0 7 rfl H fun b2 σ H => ?_)))))
 refine .move (v := (vi i)) rfl rfl (.int (m := i) (m' := (-1099511627776)) (r := .bool (decide (i ≥ (-1099511627776)))) rfl rfl rfl rfl rfl (.move (v := (vb (decide (i ≥ (-1099511627776))))) rfl rfl ?_))
 refine .mid 3 (K1 := fun e σ => Z5 e [(8, (vb ((decide (i ≥ (-1099511627776))) && (decide (i ≤ 1099511627776)))))] ∧ Has σ (b2 + 6) (b2 + 7) []) rfl ?_ ?_
 ·refine .split rfl rfl ?_ ?_ <;> intro hc1
  ·skip
   refine .wanted rfl rfl (.move (v := (vi i)) rfl rfl (.wanted rfl rfl (.int (m := i) (m' := 1099511627776) (r := .bool (decide (i ≤ 1099511627776))) rfl rfl rfl rfl rfl (.ZZ (v := (vb (decide (i ≤ 1099511627776)))) rfl rfl rfl (.nil ?_)))))
   exact ⟨⟨Z0p hc1, trivial⟩, H.weak (by omega) (Nat.le_refl _)⟩
  ·skip
   refine .pass rfl rfl rfl (.pass rfl rfl rfl (.Zb (v := (vb false)) rfl rfl rfl (.nil ?_)))
   exact ⟨⟨Z0o hc1, trivial⟩, H.weak (by omega) (Nat.le_refl _)⟩
 ·rintro e σ ⟨he, H⟩
  obtain ⟨e, rfl⟩ := he.ex
  refine .assign (v := (vb ((decide (i ≥ (-1099511627776))) && (decide (i ≤ 1099511627776))))) rfl rfl (.nila H fun H => (.ret ?_))
  subst h
  exact (Ends.H (xs := [(vb ((decide (i ≥ (-1099511627776))) && (decide (i ≤ 1099511627776))))]) (.inr rfl) H (.tmp (v := (vb ((decide (i ≥ (-1099511627776))) && (decide (i ≤ 1099511627776))))) rfl .nil) (.one (.c (.v _))))

theorem gran_shape_fn {f : Form} {r : Bool} (h : Zc f = some r) : Fn CX 17 [(.agg (vs (Form.cs f)))] (vb r) := by
 refine Fn.ends Try.func17 rfl rfl rfl rfl rfl rfl ?_
 have H : Hs (⟨0, fun _ => .none⟩ : Heap) [] := Has.nil (Nat.le_refl _)
 generalize (⟨0, fun _ => .none⟩ : Heap) = σ at H ⊢
 unfold Zc at h
 refine .then (.Z0 2 rfl H fun b1 σ H => (.boxH (cs := (vF f)) H (by omega) (by omega) rfl rfl rfl fun σ H => (.assign (v := (vb false)) rfl rfl (.nila H fun H => (.then ?_)))))
 refine .then (.Z0 25 rfl H fun b2 σ H => (.Z2 (off := 0) (fo := 1) H 0 rfl rfl rfl rfl rfl nofun rfl (.ZS (off := 1) (v := (vi f.Count)) H 0 rfl rfl rfl rfl rfl nofun rfl (.Z2 (off := 0) (fo := 2) H 0 rfl rfl rfl rfl rfl nofun rfl (.ZS (off := 2) (v := (vl (cL Span.cs) f.Core)) H 0 rfl rfl rfl rfl rfl nofun rfl ?_)))))
 refine .Z0O (c := (cL Span.cs)) (xs := f.Core) rfl rfl rfl (.int (m := f.Count) (m' := (f.Core.length : Int)) (r := .bool (f.Count != (f.Core.length : Int))) rfl rfl rfl rfl rfl (.move (v := (vb (f.Count != (f.Core.length : Int)))) rfl rfl ?_))
 refine .mid 8 (K1 := fun e σ => Z5 e [(21, (vb ((f.Count != (f.Core.length : Int)) || ((f.Count == 0) != (f.Period == 0))))), (1, (.ptr (b1 + 0) 4 0))] ∧ Has σ (b2 + 15) (b2 + 25) [.blk (b1 + 0) 25 (vF f)]) rfl ?_ ?_
 ·refine .split rfl rfl ?_ ?_ <;> intro hc1
  ·skip
   refine .pass rfl rfl rfl (.pass rfl rfl rfl (.pass rfl rfl rfl (.pass rfl rfl rfl (.pass rfl rfl rfl (.pass rfl rfl rfl ?_)))))
   refine .pass rfl rfl rfl (.ZZ (v := (vb true)) rfl rfl rfl (.nil ?_))
   exact ⟨⟨or_T hc1, rfl, trivial⟩, H.weak (by omega) (Nat.le_refl _)⟩
  ·skip
   refine .wanted rfl rfl (.Z2 (off := 0) (fo := 1) H 0 rfl rfl rfl rfl rfl nofun rfl (.wanted rfl rfl (.ZS (off := 1) (v := (vi f.Count)) H 0 rfl rfl rfl rfl rfl nofun rfl (.wanted rfl rfl (.int (m := f.Count) (m' := 0) (r := .bool (f.Count == 0)) rfl rfl rfl rfl rfl ?_)))))
   refine .wanted rfl rfl (.Z2 (off := 0) (fo := 0) H 0 rfl rfl rfl rfl rfl nofun rfl (.wanted rfl rfl (.ZS (off := 0) (v := (vi f.Period)) H 0 rfl rfl rfl rfl rfl nofun rfl (.wanted rfl rfl (.int (m := f.Period) (m' := 0) (r := .bool (f.Period == 0)) rfl rfl rfl rfl rfl ?_)))))
   refine .wanted rfl rfl (.neB (b := (f.Count == 0)) (b' := (f.Period == 0)) rfl rfl rfl rfl (.Zb (v := (vb ((f.Count == 0) != (f.Period == 0)))) rfl rfl rfl (.nil ?_)))
   exact ⟨⟨or_F hc1, rfl, trivial⟩, H.weak (by omega) (Nat.le_refl _)⟩
 ·rintro e σ ⟨he, H⟩
  obtain ⟨e, rfl⟩ := he.ex
  refine .move (v := (vb ((f.Count != (f.Core.length : Int)) || ((f.Count == 0) != (f.Period == 0))))) rfl rfl ?_
  refine .mid 4 (K1 := fun e σ => Z5 e [(26, (vb (((f.Count != (f.Core.length : Int)) || ((f.Count == 0) != (f.Period == 0))) || (decide (f.Period < 0))))), (1, (.ptr (b1 + 0) 4 0))] ∧ Has σ (b2 + 20) (b2 + 25) [.blk (b1 + 0) 25 (vF f)]) rfl ?_ ?_
  ·refine .split rfl rfl ?_ ?_ <;> intro hc2
   ·skip
    refine .pass rfl rfl rfl (.pass rfl rfl rfl (.pass rfl rfl rfl (.ZZ (v := (vb true)) rfl rfl rfl (.nil ?_))))
    exact ⟨⟨or_T hc2, rfl, trivial⟩, H.weak (by omega) (Nat.le_refl _)⟩
   ·skip
    refine .wanted rfl rfl (.Z2 (off := 0) (fo := 0) H 0 rfl rfl rfl rfl rfl nofun rfl (.wanted rfl rfl (.ZS (off := 0) (v := (vi f.Period)) H 0 rfl rfl rfl rfl rfl nofun rfl (.wanted rfl rfl (.int (m := f.Period) (m' := 0) (r := .bool (decide (f.Period < 0))) rfl rfl rfl rfl rfl ?_)))))
    refine .Zb (v := (vb (decide (f.Period < 0)))) rfl rfl rfl (.nil ?_)
    exact ⟨⟨or_F hc2, rfl, trivial⟩, H.weak (by omega) (Nat.le_refl _)⟩
  ·rintro e σ ⟨he, H⟩
   obtain ⟨e, rfl⟩ := he.ex
   refine .move (v := (vb (((f.Count != (f.Core.length : Int)) || ((f.Count == 0) != (f.Period == 0))) || (decide (f.Period < 0))))) rfl rfl ?_
   refine .mid 4 (K1 := fun e σ => Z5 e [(31, (vb ((((f.Count != (f.Core.length : Int)) || ((f.Count == 0) != (f.Period == 0))) || (decide (f.Period < 0))) || (decide (f.Period > 1099511627776))))), (1, (.ptr (b1 + 0) 4 0))] ∧ Has σ (b2 + 25) (b2 + 25) [.blk (b1 + 0) 25 (vF f)]) rfl ?_ ?_
   ·refine .split rfl rfl ?_ ?_ <;> intro hc3
    ·skip
     refine .pass rfl rfl rfl (.pass rfl rfl rfl (.pass rfl rfl rfl (.ZZ (v := (vb true)) rfl rfl rfl (.nil ?_))))
     exact ⟨⟨or_T hc3, rfl, trivial⟩, H.weak (by omega) (Nat.le_refl _)⟩
    ·skip
     refine .wanted rfl rfl (.Z2 (off := 0) (fo := 0) H 0 rfl rfl rfl rfl rfl nofun rfl (.wanted rfl rfl (.ZS (off := 0) (v := (vi f.Period)) H 0 rfl rfl rfl rfl rfl nofun rfl (.wanted rfl rfl (.int (m := f.Period) (m' := 1099511627776) (r := .bool (decide (f.Period > 1099511627776))) rfl rfl rfl rfl rfl ?_)))))
     refine .Zb (v := (vb (decide (f.Period > 1099511627776)))) rfl rfl rfl (.nil ?_)
     exact ⟨⟨or_F hc3, rfl, trivial⟩, H.weak (by omega) (Nat.le_refl _)⟩
   ·rintro e σ ⟨he, H⟩
    obtain ⟨e, rfl⟩ := he.ex
    refine .nila H fun H => ?_
    refine .whether (v := ((((f.Count != (f.Core.length : Int)) || ((f.Count == 0) != (f.Period == 0))) || (decide (f.Period < 0))) || (decide (f.Period > 1099511627776)))) rfl ?_ ?_ <;> intro hc4
    ·replace h := Z8 hc4 h
     refine .then (.Z0 1 rfl H fun b3 σ H => (.assign (v := (vb false)) rfl rfl (.nila H fun H => (.ret ?_))))
     replace h := sj h; subst h
     exact (Ends.H (xs := [(vb false)]) (.inr rfl) H (.tmp (v := (vb false)) rfl .nil) (.one (.c (.v _))))
    ·replace h := Z9 hc4 h
     refine .skip (.then (.then (.Z0 4 rfl H fun b4 σ H => (.Z2 (off := 0) (fo := 2) H 0 rfl rfl rfl rfl rfl nofun rfl (.ZS (off := 2) (v := (vl (cL Span.cs) f.Core)) H 0 rfl rfl rfl rfl rfl nofun rfl ?_)))))
     refine .Z0O (c := (cL Span.cs)) (xs := f.Core) rfl rfl rfl (.move (v := (vi 0)) rfl rfl (.nila H fun H => (.inBlock ?_)))
     obtain ⟨y1, hj1, h⟩ := bind_some h
     obtain ⟨n1, hj1⟩ := Zf.1 hj1
     refine .mono (Runs.ZM hj1 (fun s1 e σ => Z5 e [(1, (.ptr (b1 + 0) 4 0)), (33, (vl (cL Span.cs) f.Core)), (34, (vi (f.Core.length : Int))), (35, (vi s1))] ∧ Hs σ [.blk (b1 + 0) 25 (vF f)]) (fun y1 x e σ => (∃ a1, y1 = (.go a1) ∧ x = .exit 0 ∧ Z5 e [(1, (.ptr (b1 + 0) 4 0))] ∧ Hs σ [.blk (b1 + 0) 25 (vF f)]) ∨ (∃ r', y1 = (.ret r') ∧ x = .ret ∧ Ends CX Try.f17.results.toList (vb r') x e σ)) ⟨⟨rfl, rfl, rfl, rfl, trivial⟩, H⟩ ?_) ?_
     ·intro s1 e σ hI z h
      obtain ⟨he, H⟩ := hI
      obtain ⟨e, rfl⟩ := he.ex
      unfold Zc.s0 at h
      refine .then (.Z0 1 rfl H fun b5 σ H => (.int (m := s1) (m' := (f.Core.length : Int)) (r := .bool (decide (s1 < (f.Core.length : Int)))) rfl rfl rfl rfl rfl (.nila H fun H => (.then ?_))))
      refine .whether (v := (decide (s1 < (f.Core.length : Int)))) rfl ?_ ?_ <;> intro hc5
      ·replace h := Z8 hc5 h
       refine .skip (.then (.inBlock (.then (.Z0 3 rfl H fun b6 σ H => ?_))))
       obtain ⟨x1, q1, h⟩ := bind_some h
       refine .Z0D (c := (cL Span.cs)) (u := x1) rfl rfl q1 rfl rfl rfl rfl (.Z2F (u := (.sl (x1.map Span.cs))) rfl rfl rfl rfl (.assign (v := (vl Span.cs x1)) rfl rfl (.nila H fun H => (.then (.Z0 3 rfl H fun b7 σ H => ?_)))))
       refine .move (v := (vl Span.cs x1)) rfl rfl ?_
       obtain ⟨x2, q2, h⟩ := bind_some h
       refine .call (ys := [(vl Span.cs x1)]) (r := (vb x2)) rfl (Z5c q2) rfl (.not (b := x2) rfl rfl (.nila H fun H => ?_))
       refine .whether (v := (!x2)) rfl ?_ ?_ <;> intro hc6
       ·replace h := Z8 hc6 h
        refine .then (.Z0 1 rfl H fun b8 σ H => (.assign (v := (vb false)) rfl rfl (.nila H fun H => (.ret ?_))))
        replace h := sj h; subst h
        exact ⟨nofun, (.inr ⟨_, rfl, rfl, (Ends.H (xs := [(vb false)]) (.inr rfl) H (.tmp (v := (vb false)) rfl .nil) (.one (.c (.v _))))⟩)⟩
       ·replace h := Z9 hc6 h
        refine .skip (.Z0 2 rfl H fun b9 σ H => (.int (m := s1) (m' := 1) (r := .int .i64 (w64 (s1 + 1))) rfl rfl rfl rfl rfl (.move (v := (vi (w64 (s1 + 1)))) rfl rfl (.nila H fun H => ?_))))
        replace h := sj h; subst h
        exact ⟨rfl, ⟨rfl, rfl, rfl, rfl, trivial⟩, H⟩
      ·replace h := Z9 hc5 h
       refine .exit ?_
       replace h := sj h; subst h
       exact ⟨nofun, (.inl ⟨_, rfl, rfl, ⟨rfl, trivial⟩, H⟩)⟩
     ·rintro x e σ (⟨a2, rfl, rfl, he, H⟩ | ⟨r', rfl, rfl, hE⟩)
      ·skip
       replace h := jgo h
       obtain ⟨e, rfl⟩ := he.ex
       refine .then (.then (.Z0 4 rfl H fun b10 σ H => (.Z2 (off := 0) (fo := 3) H 0 rfl rfl rfl rfl rfl nofun rfl (.ZS (off := 3) (v := (vl Granule.cs f.Odd)) H 0 rfl rfl rfl rfl rfl nofun rfl (.Z0O (c := Granule.cs) (xs := f.Odd) rfl rfl rfl ?_)))))
       refine .move (v := (vi 0)) rfl rfl (.nila H fun H => (.inBlock ?_))
       obtain ⟨y2, hj2, h⟩ := bind_some h
       obtain ⟨n2, hj2⟩ := Zf.1 hj2
       refine .mono (Runs.ZM hj2 (fun s2 e σ => Z5 e [(1, (.ptr (b1 + 0) 4 0)), (44, (vl Granule.cs f.Odd)), (45, (vi (f.Odd.length : Int))), (46, (vi s2))] ∧ Hs σ [.blk (b1 + 0) 25 (vF f)]) (fun y2 x e σ => (∃ a3, y2 = (.go a3) ∧ x = .exit 2 ∧ Z5 e [] ∧ Hs σ []) ∨ (∃ r', y2 = (.ret r') ∧ x = .ret ∧ Ends CX Try.f17.results.toList (vb r') x e σ)) ⟨⟨rfl, rfl, rfl, rfl, trivial⟩, H⟩ ?_) ?_
       ·intro s2 e σ hI z h
        obtain ⟨he, H⟩ := hI
        obtain ⟨e, rfl⟩ := he.ex
        unfold Zc.s1 at h
        refine .then (.Z0 1 rfl H fun b11 σ H => (.int (m := s2) (m' := (f.Odd.length : Int)) (r := .bool (decide (s2 < (f.Odd.length : Int)))) rfl rfl rfl rfl rfl (.nila H fun H => (.then ?_))))
        refine .whether (v := (decide (s2 < (f.Odd.length : Int)))) rfl ?_ ?_ <;> intro hc7
        ·replace h := Z8 hc7 h
         refine .skip (.then (.inBlock (.then (.Z0 6 rfl H fun b12 σ H => (.move (v := (vi s2)) rfl rfl ?_)))))
         obtain ⟨x3, q3, h⟩ := bind_some h
         refine .Z0D (c := Granule.cs) (u := x3) rfl rfl q3 rfl rfl rfl rfl (.Z2Y (cs := [(.int .i64 x3.Index), (.sl (x3.Ticks.map Span.cs))]) rfl rfl rfl rfl rfl rfl (.Z1b (cs := [(vi 0), .nils]) H (by omega) (by omega) rfl rfl fun σ H => (.assign (v := (vi s2)) rfl rfl (.Z11 (off := 0) (cells' := [(vi x3.Index), (vl Span.cs x3.Ticks)]) H 0 rfl rfl rfl rfl rfl rfl rfl rfl rfl nofun fun σ H => (.nila H fun H => ?_)))))
         refine .then (.Z4P 26 rfl (by kernel_rfl) H fun b13 σ H B13 => (.Z2 (off := 0) (fo := 1) H 0 rfl rfl rfl rfl rfl (fun _ => .inl ⟨B13 0 _ rfl _ rfl, nofun, (fun _ => by kernel_rfl)⟩) rfl (.ZS (off := 1) (v := (vl Span.cs x3.Ticks)) H 0 rfl rfl rfl rfl rfl (fun _ => .inl ⟨B13 0 _ rfl _ rfl, nofun, (fun _ => by kernel_rfl)⟩) rfl ?_)))
         obtain ⟨x4, q4, h⟩ := bind_some h
         refine .call (ys := [(vl Span.cs x3.Ticks)]) (r := (vb x4)) rfl (Z5c q4) rfl (.not (b := x4) rfl rfl (.move (v := (vb (!x4))) rfl rfl ?_))
         refine .mid 5 (K1 := fun e σ => Z5 e [(60, (vb ((!x4) || (!(Zg x3.Index))))), (1, (.ptr (b1 + 0) 4 0)), (5, (vi s2)), (6, (.ptr (b12 + 3) 2 0)), (44, (vl Granule.cs f.Odd)), (45, (vi (f.Odd.length : Int))), (46, (vi s2))] ∧ Has σ (b13 + 10) (b13 + 26) [.blk (b12 + 3) 54 [(vi x3.Index), (vl Span.cs x3.Ticks)], .blk (b1 + 0) 25 (vF f)]) rfl ?_ ?_
         ·refine .split rfl rfl ?_ ?_ <;> intro hc8
          ·skip
           refine .pass rfl rfl rfl (.pass rfl rfl rfl (.pass rfl rfl rfl (.pass rfl rfl rfl (.ZZ (v := (vb true)) rfl rfl rfl (.nil ?_)))))
           exact ⟨⟨or_T hc8, rfl, rfl, rfl, rfl, rfl, rfl, trivial⟩, H.weak (by omega) (Nat.le_refl _)⟩
          ·skip
           refine .wanted rfl rfl (.Z2 (off := 0) (fo := 0) H 0 rfl rfl rfl rfl rfl (fun _ => .inl ⟨B13 0 _ rfl _ rfl, nofun, (fun _ => by kernel_rfl)⟩) rfl (.wanted rfl rfl (.ZS (off := 0) (v := (vi x3.Index)) H 0 rfl rfl rfl rfl rfl (fun _ => .inl ⟨B13 0 _ rfl _ rfl, nofun, (fun _ => by kernel_rfl)⟩) rfl (.wanted rfl rfl (.call (ys := [(vi x3.Index)]) (r := (vb (Zg x3.Index))) rfl (Z3W rfl) rfl ?_)))))
           refine .wanted rfl rfl (.not (b := (Zg x3.Index)) rfl rfl (.Zb (v := (vb (!(Zg x3.Index)))) rfl rfl rfl (.nil ?_)))
           exact ⟨⟨or_F hc8, rfl, rfl, rfl, rfl, rfl, rfl, trivial⟩, H.weak (by omega) (Nat.le_refl _)⟩
         ·rintro e σ ⟨he, H⟩
          obtain ⟨e, rfl⟩ := he.ex
          refine .move (v := (vb ((!x4) || (!(Zg x3.Index))))) rfl rfl ?_
          obtain ⟨y3, hj3, h⟩ := bind_some h
          refine .mid 15 (K1 := fun e σ => Z5 e [(76, (vb y3)), (1, (.ptr (b1 + 0) 4 0)), (44, (vl Granule.cs f.Odd)), (45, (vi (f.Odd.length : Int))), (46, (vi s2))] ∧ Has σ (b13 + 26) (b13 + 26) [.blk (b1 + 0) 25 (vF f)]) rfl ?_ ?_
          ·refine .split rfl rfl ?_ ?_ <;> intro hc9
           ·replace h := Z8 hc9 hj3
            refine .pass rfl rfl rfl (.pass rfl rfl rfl (.pass rfl rfl rfl (.Z00 rfl rfl rfl (.Z00 rfl rfl rfl (.Z00 rfl rfl rfl ?_)))))
            refine .Z00 rfl rfl rfl (.Z00 rfl rfl rfl (.Z00 rfl rfl rfl (.Z00 rfl rfl rfl (.Z00 rfl rfl rfl (.Z00 rfl rfl rfl ?_)))))
            refine .Z00 rfl rfl rfl (.pass rfl rfl rfl (.ZZ (v := (vb true)) rfl rfl rfl (.nil ?_)))
            replace h := sj h; subst h
            exact ⟨⟨rfl, rfl, rfl, rfl, rfl, trivial⟩, (H.erase 0).weak (by omega) (Nat.le_refl _)⟩
           ·replace h := Z9 hc9 hj3
            refine .wanted rfl rfl (.move (v := (vi s2)) rfl rfl (.wanted rfl rfl (.int (m := s2) (m' := 0) (r := .bool (decide (s2 > 0))) rfl rfl rfl rfl rfl (.wanted rfl rfl (.move (v := (vb (decide (s2 > 0)))) rfl rfl ?_)))))
            obtain ⟨y4, hj4, h⟩ := bind_some h
            refine .mid 11 (K1 := fun e σ => Z5 e [(75, (vb y4)), (1, (.ptr (b1 + 0) 4 0)), (44, (vl Granule.cs f.Odd)), (45, (vi (f.Odd.length : Int))), (46, (vi s2)), (61, (vb false))] ∧ Has σ (b13 + 25) (b13 + 26) [.blk (b1 + 0) 25 (vF f)]) rfl ?_ ?_
            ·refine .split rfl rfl ?_ ?_ <;> intro hc10
             ·replace h := Z8 hc10 hj4
              refine .wanted rfl rfl (.Z2 (off := 0) (fo := 0) H 0 rfl rfl rfl rfl rfl (fun _ => .inl ⟨B13 0 _ rfl _ rfl, nofun, (fun _ => by kernel_rfl)⟩) rfl (.wanted rfl rfl (.ZS (off := 0) (v := (vi x3.Index)) H 0 rfl rfl rfl rfl rfl (fun _ => .inl ⟨B13 0 _ rfl _ rfl, nofun, (fun _ => by kernel_rfl)⟩) rfl (.wanted rfl rfl (.Z2 (off := 0) (fo := 3) H 1 rfl rfl rfl rfl rfl (fun _ => .inl ⟨B13 1 _ rfl _ rfl, nofun, (fun _ => by kernel_rfl)⟩) rfl ?_)))))
              refine .wanted rfl rfl (.ZS (off := 3) (v := (vl Granule.cs f.Odd)) H 1 rfl rfl rfl rfl rfl (fun _ => .inl ⟨B13 1 _ rfl _ rfl, nofun, (fun _ => by kernel_rfl)⟩) rfl (.wanted rfl rfl (.move (v := (vi s2)) rfl rfl (.wanted rfl rfl (.int (m := s2) (m' := 1) (r := .int .i64 (w64 (s2 - 1))) rfl rfl rfl rfl rfl ?_)))))
              refine .wanted rfl rfl ?_
              obtain ⟨x5, q5, h⟩ := bind_some h
              refine .Z0D (c := Granule.cs) (u := x5) rfl rfl q5 rfl rfl rfl rfl (.wanted rfl rfl (.Z0x rfl rfl rfl rfl (.wanted rfl rfl (.Z2F (u := (.int .i64 x5.Index)) rfl rfl rfl rfl (.wanted rfl rfl ?_)))))
              refine .int (m := x3.Index) (m' := x5.Index) (r := .bool (decide (x3.Index ≤ x5.Index))) rfl rfl rfl rfl rfl (.wanted rfl rfl (.ZZ (v := (vb (decide (x3.Index ≤ x5.Index)))) rfl rfl rfl (.nil ?_)))
              replace h := sj h; subst h
              exact ⟨⟨rfl, rfl, rfl, rfl, rfl, rfl, trivial⟩, (H.erase 0).weak (by omega) (Nat.le_refl _)⟩
             ·replace h := Z9 hc10 hj4
              refine .pass rfl rfl rfl (.pass rfl rfl rfl (.pass rfl rfl rfl (.pass rfl rfl rfl (.pass rfl rfl rfl (.pass rfl rfl rfl ?_)))))
              refine .pass rfl rfl rfl (.pass rfl rfl rfl (.pass rfl rfl rfl (.pass rfl rfl rfl (.wanted rfl rfl (.Zb (v := (vb false)) rfl rfl rfl ?_)))))
              refine .nil ?_
              replace h := sj h; subst h
              exact ⟨⟨rfl, rfl, rfl, rfl, rfl, rfl, trivial⟩, (H.erase 0).weak (by omega) (Nat.le_refl _)⟩
            ·rintro e σ ⟨he, H⟩
             obtain ⟨e, rfl⟩ := he.ex
             refine .Zb (v := (vb y4)) rfl rfl rfl (.nil ?_)
             replace h := sj h; subst h
             exact ⟨⟨rfl, rfl, rfl, rfl, rfl, trivial⟩, H.weak (by omega) (Nat.le_refl _)⟩
          ·rintro e σ ⟨he, H⟩
           obtain ⟨e, rfl⟩ := he.ex
           refine .nila H fun H => ?_
           refine .whether (v := y3) rfl ?_ ?_ <;> intro hc11
           ·replace h := Z8 hc11 h
            refine .then (.Z0 1 rfl H fun b14 σ H => (.assign (v := (vb false)) rfl rfl (.nila H fun H => (.ret ?_))))
            replace h := sj h; subst h
            exact ⟨nofun, (.inr ⟨_, rfl, rfl, (Ends.H (xs := [(vb false)]) (.inr rfl) H (.tmp (v := (vb false)) rfl .nil) (.one (.c (.v _))))⟩)⟩
           ·replace h := Z9 hc11 h
            refine .skip (.Z0 2 rfl H fun b15 σ H => (.int (m := s2) (m' := 1) (r := .int .i64 (w64 (s2 + 1))) rfl rfl rfl rfl rfl (.move (v := (vi (w64 (s2 + 1)))) rfl rfl (.nila H fun H => ?_))))
            replace h := sj h; subst h
            exact ⟨rfl, ⟨rfl, rfl, rfl, rfl, trivial⟩, H⟩
        ·replace h := Z9 hc7 h
         refine .exit ?_
         replace h := sj h; subst h
         exact ⟨nofun, (.inl ⟨_, rfl, rfl, trivial, (H.erase 0)⟩)⟩
       ·rintro x e σ (⟨a4, rfl, rfl, he, H⟩ | ⟨r', rfl, rfl, hE⟩)
        ·skip
         replace h := jgo h
         obtain ⟨e, rfl⟩ := he.ex
         refine .then (.Z0 1 rfl H fun b16 σ H => (.assign (v := (vb true)) rfl rfl (.nila H fun H => (.ret ?_))))
         replace h := sj h; subst h
         exact (Ends.H (xs := [(vb true)]) (.inr rfl) H (.tmp (v := (vb true)) rfl .nil) (.one (.c (.v _))))
        ·skip
         replace h := jret h
         replace h := sj h; subst h
         exact hE
      ·skip
       replace h := jret h
       replace h := sj h; subst h
       exact hE

theorem gran_turns_fn {f : Form} {r : Bool} (h : Zy f = some r) : Fn CX 18 [(.agg (vs (Form.cs f)))] (vb r) := by
 refine Fn.ends Try.func18 rfl rfl rfl rfl rfl rfl ?_
 have H : Hs (⟨0, fun _ => .none⟩ : Heap) [] := Has.nil (Nat.le_refl _)
 generalize (⟨0, fun _ => .none⟩ : Heap) = σ at H ⊢
 unfold Zy at h
 refine .then (.Z0 2 rfl H fun b1 σ H => (.boxH (cs := (vF f)) H (by omega) (by omega) rfl rfl rfl fun σ H => (.assign (v := (vb false)) rfl rfl (.nila H fun H => (.then ?_)))))
 refine .Z0 1 rfl H fun b2 σ H => (.assign (v := .nils) rfl rfl (.nila H fun H => (.then (.then (.Z0 4 rfl H fun b3 σ H => ?_)))))
 refine .Z2 (off := 0) (fo := 2) H 0 rfl rfl rfl rfl rfl nofun rfl (.ZS (off := 2) (v := (vl (cL Span.cs) f.Core)) H 0 rfl rfl rfl rfl rfl nofun rfl (.Z0O (c := (cL Span.cs)) (xs := f.Core) rfl rfl rfl (.move (v := (vi 0)) rfl rfl (.nila H fun H => (.inBlock ?_)))))
 replace H := H.pushNil 52 1 true
 obtain ⟨y1, hj1, h⟩ := bind_some h
 obtain ⟨n1, hj1⟩ := Zf.1 hj1
 refine .mono (Runs.ZM hj1 (fun s2 e σ => ∃ (w3 : PV), Z5 e [(1, (.ptr (b1 + 0) 4 0)), (3, w3), (11, (vl (cL Span.cs) f.Core)), (12, (vi (f.Core.length : Int))), (13, (vi s2.1))] ∧ Hs σ [.sl w3 52 1 (s2.2.map (cL Span.cs)) true, .blk (b1 + 0) 25 (vF f)]) (fun y1 x e σ => ∃ (w4 : PV), x = .exit 0 ∧ Z5 e [(1, (.ptr (b1 + 0) 4 0)), (3, w4)] ∧ Hs σ [.sl w4 52 1 (y1.map (cL Span.cs)) true, .blk (b1 + 0) 25 (vF f)]) ⟨.nils, ⟨rfl, rfl, rfl, rfl, rfl, trivial⟩, H⟩ ?_) ?_
 ·intro s2 e σ hI z h
  obtain ⟨w3, he, H⟩ := hI
  obtain ⟨e, rfl⟩ := he.ex
  unfold Zy.s0 at h
  refine .then (.Z0 1 rfl H fun b4 σ H => (.int (m := s2.1) (m' := (f.Core.length : Int)) (r := .bool (decide (s2.1 < (f.Core.length : Int)))) rfl rfl rfl rfl rfl (.nila H fun H => (.then ?_))))
  refine .whether (v := (decide (s2.1 < (f.Core.length : Int)))) rfl ?_ ?_ <;> intro hc1
  ·replace h := Z8 hc1 h
   refine .skip (.then ?_)
   obtain ⟨y2, hj2, h⟩ := bind_some h
   refine .mono (Q := fun x e σ => ∃ (w5 : PV), x = .normal ∧ Z5 e [(1, (.ptr (b1 + 0) 4 0)), (3, w5), (11, (vl (cL Span.cs) f.Core)), (12, (vi (f.Core.length : Int))), (13, (vi s2.1))] ∧ Hs σ [.sl w5 52 1 (y2.map (cL Span.cs)) true, .blk (b1 + 0) 25 (vF f)]) ?_ ?_
   ·replace h := hj2
    refine .inBlock ?_
    obtain ⟨y3, hj3, h⟩ := bind_some h
    refine .mono (Q := fun x e σ => ∃ (w6 : PV), x = .normal ∧ Z5 e [(1, (.ptr (b1 + 0) 4 0)), (3, w6), (11, (vl (cL Span.cs) f.Core)), (12, (vi (f.Core.length : Int))), (13, (vi s2.1))] ∧ Hs σ [.sl w6 52 1 (y3.map (cL Span.cs)) true, .blk (b1 + 0) 25 (vF f)]) ?_ ?_
    ·replace h := hj3
     refine .then (.Z0 3 rfl H fun b5 σ H => ?_)
     obtain ⟨x1, q1, h⟩ := bind_some h
     refine .Z0D (c := (cL Span.cs)) (u := x1) rfl rfl q1 rfl rfl rfl rfl (.Z2F (u := (.sl (x1.map Span.cs))) rfl rfl rfl rfl (.assign (v := (vl Span.cs x1)) rfl rfl (.nila H fun H => (.then (.Z0 3 rfl H fun b6 σ H => ?_)))))
     refine .move (v := (vl Span.cs x1)) rfl rfl (.Z0O (c := Span.cs) (xs := x1) rfl rfl rfl (.int (m := (x1.length : Int)) (m' := 0) (r := .bool (decide ((x1.length : Int) > 0))) rfl rfl rfl rfl rfl (.nila H fun H => ?_)))
     refine .whether (v := (decide ((x1.length : Int) > 0))) rfl ?_ ?_ <;> intro hc2
     ·replace h := Z8 hc2 h
      refine .Z0 5 rfl H fun b7 σ H => (.move (v := w3) rfl rfl (.move (v := (vl Span.cs x1)) rfl rfl (.Z3u (sz := 1) ([x1].map (cL Span.cs)) H (by omega) (by omega) rfl rfl rfl rfl rfl rfl rfl rfl rfl fun σ H => ?_)))
      obtain ⟨x2, q2, h⟩ := bind_some h
      refine .appendSt (c := (cL Span.cs)) (v := w3) (w := (.buf (b7 + 2) 1 1)) (xs := s2.2) (ys := [x1]) H (by omega) (by omega) 1 rfl rfl rfl (.s 0 rfl) q2 rfl rfl rfl rfl rfl nofun rfl fun w7 σ H => (.assign (v := w7) rfl rfl (.nila H fun H => ?_))
      replace h := sj h; subst h
      exact ⟨w7, rfl, ⟨rfl, rfl, rfl, rfl, rfl, trivial⟩, (H.erase 0)⟩
     ·replace h := Z9 hc2 h
      refine .skip ?_
      replace h := sj h; subst h
      exact ⟨w3, rfl, ⟨rfl, rfl, rfl, rfl, rfl, trivial⟩, H⟩
    ·rintro x e σ ⟨w8, rfl, he, H⟩
     obtain ⟨e, rfl⟩ := he.ex
     replace h := sj h; subst h
     exact ⟨w8, rfl, ⟨rfl, rfl, rfl, rfl, rfl, trivial⟩, H⟩
   ·rintro x e σ ⟨w9, rfl, he, H⟩
    obtain ⟨e, rfl⟩ := he.ex
    refine .Z0 2 rfl H fun b8 σ H => (.int (m := s2.1) (m' := 1) (r := .int .i64 (w64 (s2.1 + 1))) rfl rfl rfl rfl rfl (.move (v := (vi (w64 (s2.1 + 1)))) rfl rfl (.nila H fun H => ?_)))
    replace h := sj h; subst h
    exact ⟨rfl, w9, ⟨rfl, rfl, rfl, rfl, rfl, trivial⟩, H⟩
  ·replace h := Z9 hc1 h
   refine .exit ?_
   replace h := sj h; subst h
   exact ⟨nofun, ⟨w3, rfl, ⟨rfl, rfl, trivial⟩, H⟩⟩
 ·rintro x e σ ⟨w10, rfl, he, H⟩
  obtain ⟨e, rfl⟩ := he.ex
  refine .then (.then (.Z0 3 rfl H fun b9 σ H => (.move (v := w10) rfl rfl (.lenSt (c := (cL Span.cs)) (xs := y1) H 0 rfl rfl rfl nofun rfl (.move (v := (vi 0)) rfl rfl ?_)))))
  refine .nila H fun H => (.inBlock ?_)
  obtain ⟨y4, hj4, h⟩ := bind_some h
  obtain ⟨n2, hj4⟩ := Zf.1 hj4
  refine .mono (Runs.ZM hj4 (fun s3 e σ => Z5 e [(1, (.ptr (b1 + 0) 4 0)), (3, w10), (25, w10), (26, (vi (y1.length : Int))), (27, (vi s3))] ∧ Hs σ [.sl w10 52 1 (y1.map (cL Span.cs)) true, .blk (b1 + 0) 25 (vF f)]) (fun y4 x e σ => (∃ a1, y4 = (.go a1) ∧ x = .exit 2 ∧ Z5 e [] ∧ Hs σ []) ∨ (∃ r', y4 = (.ret r') ∧ x = .ret ∧ Ends CX Try.f18.results.toList (vb r') x e σ)) ⟨⟨rfl, rfl, rfl, rfl, rfl, trivial⟩, H⟩ ?_) ?_
  ·intro s3 e σ hI z h
   obtain ⟨he, H⟩ := hI
   obtain ⟨e, rfl⟩ := he.ex
   unfold Zy.s1 at h
   refine .then (.Z0 1 rfl H fun b10 σ H => (.int (m := s3) (m' := (y1.length : Int)) (r := .bool (decide (s3 < (y1.length : Int)))) rfl rfl rfl rfl rfl (.nila H fun H => (.then ?_))))
   refine .whether (v := (decide (s3 < (y1.length : Int)))) rfl ?_ ?_ <;> intro hc3
   ·replace h := Z8 hc3 h
    refine .skip (.then ?_)
    obtain ⟨y5, hj5, h⟩ := bind_some h
    refine .mono (Q := fun x e σ => (∃ a2, y5 = (.go a2) ∧ x = .normal ∧ Z5 e [(1, (.ptr (b1 + 0) 4 0)), (3, w10), (25, w10), (26, (vi (y1.length : Int))), (27, (vi s3))] ∧ Hs σ [.sl w10 52 1 (y1.map (cL Span.cs)) true, .blk (b1 + 0) 25 (vF f)]) ∨ (∃ r', y5 = (.ret r') ∧ x = .ret ∧ Ends CX Try.f18.results.toList (vb r') x e σ)) ?_ ?_
    ·replace h := hj5
     refine .inBlock ?_
     obtain ⟨y6, hj6, h⟩ := bind_some h
     refine .mono (Q := fun x e σ => (∃ a3, y6 = (.go a3) ∧ x = .normal ∧ Z5 e [(1, (.ptr (b1 + 0) 4 0)), (3, w10), (25, w10), (26, (vi (y1.length : Int))), (27, (vi s3))] ∧ Hs σ [.sl w10 52 1 (y1.map (cL Span.cs)) true, .blk (b1 + 0) 25 (vF f)]) ∨ (∃ r', y6 = (.ret r') ∧ x = .ret ∧ Ends CX Try.f18.results.toList (vb r') x e σ)) ?_ ?_
     ·replace h := hj6
      refine .then (.Z0 5 rfl H fun b11 σ H => (.move (v := (vi s3)) rfl rfl ?_))
      obtain ⟨x3, q3, h⟩ := bind_some h
      refine .indexS H 0 rfl rfl rfl (at?_map q3) rfl rfl nofun rfl ?_; intro id1 hv1
      refine .loadS (id := id1) (j := 0) (w := (.sl (x3.map Span.cs))) H 0 rfl hv1 (by simp) (at?_map q3) rfl (by simp) rfl rfl rfl nofun rfl ?_
      refine .assign (v := (vi s3)) rfl rfl (.assign (v := (vl Span.cs x3)) rfl rfl (.nila H fun H => (.then (.Z0 10 rfl H fun b12 σ H => (.move (v := w10) rfl rfl ?_)))))
      refine .move (v := (vi s3)) rfl rfl (.int (m := s3) (m' := 1) (r := .int .i64 (w64 (s3 + 1))) rfl rfl rfl rfl rfl (.move (v := w10) rfl rfl (.lenSt (c := (cL Span.cs)) (xs := y1) H 0 rfl rfl rfl nofun rfl ?_)))
      obtain ⟨u1, q4, h⟩ := bind_some h
      refine .rem (m := (w64 (s3 + 1))) (m' := (y1.length : Int)) rfl rfl (nz_ne q4) rfl ?_
      obtain ⟨x4, q5, h⟩ := bind_some h
      refine .indexS H 0 rfl rfl rfl (at?_map q5) rfl rfl nofun rfl ?_; intro id2 hv2
      refine .loadS (id := id2) (j := 0) (w := (.sl (x4.map Span.cs))) H 0 rfl hv2 (by simp) (at?_map q5) rfl (by simp) rfl rfl rfl nofun rfl ?_
      refine .assign (v := (vl Span.cs x4)) rfl rfl (.assign (v := (vi 0)) rfl rfl (.nila H fun H => (.then ?_)))
      obtain ⟨y7, hj7, h⟩ := bind_some h
      refine .mono (Q := fun x e σ => x = .normal ∧ Z5 e [(1, (.ptr (b1 + 0) 4 0)), (3, w10), (7, (vl Span.cs x3)), (8, (vl Span.cs x4)), (9, (vi y7)), (25, w10), (26, (vi (y1.length : Int))), (27, (vi s3))] ∧ Hs σ [.sl w10 52 1 (y1.map (cL Span.cs)) true, .blk (b1 + 0) 25 (vF f)]) ?_ ?_
      ·replace h := hj7
       refine .then (.Z0 5 rfl H fun b13 σ H => (.move (v := (vi s3)) rfl rfl (.int (m := s3) (m' := 1) (r := .int .i64 (w64 (s3 + 1))) rfl rfl rfl rfl rfl (.move (v := w10) rfl rfl (.lenSt (c := (cL Span.cs)) (xs := y1) H 0 rfl rfl rfl nofun rfl ?_)))))
       refine .int (m := (w64 (s3 + 1))) (m' := (y1.length : Int)) (r := .bool ((w64 (s3 + 1)) == (y1.length : Int))) rfl rfl rfl rfl rfl (.nila H fun H => ?_)
       refine .whether (v := ((w64 (s3 + 1)) == (y1.length : Int))) rfl ?_ ?_ <;> intro hc4
       ·replace h := Z8 hc4 h
        refine .Z0 3 rfl H fun b14 σ H => (.Z2 (off := 0) (fo := 0) H 1 rfl rfl rfl rfl rfl nofun rfl (.ZS (off := 0) (v := (vi f.Period)) H 1 rfl rfl rfl rfl rfl nofun rfl (.assign (v := (vi f.Period)) rfl rfl (.nila H fun H => ?_))))
        replace h := sj h; subst h
        exact ⟨rfl, ⟨rfl, rfl, rfl, rfl, rfl, rfl, rfl, rfl, trivial⟩, H⟩
       ·replace h := Z9 hc4 h
        refine .skip ?_
        replace h := sj h; subst h
        exact ⟨rfl, ⟨rfl, rfl, rfl, rfl, rfl, rfl, rfl, rfl, trivial⟩, H⟩
      ·rintro x e σ ⟨rfl, he, H⟩
       obtain ⟨e, rfl⟩ := he.ex
       refine .then (.Z4P 14 rfl (by kernel_rfl) H fun b15 σ H B15 => (.move (v := (vl Span.cs x3)) rfl rfl (.move (v := (vl Span.cs x3)) rfl rfl (.Z0O (c := Span.cs) (xs := x3) rfl rfl rfl (.int (m := (x3.length : Int)) (m' := 1) (r := .int .i64 (w64 ((x3.length : Int) - 1))) rfl rfl rfl rfl rfl ?_)))))
       obtain ⟨x5, q6, h⟩ := bind_some h
       refine .Z0D (c := Span.cs) (u := x5) rfl rfl q6 rfl rfl rfl rfl (.Z0x rfl rfl rfl rfl (.Z2F (u := (.int .i64 x5.To)) rfl rfl rfl rfl (.move (v := (vl Span.cs x4)) rfl rfl ?_)))
       obtain ⟨x6, q7, h⟩ := bind_some h
       refine .Z0D (c := Span.cs) (u := x6) rfl rfl q7 rfl rfl rfl rfl (.Z0x rfl rfl rfl rfl (.Z2F (u := (.int .i64 x6.From)) rfl rfl rfl rfl (.move (v := (vi y7)) rfl rfl (.int (m := x6.From) (m' := y7) (r := .int .i64 (w64 (x6.From + y7))) rfl rfl rfl rfl rfl (.int (m := x5.To) (m' := (w64 (x6.From + y7))) (r := .bool (decide (x5.To ≥ (w64 (x6.From + y7))))) rfl rfl rfl rfl rfl ?_)))))
       refine .nila H fun H => ?_
       refine .whether (v := (decide (x5.To ≥ (w64 (x6.From + y7))))) rfl ?_ ?_ <;> intro hc5
       ·replace h := Z8 hc5 h
        refine .then (.Z0 1 rfl H fun b16 σ H => (.assign (v := (vb false)) rfl rfl (.nila H fun H => (.ret ?_))))
        replace h := sj h; subst h
        exact (.inr ⟨_, rfl, rfl, (Ends.H (xs := [(vb false)]) (.inr rfl) H (.tmp (v := (vb false)) rfl .nil) (.one (.c (.v _))))⟩)
       ·replace h := Z9 hc5 h
        refine .skip ?_
        replace h := sj h; subst h
        exact (.inl ⟨_, rfl, rfl, ⟨rfl, rfl, rfl, rfl, rfl, trivial⟩, H⟩)
     ·rintro x e σ (⟨a4, rfl, rfl, he, H⟩ | ⟨r', rfl, rfl, hE⟩)
      ·skip
       replace h := jgo h
       obtain ⟨e, rfl⟩ := he.ex
       replace h := sj h; subst h
       exact (.inl ⟨_, rfl, rfl, ⟨rfl, rfl, rfl, rfl, rfl, trivial⟩, H⟩)
      ·skip
       replace h := jret h
       replace h := sj h; subst h
       exact (.inr ⟨_, rfl, rfl, hE⟩)
    ·rintro x e σ (⟨a5, rfl, rfl, he, H⟩ | ⟨r', rfl, rfl, hE⟩)
     ·skip
      replace h := jgo h
      obtain ⟨e, rfl⟩ := he.ex
      refine .Z0 2 rfl H fun b17 σ H => (.int (m := s3) (m' := 1) (r := .int .i64 (w64 (s3 + 1))) rfl rfl rfl rfl rfl (.move (v := (vi (w64 (s3 + 1)))) rfl rfl (.nila H fun H => ?_)))
      replace h := sj h; subst h
      exact ⟨rfl, ⟨rfl, rfl, rfl, rfl, rfl, trivial⟩, H⟩
     ·skip
      replace h := jret h
      replace h := sj h; subst h
      exact ⟨nofun, (.inr ⟨_, rfl, rfl, hE⟩)⟩
   ·replace h := Z9 hc3 h
    refine .exit ?_
    replace h := sj h; subst h
    exact ⟨nofun, (.inl ⟨_, rfl, rfl, trivial, ((H.erase 1).erase 0)⟩)⟩
  ·rintro x e σ (⟨a6, rfl, rfl, he, H⟩ | ⟨r', rfl, rfl, hE⟩)
   ·skip
    replace h := jgo h
    obtain ⟨e, rfl⟩ := he.ex
    refine .then (.Z0 1 rfl H fun b18 σ H => (.assign (v := (vb true)) rfl rfl (.nila H fun H => (.ret ?_))))
    replace h := sj h; subst h
    exact (Ends.H (xs := [(vb true)]) (.inr rfl) H (.tmp (v := (vb true)) rfl .nil) (.one (.c (.v _))))
   ·skip
    replace h := jret h
    replace h := sj h; subst h
    exact hE

theorem Z17 {x' : (List Granule)} {target : Int} {cmp : Granule → Int → Option Int} {C : List Res} {cv0 : PV} (hs0 : cv0.still = true) (hp0 : cv0.pure = true → C = []) (hf0 : ∀ z0 z1 y, cmp z0 z1 = some y → CloH CX cv0 [(.agg (vs (Granule.cs z0))), (vi z1)] (vi y) C) {r : Int × Bool} (h : Z4 x' target cmp = some r) : FnH CX 66 [(vl Granule.cs x'), (vi target), cv0] (.tup [(vi r.1), (vb r.2)]) C := by
 refine FnH.of Try.func66 rfl rfl rfl rfl (Z2H rfl (Z2H rfl (Z2H hs0 all_nil))) rfl (fun h => hp0 (Z2q h 2 rfl)) ?_
 intro σ L hC H
 unfold Z4 at h
 refine .then (.Z0 2 rfl H fun b1 σ H => (.assign (v := (vi 0)) rfl rfl (.assign (v := (vb false)) rfl rfl (.nila H fun H => (.then ?_)))))
 refine .Z0 3 rfl H fun b2 σ H => (.move (v := (vl Granule.cs x')) rfl rfl (.Z0O (c := Granule.cs) (xs := x') rfl rfl rfl (.assign (v := (vi (x'.length : Int))) rfl rfl (.nila H fun H => (.then ?_)))))
 refine .Z0 3 rfl H fun b3 σ H => (.move (v := (vi (x'.length : Int))) rfl rfl (.assign (v := (vi 0)) rfl rfl (.assign (v := (vi (x'.length : Int))) rfl rfl (.nila H fun H => (.then ?_)))))
 refine .inBlock ?_
 obtain ⟨y1, hj1, h⟩ := bind_some h
 obtain ⟨n1, hj1⟩ := Zf.1 hj1
 refine .mono (Runs.ZM hj1 (fun s1 e σ => Z5 e [(0, (vl Granule.cs x')), (1, (vi target)), (2, cv0), (8, (vi (x'.length : Int))), (9, (vi s1.1)), (10, (vi s1.2))] ∧ Hs σ (L)) (fun y1 x e σ => x = .exit 0 ∧ Z5 e [(0, (vl Granule.cs x')), (1, (vi target)), (2, cv0), (8, (vi (x'.length : Int))), (9, (vi y1))] ∧ Hs σ (L)) ⟨⟨rfl, rfl, rfl, rfl, rfl, rfl, trivial⟩, H⟩ ?_) ?_
 ·intro s1 e σ hI z h
  obtain ⟨he, H⟩ := hI
  obtain ⟨e, rfl⟩ := he.ex
  unfold Z4.s0 at h
  refine .then (.then (.Z0 3 rfl H fun b4 σ H => (.move (v := (vi s1.1)) rfl rfl (.move (v := (vi s1.2)) rfl rfl (.int (m := s1.1) (m' := s1.2) (r := .bool (decide (s1.1 < s1.2))) rfl rfl rfl rfl rfl ?_)))))
  refine .nila H fun H => ?_
  refine .whether (v := (decide (s1.1 < s1.2))) rfl ?_ ?_ <;> intro hc1
  ·replace h := Z8 hc1 h
   refine .skip (.inBlock ?_)
   obtain ⟨y2, hj2, h⟩ := bind_some h
   refine .mono (Q := fun x e σ => x = .normal ∧ Z5 e [(0, (vl Granule.cs x')), (1, (vi target)), (2, cv0), (8, (vi (x'.length : Int))), (9, (vi y2.1)), (10, (vi y2.2))] ∧ Hs σ (L)) ?_ ?_
   ·replace h := hj2
    refine .then (.Z0 7 rfl H fun b5 σ H => (.move (v := (vi s1.1)) rfl rfl (.move (v := (vi s1.2)) rfl rfl (.int (m := s1.1) (m' := s1.2) (r := .int .i64 (w64 (s1.1 + s1.2))) rfl rfl rfl rfl rfl (.conv (m := (w64 (s1.1 + s1.2))) rfl rfl rfl rfl ?_)))))
    refine .shr (m := (IntKind.u64.wrap (w64 (s1.1 + s1.2)))) (m' := 1) rfl rfl (by decide) rfl (.conv (m := ((IntKind.u64.wrap (w64 (s1.1 + s1.2))).fdiv (2 ^ 1))) rfl rfl rfl rfl (.assign (v := (vi (w64 ((IntKind.u64.wrap (w64 (s1.1 + s1.2))).fdiv (2 ^ 1))))) rfl rfl (.nila H fun H => (.then (.Z0 8 rfl H fun b6 σ H => ?_)))))
    refine .move (v := cv0) rfl rfl (.move (v := (vl Granule.cs x')) rfl rfl (.move (v := (vi (w64 ((IntKind.u64.wrap (w64 (s1.1 + s1.2))).fdiv (2 ^ 1))))) rfl rfl ?_))
    obtain ⟨x1, q1, h⟩ := bind_some h
    refine .Z0D (c := Granule.cs) (u := x1) rfl rfl q1 rfl rfl rfl rfl (.Z2Y (cs := [(.int .i64 x1.Index), (.sl (x1.Ticks.map Span.cs))]) rfl rfl rfl rfl rfl rfl (.move (v := (vi target)) rfl rfl ?_))
    obtain ⟨x2, q2, h⟩ := bind_some h
    refine .callV (cv := cv0) (ys := [(.agg (vs (Granule.cs x1))), (vi target)]) (r := (vi x2)) H rfl rfl (hf0 x1 target _ q2) hC nofun rfl fun σ H => (.int (m := x2) (m' := 0) (r := .bool (decide (x2 < 0))) rfl rfl rfl rfl rfl (.nila H fun H => ?_))
    refine .whether (v := (decide (x2 < 0))) rfl ?_ ?_ <;> intro hc2
    ·replace h := Z8 hc2 h
     refine .Z0 3 rfl H fun b7 σ H => (.move (v := (vi (w64 ((IntKind.u64.wrap (w64 (s1.1 + s1.2))).fdiv (2 ^ 1))))) rfl rfl (.int (m := (w64 ((IntKind.u64.wrap (w64 (s1.1 + s1.2))).fdiv (2 ^ 1)))) (m' := 1) (r := .int .i64 (w64 ((w64 ((IntKind.u64.wrap (w64 (s1.1 + s1.2))).fdiv (2 ^ 1))) + 1))) rfl rfl rfl rfl rfl (.assign (v := (vi (w64 ((w64 ((IntKind.u64.wrap (w64 (s1.1 + s1.2))).fdiv (2 ^ 1))) + 1)))) rfl rfl (.nila H fun H => ?_))))
     replace h := sj h; subst h
     exact ⟨rfl, ⟨rfl, rfl, rfl, rfl, rfl, rfl, trivial⟩, H⟩
    ·replace h := Z9 hc2 h
     refine .Z0 2 rfl H fun b8 σ H => (.move (v := (vi (w64 ((IntKind.u64.wrap (w64 (s1.1 + s1.2))).fdiv (2 ^ 1))))) rfl rfl (.assign (v := (vi (w64 ((IntKind.u64.wrap (w64 (s1.1 + s1.2))).fdiv (2 ^ 1))))) rfl rfl (.nila H fun H => ?_)))
     replace h := sj h; subst h
     exact ⟨rfl, ⟨rfl, rfl, rfl, rfl, rfl, rfl, trivial⟩, H⟩
   ·rintro x e σ ⟨rfl, he, H⟩
    obtain ⟨e, rfl⟩ := he.ex
    replace h := sj h; subst h
    exact ⟨rfl, ⟨rfl, rfl, rfl, rfl, rfl, rfl, trivial⟩, H⟩
  ·replace h := Z9 hc1 h
   refine .exit ?_
   replace h := sj h; subst h
   exact ⟨nofun, ⟨rfl, ⟨rfl, rfl, rfl, rfl, rfl, trivial⟩, H⟩⟩
 ·rintro x e σ ⟨rfl, he, H⟩
  obtain ⟨e, rfl⟩ := he.ex
  refine .then (.Z0 16 rfl H fun b9 σ H => (.move (v := (vi y1)) rfl rfl (.move (v := (vi y1)) rfl rfl (.move (v := (vi (x'.length : Int))) rfl rfl (.int (m := y1) (m' := (x'.length : Int)) (r := .bool (decide (y1 < (x'.length : Int)))) rfl rfl rfl rfl rfl ?_)))))
  refine .move (v := (vb (decide (y1 < (x'.length : Int))))) rfl rfl ?_
  obtain ⟨y3, hj3, h⟩ := bind_some h
  refine .mid 9 (K1 := fun e σ => Z5 e [(48, (vb y3)), (35, (vi y1))] ∧ Has σ (b9 + 14) (b9 + 16) (L)) rfl ?_ ?_
  ·refine .split rfl rfl ?_ ?_ <;> intro hc3
   ·replace h := Z8 hc3 hj3
    refine .wanted rfl rfl (.move (v := cv0) rfl rfl (.wanted rfl rfl (.move (v := (vl Granule.cs x')) rfl rfl (.wanted rfl rfl (.move (v := (vi y1)) rfl rfl ?_)))))
    refine .wanted rfl rfl ?_
    obtain ⟨x3, q3, h⟩ := bind_some h
    refine .Z0D (c := Granule.cs) (u := x3) rfl rfl q3 rfl rfl rfl rfl (.wanted rfl rfl (.Z2Y (cs := [(.int .i64 x3.Index), (.sl (x3.Ticks.map Span.cs))]) rfl rfl rfl rfl rfl rfl (.wanted rfl rfl (.move (v := (vi target)) rfl rfl (.wanted rfl rfl ?_)))))
    obtain ⟨x4, q4, h⟩ := bind_some h
    refine .callV (cv := cv0) (ys := [(.agg (vs (Granule.cs x3))), (vi target)]) (r := (vi x4)) H rfl rfl (hf0 x3 target _ q4) hC nofun rfl fun σ H => (.wanted rfl rfl (.int (m := x4) (m' := 0) (r := .bool (x4 == 0)) rfl rfl rfl rfl rfl (.ZZ (v := (vb (x4 == 0))) rfl rfl rfl (.nil ?_))))
    replace h := sj h; subst h
    exact ⟨⟨rfl, rfl, trivial⟩, H.weak (by omega) (Nat.le_refl _)⟩
   ·replace h := Z9 hc3 hj3
    refine .pass rfl rfl rfl (.pass rfl rfl rfl (.pass rfl rfl rfl (.pass rfl rfl rfl (.pass rfl rfl rfl (.pass rfl rfl rfl ?_)))))
    refine .pass rfl rfl rfl (.pass rfl rfl rfl (.Zb (v := (vb false)) rfl rfl rfl (.nil ?_)))
    replace h := sj h; subst h
    exact ⟨⟨rfl, rfl, trivial⟩, H.weak (by omega) (Nat.le_refl _)⟩
  ·rintro e σ ⟨he, H⟩
   obtain ⟨e, rfl⟩ := he.ex
   refine .assign (v := (vi y1)) rfl rfl (.assign (v := (vb y3)) rfl rfl (.nila H fun H => (.ret ?_)))
   replace h := sj h; subst h
   exact (EndsH.H (xs := [(vi y1), (vb y3)]) (.inr rfl) H (.tmp (v := (vi y1)) rfl (.tmp (v := (vb y3)) rfl .nil)) (.two (.cons (.c (.v _)) (.cons (.c (.v _)) .nil))) 0 rfl)

theorem Z4b {x' : Int} {r : Bool} (h : Zo x' = r) : Fn CX 75 [(vi x')] (vb r) := by
 refine Fn.ends Try.func75 rfl rfl rfl rfl rfl rfl ?_
 have H : Hs (⟨0, fun _ => .none⟩ : Heap) [] := Has.nil (Nat.le_refl _)
 generalize (⟨0, fun _ => .none⟩ : Heap) = σ at H ⊢
 unfold Zo at h
 refine .then (.Z0 1 rfl H fun b1 σ H => (.assign (v := (vb false)) rfl rfl (.nila H fun H => (.then (.Z0 4 rfl H fun b2 σ H => ?_)))))
 refine .move (v := (vi x')) rfl rfl (.move (v := (vi x')) rfl rfl (.int (m := x') (m' := x') (r := .bool (x' != x')) rfl rfl rfl rfl rfl (.assign (v := (vb (x' != x'))) rfl rfl (.nila H fun H => (.ret ?_)))))
 subst h
 exact (Ends.H (xs := [(vb (x' != x'))]) (.inr rfl) H (.tmp (v := (vb (x' != x'))) rfl .nil) (.one (.c (.v _))))

theorem Z6P {x' : Int} {y : Int} {r : Int} (h : Z0K x' y = r) : Fn CX 68 [(vi x'), (vi y)] (vi r) := by
 refine Fn.ends Try.func68 rfl rfl rfl rfl rfl rfl ?_
 have H : Hs (⟨0, fun _ => .none⟩ : Heap) [] := Has.nil (Nat.le_refl _)
 generalize (⟨0, fun _ => .none⟩ : Heap) = σ at H ⊢
 unfold Z0K at h
 refine .then (.Z0 1 rfl H fun b1 σ H => (.assign (v := (vi 0)) rfl rfl (.nila H fun H => (.then (.Z0 3 rfl H fun b2 σ H => ?_)))))
 refine .move (v := (vi x')) rfl rfl (.call (ys := [(vi x')]) (r := (vb (Zo x'))) rfl (Z4b rfl) rfl (.assign (v := (vb (Zo x'))) rfl rfl (.nila H fun H => (.then (.Z0 3 rfl H fun b3 σ H => ?_)))))
 refine .move (v := (vi y)) rfl rfl (.call (ys := [(vi y)]) (r := (vb (Zo y))) rfl (Z4b rfl) rfl (.assign (v := (vb (Zo y))) rfl rfl (.nila H fun H => (.then (.then ?_)))))
 refine .Z0 1 rfl H fun b4 σ H => (.move (v := (vb (Zo x'))) rfl rfl (.nila H fun H => ?_))
 refine .whether (v := (Zo x')) rfl ?_ ?_ <;> intro hc1
 ·replace h := Z8 hc1 h
  refine .then (.then (.Z0 1 rfl H fun b5 σ H => (.move (v := (vb (Zo y))) rfl rfl (.nila H fun H => ?_))))
  refine .whether (v := (Zo y)) rfl ?_ ?_ <;> intro hc2
  ·replace h := Z8 hc2 h
   refine .then (.Z0 1 rfl H fun b6 σ H => (.assign (v := (vi 0)) rfl rfl (.nila H fun H => (.ret ?_))))
   subst h
   exact (Ends.H (xs := [(vi 0)]) (.inr rfl) H (.tmp (v := (vi 0)) rfl .nil) (.one (.c (.v _))))
  ·replace h := Z9 hc2 h
   refine .skip (.then (.Z0 1 rfl H fun b7 σ H => (.assign (v := (vi (-1))) rfl rfl (.nila H fun H => (.ret ?_)))))
   subst h
   exact (Ends.H (xs := [(vi (-1))]) (.inr rfl) H (.tmp (v := (vi (-1))) rfl .nil) (.one (.c (.v _))))
 ·replace h := Z9 hc1 h
  refine .skip (.then (.then (.Z0 1 rfl H fun b8 σ H => (.move (v := (vb (Zo y))) rfl rfl (.nila H fun H => ?_)))))
  refine .whether (v := (Zo y)) rfl ?_ ?_ <;> intro hc3
  ·replace h := Z8 hc3 h
   refine .then (.Z0 1 rfl H fun b9 σ H => (.assign (v := (vi 1)) rfl rfl (.nila H fun H => (.ret ?_))))
   subst h
   exact (Ends.H (xs := [(vi 1)]) (.inr rfl) H (.tmp (v := (vi 1)) rfl .nil) (.one (.c (.v _))))
  ·replace h := Z9 hc3 h
   refine .skip (.then (.then (.Z0 3 rfl H fun b10 σ H => (.move (v := (vi x')) rfl rfl (.move (v := (vi y)) rfl rfl ?_)))))
   refine .int (m := x') (m' := y) (r := .bool (decide (x' < y))) rfl rfl rfl rfl rfl (.nila H fun H => ?_)
   refine .whether (v := (decide (x' < y))) rfl ?_ ?_ <;> intro hc4
   ·replace h := Z8 hc4 h
    refine .then (.Z0 1 rfl H fun b11 σ H => (.assign (v := (vi (-1))) rfl rfl (.nila H fun H => (.ret ?_))))
    subst h
    exact (Ends.H (xs := [(vi (-1))]) (.inr rfl) H (.tmp (v := (vi (-1))) rfl .nil) (.one (.c (.v _))))
   ·replace h := Z9 hc4 h
    refine .skip (.then (.then (.Z0 3 rfl H fun b12 σ H => (.move (v := (vi x')) rfl rfl (.move (v := (vi y)) rfl rfl ?_)))))
    refine .int (m := x') (m' := y) (r := .bool (decide (x' > y))) rfl rfl rfl rfl rfl (.nila H fun H => ?_)
    refine .whether (v := (decide (x' > y))) rfl ?_ ?_ <;> intro hc5
    ·replace h := Z8 hc5 h
     refine .then (.Z0 1 rfl H fun b13 σ H => (.assign (v := (vi 1)) rfl rfl (.nila H fun H => (.ret ?_))))
     subst h
     exact (Ends.H (xs := [(vi 1)]) (.inr rfl) H (.tmp (v := (vi 1)) rfl .nil) (.one (.c (.v _))))
    ·replace h := Z9 hc5 h
     refine .skip (.then (.Z0 1 rfl H fun b14 σ H => (.assign (v := (vi 0)) rfl rfl (.nila H fun H => (.ret ?_)))))
     subst h
     exact (Ends.H (xs := [(vi 0)]) (.inr rfl) H (.tmp (v := (vi 0)) rfl .nil) (.one (.c (.v _))))

theorem gran_odd_1_fn {g : Granule} {i : Int} {r : Int} (h : Z2W g i = r) : Fn CX 67 [(.agg (vs (Granule.cs g))), (vi i)] (vi r) := by
 refine Fn.ends Try.func67 rfl rfl rfl rfl rfl rfl ?_
 have H : Hs (⟨0, fun _ => .none⟩ : Heap) [] := Has.nil (Nat.le_refl _)
 generalize (⟨0, fun _ => .none⟩ : Heap) = σ at H ⊢
 unfold Z2W at h
 refine .then (.Z0 2 rfl H fun b1 σ H => (.boxH (cs := [(vi g.Index), (vl Span.cs g.Ticks)]) H (by omega) (by omega) rfl rfl rfl fun σ H => (.assign (v := (vi 0)) rfl rfl (.nila H fun H => (.then ?_)))))
 refine .Z0 5 rfl H fun b2 σ H => (.Z2 (off := 0) (fo := 0) H 0 rfl rfl rfl rfl rfl nofun rfl (.ZS (off := 0) (v := (vi g.Index)) H 0 rfl rfl rfl rfl rfl nofun rfl (.move (v := (vi i)) rfl rfl (.call (ys := [(vi g.Index), (vi i)]) (r := (vi (Z0K g.Index i))) rfl (Z6P rfl) rfl (.assign (v := (vi (Z0K g.Index i))) rfl rfl ?_)))))
 refine .nila H fun H => (.ret ?_)
 subst h
 exact (Ends.H (xs := [(vi (Z0K g.Index i))]) (.inr rfl) H (.tmp (v := (vi (Z0K g.Index i))) rfl .nil) (.one (.c (.v _))))

theorem Z7o {f : Form} {i : Int} {r : Int × Bool} (h : Z3P f i = some r) : Fn CX 57 [(.agg (vs (Form.cs f))), (vi i)] (.tup [(vi r.1), (vb r.2)]) := by
 refine Fn.ends Try.func57 rfl rfl rfl rfl rfl rfl ?_
 have H : Hs (⟨0, fun _ => .none⟩ : Heap) [] := Has.nil (Nat.le_refl _)
 generalize (⟨0, fun _ => .none⟩ : Heap) = σ at H ⊢
 unfold Z3P at h
 refine .then (.Z0 3 rfl H fun b1 σ H => (.boxH (cs := (vF f)) H (by omega) (by omega) rfl rfl rfl fun σ H => (.assign (v := (vi 0)) rfl rfl (.assign (v := (vb false)) rfl rfl (.nila H fun H => ?_)))))
 refine .then (.Z0 8 rfl H fun b2 σ H => (.Z2 (off := 0) (fo := 3) H 0 rfl rfl rfl rfl rfl nofun rfl (.ZS (off := 3) (v := (vl Granule.cs f.Odd)) H 0 rfl rfl rfl rfl rfl nofun rfl (.move (v := (vi i)) rfl rfl ?_))))
 obtain ⟨x1, q1, h⟩ := bind_some h
 refine .Z66 (ys := [(vl Granule.cs f.Odd), (vi i), (.v (.fn 67))]) (r := (.tup [(vi x1.1), (vb x1.2)])) H rfl (Z17 (C := []) rfl (fun _ => rfl) (fun z0 z1 y hz => (CloH.fn (Fn.toH (gran_odd_1_fn (Option.some.inj hz)) _))) q1) .nil nofun rfl fun σ H => (.extract (v := (vi x1.1)) rfl rfl rfl (.extract (v := (vb x1.2)) rfl rfl rfl (.assign (v := (vi x1.1)) rfl rfl (.assign (v := (vb x1.2)) rfl rfl (.nila H fun H => ?_)))))
 refine .ret ?_
 replace h := sj h; subst h
 exact (Ends.H (xs := [(vi x1.1), (vb x1.2)]) (.inr rfl) H (.tmp (v := (vi x1.1)) rfl (.tmp (v := (vb x1.2)) rfl .nil)) (.two (.cons (.c (.v _)) (.cons (.c (.v _)) .nil))))

theorem Z6D {a : Int} {b : Int} {r : Int × Int × Int} (h : Z0y a b = some r) : Fn CX 58 [(vi a), (vi b)] (.tup [(vi r.1), (vi r.2.1), (vi r.2.2)]) := by
 refine Fn.ends Try.func58 rfl rfl rfl rfl rfl rfl ?_
 have H : Hs (⟨0, fun _ => .none⟩ : Heap) [] := Has.nil (Nat.le_refl _)
 generalize (⟨0, fun _ => .none⟩ : Heap) = σ at H ⊢
 unfold Z0y at h
 refine .then (.Z0 3 rfl H fun b1 σ H => (.assign (v := (vi 0)) rfl rfl (.assign (v := (vi 0)) rfl rfl (.assign (v := (vi 0)) rfl rfl (.nila H fun H => ?_)))))
 refine .then (.inBlock (.then (.Z0 3 rfl H fun b2 σ H => (.move (v := (vi b)) rfl rfl (.int (m := b) (m' := 0) (r := .bool (b == 0)) rfl rfl rfl rfl rfl ?_)))))
 refine .assign (v := (vb (b == 0))) rfl rfl (.nila H fun H => ?_)
 refine .whether (v := (b == 0)) rfl ?_ ?_ <;> intro hc1
 ·replace h := Z8 hc1 h
  refine .then (.Z0 3 rfl H fun b3 σ H => (.assign (v := (vi 0)) rfl rfl (.assign (v := (vi 0)) rfl rfl (.assign (v := (vi 11)) rfl rfl (.nila H fun H => ?_)))))
  refine .ret ?_
  replace h := sj h; subst h
  exact (Ends.H (xs := [(vi 0), (vi 0), (vi 11)]) (.inr rfl) H (.tmp (v := (vi 0)) rfl (.tmp (v := (vi 0)) rfl (.tmp (v := (vi 11)) rfl .nil))) (.two (.cons (.c (.v _)) (.cons (.c (.v _)) (.cons (.c (.v _)) .nil)))))
 ·replace h := Z9 hc1 h
  refine .then (.Z0 7 rfl H fun b4 σ H => (.move (v := (vi b)) rfl rfl (.int (m := b) (m' := (-1)) (r := .bool (b == (-1))) rfl rfl rfl rfl rfl (.move (v := (vb (b == (-1)))) rfl rfl ?_))))
  refine .mid 3 (K1 := fun e σ => Z5 e [(18, (vb ((b == (-1)) && (a == (-9223372036854775808))))), (0, (vi a)), (1, (vi b))] ∧ Has σ (b4 + 6) (b4 + 7) []) rfl ?_ ?_
  ·refine .split rfl rfl ?_ ?_ <;> intro hc2
   ·skip
    refine .wanted rfl rfl (.move (v := (vi a)) rfl rfl (.wanted rfl rfl (.int (m := a) (m' := (-9223372036854775808)) (r := .bool (a == (-9223372036854775808))) rfl rfl rfl rfl rfl (.ZZ (v := (vb (a == (-9223372036854775808)))) rfl rfl rfl (.nil ?_)))))
    exact ⟨⟨Z0p hc2, rfl, rfl, trivial⟩, H.weak (by omega) (Nat.le_refl _)⟩
   ·skip
    refine .pass rfl rfl rfl (.pass rfl rfl rfl (.Zb (v := (vb false)) rfl rfl rfl (.nil ?_)))
    exact ⟨⟨Z0o hc2, rfl, rfl, trivial⟩, H.weak (by omega) (Nat.le_refl _)⟩
  ·rintro e σ ⟨he, H⟩
   obtain ⟨e, rfl⟩ := he.ex
   refine .assign (v := (vb ((b == (-1)) && (a == (-9223372036854775808))))) rfl rfl (.nila H fun H => ?_)
   refine .whether (v := ((b == (-1)) && (a == (-9223372036854775808)))) rfl ?_ ?_ <;> intro hc3
   ·replace h := Z8 hc3 h
    refine .then (.Z0 3 rfl H fun b5 σ H => (.assign (v := (vi 0)) rfl rfl (.assign (v := (vi 0)) rfl rfl (.assign (v := (vi 10)) rfl rfl (.nila H fun H => ?_)))))
    refine .ret ?_
    replace h := sj h; subst h
    exact (Ends.H (xs := [(vi 0), (vi 0), (vi 10)]) (.inr rfl) H (.tmp (v := (vi 0)) rfl (.tmp (v := (vi 0)) rfl (.tmp (v := (vi 10)) rfl .nil))) (.two (.cons (.c (.v _)) (.cons (.c (.v _)) (.cons (.c (.v _)) .nil)))))
   ·replace h := Z9 hc3 h
    refine .skip (.then (.Z4P 8 rfl (by kernel_rfl) H fun b6 σ H B6 => (.move (v := (vi a)) rfl rfl (.move (v := (vi b)) rfl rfl ?_))))
    obtain ⟨u1, q1, h⟩ := bind_some h
    refine .quo (m := a) (m' := b) rfl rfl (nz_ne q1) rfl (.move (v := (vi a)) rfl rfl (.move (v := (vi b)) rfl rfl ?_))
    obtain ⟨u2, q2, h⟩ := bind_some h
    refine .rem (m := a) (m' := b) rfl rfl (nz_ne q2) rfl (.assign (v := (vi (w64 (a.tdiv b)))) rfl rfl (.assign (v := (vi (a.tmod b))) rfl rfl (.nila H fun H => (.then ?_))))
    obtain ⟨y1, hj1, h⟩ := bind_some h
    refine .mono (Q := fun x e σ => x = .normal ∧ Z5 e [(7, (vi y1.1)), (8, (vi y1.2))] ∧ Hs σ []) ?_ ?_
    ·replace h := hj1
     refine .then (.Z0 9 rfl H fun b7 σ H => (.move (v := (vi (a.tmod b))) rfl rfl (.int (m := (a.tmod b)) (m' := 0) (r := .bool ((a.tmod b) != 0)) rfl rfl rfl rfl rfl (.move (v := (vb ((a.tmod b) != 0))) rfl rfl ?_))))
     refine .mid 6 (K1 := fun e σ => Z5 e [(33, (vb (((a.tmod b) != 0) && ((decide ((a.tmod b) < 0)) != (decide (b < 0)))))), (1, (vi b)), (7, (vi (w64 (a.tdiv b)))), (8, (vi (a.tmod b)))] ∧ Has σ (b7 + 9) (b7 + 9) []) rfl ?_ ?_
     ·refine .split rfl rfl ?_ ?_ <;> intro hc4
      ·skip
       refine .wanted rfl rfl (.move (v := (vi (a.tmod b))) rfl rfl (.wanted rfl rfl (.int (m := (a.tmod b)) (m' := 0) (r := .bool (decide ((a.tmod b) < 0))) rfl rfl rfl rfl rfl (.wanted rfl rfl (.move (v := (vi b)) rfl rfl ?_)))))
       refine .wanted rfl rfl (.int (m := b) (m' := 0) (r := .bool (decide (b < 0))) rfl rfl rfl rfl rfl (.wanted rfl rfl (.neB (b := (decide ((a.tmod b) < 0))) (b' := (decide (b < 0))) rfl rfl rfl rfl (.ZZ (v := (vb ((decide ((a.tmod b) < 0)) != (decide (b < 0))))) rfl rfl rfl (.nil ?_)))))
       exact ⟨⟨Z0p hc4, rfl, rfl, rfl, trivial⟩, H.weak (by omega) (Nat.le_refl _)⟩
      ·skip
       refine .pass rfl rfl rfl (.pass rfl rfl rfl (.pass rfl rfl rfl (.pass rfl rfl rfl (.pass rfl rfl rfl (.Zb (v := (vb false)) rfl rfl rfl ?_)))))
       refine .nil ?_
       exact ⟨⟨Z0o hc4, rfl, rfl, rfl, trivial⟩, H.weak (by omega) (Nat.le_refl _)⟩
     ·rintro e σ ⟨he, H⟩
      obtain ⟨e, rfl⟩ := he.ex
      refine .nila H fun H => ?_
      refine .whether (v := (((a.tmod b) != 0) && ((decide ((a.tmod b) < 0)) != (decide (b < 0))))) rfl ?_ ?_ <;> intro hc5
      ·replace h := Z8 hc5 h
       refine .Z0 7 rfl H fun b8 σ H => (.move (v := (vi (w64 (a.tdiv b)))) rfl rfl (.int (m := (w64 (a.tdiv b))) (m' := 1) (r := .int .i64 (w64 ((w64 (a.tdiv b)) - 1))) rfl rfl rfl rfl rfl (.move (v := (vi (a.tmod b))) rfl rfl (.move (v := (vi b)) rfl rfl (.int (m := (a.tmod b)) (m' := b) (r := .int .i64 (w64 ((a.tmod b) + b))) rfl rfl rfl rfl rfl ?_)))))
       refine .assign (v := (vi (w64 ((w64 (a.tdiv b)) - 1)))) rfl rfl (.assign (v := (vi (w64 ((a.tmod b) + b)))) rfl rfl (.nila H fun H => ?_))
       replace h := sj h; subst h
       exact ⟨rfl, ⟨rfl, rfl, trivial⟩, H⟩
      ·replace h := Z9 hc5 h
       refine .skip ?_
       replace h := sj h; subst h
       exact ⟨rfl, ⟨rfl, rfl, trivial⟩, H⟩
    ·rintro x e σ ⟨rfl, he, H⟩
     obtain ⟨e, rfl⟩ := he.ex
     refine .then (.Z0 5 rfl H fun b9 σ H => (.move (v := (vi y1.1)) rfl rfl (.move (v := (vi y1.2)) rfl rfl (.assign (v := (vi y1.1)) rfl rfl (.assign (v := (vi y1.2)) rfl rfl ?_)))))
     refine .assign (v := (vi 0)) rfl rfl (.nila H fun H => (.ret ?_))
     replace h := sj h; subst h
     exact (Ends.H (xs := [(vi y1.1), (vi y1.2), (vi 0)]) (.inr rfl) H (.tmp (v := (vi y1.1)) rfl (.tmp (v := (vi y1.2)) rfl (.tmp (v := (vi 0)) rfl .nil))) (.two (.cons (.c (.v _)) (.cons (.c (.v _)) (.cons (.c (.v _)) .nil)))))

theorem Z6d {a : Int} {r : Int} (h : ZD a = r) : Fn CX 70 [(vi a)] (vu r) := by
 refine Fn.ends Try.func70 rfl rfl rfl rfl rfl rfl ?_
 have H : Hs (⟨0, fun _ => .none⟩ : Heap) [] := Has.nil (Nat.le_refl _)
 generalize (⟨0, fun _ => .none⟩ : Heap) = σ at H ⊢
 unfold ZD at h
 refine .then (.Z0 1 rfl H fun b1 σ H => (.assign (v := (vu 0)) rfl rfl (.nila H fun H => (.then (.then ?_)))))
 refine .Z0 2 rfl H fun b2 σ H => (.move (v := (vi a)) rfl rfl (.int (m := a) (m' := 0) (r := .bool (decide (a < 0))) rfl rfl rfl rfl rfl (.nila H fun H => ?_)))
 refine .whether (v := (decide (a < 0))) rfl ?_ ?_ <;> intro hc1
 ·replace h := Z8 hc1 h
  refine .then (.Z0 4 rfl H fun b3 σ H => (.move (v := (vi a)) rfl rfl (.conv (m := a) rfl rfl rfl rfl (.neg (m := (IntKind.u64.wrap a)) rfl rfl (.assign (v := (vu (IntKind.u64.wrap (0 - (IntKind.u64.wrap a))))) rfl rfl ?_)))))
  refine .nila H fun H => (.ret ?_)
  subst h
  exact (Ends.H (xs := [(vu (IntKind.u64.wrap (0 - (IntKind.u64.wrap a))))]) (.inr rfl) H (.tmp (v := (vu (IntKind.u64.wrap (0 - (IntKind.u64.wrap a))))) rfl .nil) (.one (.c (.v _))))
 ·replace h := Z9 hc1 h
  refine .skip (.then (.Z0 3 rfl H fun b4 σ H => (.move (v := (vi a)) rfl rfl (.conv (m := a) rfl rfl rfl rfl (.assign (v := (vu (IntKind.u64.wrap a))) rfl rfl ?_)))))
  refine .nila H fun H => (.ret ?_)
  subst h
  exact (Ends.H (xs := [(vu (IntKind.u64.wrap a))]) (.inr rfl) H (.tmp (v := (vu (IntKind.u64.wrap a))) rfl .nil) (.one (.c (.v _))))

theorem Z6O {x' : Int} {y : Int} {r : Int × Int} (h : ZH x' y = r) : Fn CX 69 [(vu x'), (vu y)] (.tup [(vu r.1), (vu r.2)]) := by
 refine Fn.ends Try.func69 rfl rfl rfl rfl rfl rfl ?_
 have H : Hs (⟨0, fun _ => .none⟩ : Heap) [] := Has.nil (Nat.le_refl _)
 generalize (⟨0, fun _ => .none⟩ : Heap) = σ at H ⊢
 unfold ZH at h
 refine .then (.Z0 2 rfl H fun b1 σ H => (.assign (v := (vu 0)) rfl rfl (.assign (v := (vu 0)) rfl rfl (.nila H fun H => (.then ?_)))))
 refine .Z0 3 rfl H fun b2 σ H => (.move (v := (vu x')) rfl rfl (.int (m := x') (m' := 4294967295) (r := .int .u64 (iAnd .u64 x' 4294967295)) rfl rfl rfl rfl rfl (.assign (v := (vu (iAnd .u64 x' 4294967295))) rfl rfl (.nila H fun H => (.then ?_)))))
 refine .Z0 3 rfl H fun b3 σ H => (.move (v := (vu x')) rfl rfl (.shr (m := x') (m' := 32) rfl rfl (by decide) rfl (.assign (v := (vu (x'.fdiv (2 ^ 32)))) rfl rfl (.nila H fun H => (.then ?_)))))
 refine .Z0 3 rfl H fun b4 σ H => (.move (v := (vu y)) rfl rfl (.int (m := y) (m' := 4294967295) (r := .int .u64 (iAnd .u64 y 4294967295)) rfl rfl rfl rfl rfl (.assign (v := (vu (iAnd .u64 y 4294967295))) rfl rfl (.nila H fun H => (.then ?_)))))
 refine .Z0 3 rfl H fun b5 σ H => (.move (v := (vu y)) rfl rfl (.shr (m := y) (m' := 32) rfl rfl (by decide) rfl (.assign (v := (vu (y.fdiv (2 ^ 32)))) rfl rfl (.nila H fun H => (.then ?_)))))
 refine .Z0 4 rfl H fun b6 σ H => (.move (v := (vu (iAnd .u64 x' 4294967295))) rfl rfl (.move (v := (vu (iAnd .u64 y 4294967295))) rfl rfl (.int (m := (iAnd .u64 x' 4294967295)) (m' := (iAnd .u64 y 4294967295)) (r := .int .u64 (IntKind.u64.wrap ((iAnd .u64 x' 4294967295) * (iAnd .u64 y 4294967295)))) rfl rfl rfl rfl rfl (.assign (v := (vu (IntKind.u64.wrap ((iAnd .u64 x' 4294967295) * (iAnd .u64 y 4294967295))))) rfl rfl (.nila H fun H => ?_)))))
 refine .then (.Z0 7 rfl H fun b7 σ H => (.move (v := (vu (x'.fdiv (2 ^ 32)))) rfl rfl (.move (v := (vu (iAnd .u64 y 4294967295))) rfl rfl (.int (m := (x'.fdiv (2 ^ 32))) (m' := (iAnd .u64 y 4294967295)) (r := .int .u64 (IntKind.u64.wrap ((x'.fdiv (2 ^ 32)) * (iAnd .u64 y 4294967295)))) rfl rfl rfl rfl rfl (.move (v := (vu (IntKind.u64.wrap ((iAnd .u64 x' 4294967295) * (iAnd .u64 y 4294967295))))) rfl rfl ?_)))))
 refine .shr (m := (IntKind.u64.wrap ((iAnd .u64 x' 4294967295) * (iAnd .u64 y 4294967295)))) (m' := 32) rfl rfl (by decide) rfl (.int (m := (IntKind.u64.wrap ((x'.fdiv (2 ^ 32)) * (iAnd .u64 y 4294967295)))) (m' := ((IntKind.u64.wrap ((iAnd .u64 x' 4294967295) * (iAnd .u64 y 4294967295))).fdiv (2 ^ 32))) (r := .int .u64 (IntKind.u64.wrap ((IntKind.u64.wrap ((x'.fdiv (2 ^ 32)) * (iAnd .u64 y 4294967295))) + ((IntKind.u64.wrap ((iAnd .u64 x' 4294967295) * (iAnd .u64 y 4294967295))).fdiv (2 ^ 32))))) rfl rfl rfl rfl rfl (.assign (v := (vu (IntKind.u64.wrap ((IntKind.u64.wrap ((x'.fdiv (2 ^ 32)) * (iAnd .u64 y 4294967295))) + ((IntKind.u64.wrap ((iAnd .u64 x' 4294967295) * (iAnd .u64 y 4294967295))).fdiv (2 ^ 32)))))) rfl rfl (.nila H fun H => (.then (.Z0 3 rfl H fun b8 σ H => ?_)))))
 refine .move (v := (vu (IntKind.u64.wrap ((IntKind.u64.wrap ((x'.fdiv (2 ^ 32)) * (iAnd .u64 y 4294967295))) + ((IntKind.u64.wrap ((iAnd .u64 x' 4294967295) * (iAnd .u64 y 4294967295))).fdiv (2 ^ 32)))))) rfl rfl (.int (m := (IntKind.u64.wrap ((IntKind.u64.wrap ((x'.fdiv (2 ^ 32)) * (iAnd .u64 y 4294967295))) + ((IntKind.u64.wrap ((iAnd .u64 x' 4294967295) * (iAnd .u64 y 4294967295))).fdiv (2 ^ 32))))) (m' := 4294967295) (r := .int .u64 (iAnd .u64 (IntKind.u64.wrap ((IntKind.u64.wrap ((x'.fdiv (2 ^ 32)) * (iAnd .u64 y 4294967295))) + ((IntKind.u64.wrap ((iAnd .u64 x' 4294967295) * (iAnd .u64 y 4294967295))).fdiv (2 ^ 32)))) 4294967295)) rfl rfl rfl rfl rfl (.assign (v := (vu (iAnd .u64 (IntKind.u64.wrap ((IntKind.u64.wrap ((x'.fdiv (2 ^ 32)) * (iAnd .u64 y 4294967295))) + ((IntKind.u64.wrap ((iAnd .u64 x' 4294967295) * (iAnd .u64 y 4294967295))).fdiv (2 ^ 32)))) 4294967295))) rfl rfl (.nila H fun H => (.then (.Z0 3 rfl H fun b9 σ H => ?_)))))
 refine .move (v := (vu (IntKind.u64.wrap ((IntKind.u64.wrap ((x'.fdiv (2 ^ 32)) * (iAnd .u64 y 4294967295))) + ((IntKind.u64.wrap ((iAnd .u64 x' 4294967295) * (iAnd .u64 y 4294967295))).fdiv (2 ^ 32)))))) rfl rfl (.shr (m := (IntKind.u64.wrap ((IntKind.u64.wrap ((x'.fdiv (2 ^ 32)) * (iAnd .u64 y 4294967295))) + ((IntKind.u64.wrap ((iAnd .u64 x' 4294967295) * (iAnd .u64 y 4294967295))).fdiv (2 ^ 32))))) (m' := 32) rfl rfl (by decide) rfl (.assign (v := (vu ((IntKind.u64.wrap ((IntKind.u64.wrap ((x'.fdiv (2 ^ 32)) * (iAnd .u64 y 4294967295))) + ((IntKind.u64.wrap ((iAnd .u64 x' 4294967295) * (iAnd .u64 y 4294967295))).fdiv (2 ^ 32)))).fdiv (2 ^ 32)))) rfl rfl (.nila H fun H => (.then (.Z0 6 rfl H fun b10 σ H => ?_)))))
 refine .move (v := (vu (iAnd .u64 (IntKind.u64.wrap ((IntKind.u64.wrap ((x'.fdiv (2 ^ 32)) * (iAnd .u64 y 4294967295))) + ((IntKind.u64.wrap ((iAnd .u64 x' 4294967295) * (iAnd .u64 y 4294967295))).fdiv (2 ^ 32)))) 4294967295))) rfl rfl (.move (v := (vu (iAnd .u64 x' 4294967295))) rfl rfl (.move (v := (vu (y.fdiv (2 ^ 32)))) rfl rfl (.int (m := (iAnd .u64 x' 4294967295)) (m' := (y.fdiv (2 ^ 32))) (r := .int .u64 (IntKind.u64.wrap ((iAnd .u64 x' 4294967295) * (y.fdiv (2 ^ 32))))) rfl rfl rfl rfl rfl (.int (m := (iAnd .u64 (IntKind.u64.wrap ((IntKind.u64.wrap ((x'.fdiv (2 ^ 32)) * (iAnd .u64 y 4294967295))) + ((IntKind.u64.wrap ((iAnd .u64 x' 4294967295) * (iAnd .u64 y 4294967295))).fdiv (2 ^ 32)))) 4294967295)) (m' := (IntKind.u64.wrap ((iAnd .u64 x' 4294967295) * (y.fdiv (2 ^ 32))))) (r := .int .u64 (IntKind.u64.wrap ((iAnd .u64 (IntKind.u64.wrap ((IntKind.u64.wrap ((x'.fdiv (2 ^ 32)) * (iAnd .u64 y 4294967295))) + ((IntKind.u64.wrap ((iAnd .u64 x' 4294967295) * (iAnd .u64 y 4294967295))).fdiv (2 ^ 32)))) 4294967295) + (IntKind.u64.wrap ((iAnd .u64 x' 4294967295) * (y.fdiv (2 ^ 32))))))) rfl rfl rfl rfl rfl (.assign (v := (vu (IntKind.u64.wrap ((iAnd .u64 (IntKind.u64.wrap ((IntKind.u64.wrap ((x'.fdiv (2 ^ 32)) * (iAnd .u64 y 4294967295))) + ((IntKind.u64.wrap ((iAnd .u64 x' 4294967295) * (iAnd .u64 y 4294967295))).fdiv (2 ^ 32)))) 4294967295) + (IntKind.u64.wrap ((iAnd .u64 x' 4294967295) * (y.fdiv (2 ^ 32)))))))) rfl rfl ?_)))))
 refine .nila H fun H => (.then (.Z0 9 rfl H fun b11 σ H => (.move (v := (vu (x'.fdiv (2 ^ 32)))) rfl rfl (.move (v := (vu (y.fdiv (2 ^ 32)))) rfl rfl (.int (m := (x'.fdiv (2 ^ 32))) (m' := (y.fdiv (2 ^ 32))) (r := .int .u64 (IntKind.u64.wrap ((x'.fdiv (2 ^ 32)) * (y.fdiv (2 ^ 32))))) rfl rfl rfl rfl rfl ?_)))))
 refine .move (v := (vu ((IntKind.u64.wrap ((IntKind.u64.wrap ((x'.fdiv (2 ^ 32)) * (iAnd .u64 y 4294967295))) + ((IntKind.u64.wrap ((iAnd .u64 x' 4294967295) * (iAnd .u64 y 4294967295))).fdiv (2 ^ 32)))).fdiv (2 ^ 32)))) rfl rfl (.int (m := (IntKind.u64.wrap ((x'.fdiv (2 ^ 32)) * (y.fdiv (2 ^ 32))))) (m' := ((IntKind.u64.wrap ((IntKind.u64.wrap ((x'.fdiv (2 ^ 32)) * (iAnd .u64 y 4294967295))) + ((IntKind.u64.wrap ((iAnd .u64 x' 4294967295) * (iAnd .u64 y 4294967295))).fdiv (2 ^ 32)))).fdiv (2 ^ 32))) (r := .int .u64 (IntKind.u64.wrap ((IntKind.u64.wrap ((x'.fdiv (2 ^ 32)) * (y.fdiv (2 ^ 32)))) + ((IntKind.u64.wrap ((IntKind.u64.wrap ((x'.fdiv (2 ^ 32)) * (iAnd .u64 y 4294967295))) + ((IntKind.u64.wrap ((iAnd .u64 x' 4294967295) * (iAnd .u64 y 4294967295))).fdiv (2 ^ 32)))).fdiv (2 ^ 32))))) rfl rfl rfl rfl rfl (.move (v := (vu (IntKind.u64.wrap ((iAnd .u64 (IntKind.u64.wrap ((IntKind.u64.wrap ((x'.fdiv (2 ^ 32)) * (iAnd .u64 y 4294967295))) + ((IntKind.u64.wrap ((iAnd .u64 x' 4294967295) * (iAnd .u64 y 4294967295))).fdiv (2 ^ 32)))) 4294967295) + (IntKind.u64.wrap ((iAnd .u64 x' 4294967295) * (y.fdiv (2 ^ 32)))))))) rfl rfl (.shr (m := (IntKind.u64.wrap ((iAnd .u64 (IntKind.u64.wrap ((IntKind.u64.wrap ((x'.fdiv (2 ^ 32)) * (iAnd .u64 y 4294967295))) + ((IntKind.u64.wrap ((iAnd .u64 x' 4294967295) * (iAnd .u64 y 4294967295))).fdiv (2 ^ 32)))) 4294967295) + (IntKind.u64.wrap ((iAnd .u64 x' 4294967295) * (y.fdiv (2 ^ 32))))))) (m' := 32) rfl rfl (by decide) rfl (.int (m := (IntKind.u64.wrap ((IntKind.u64.wrap ((x'.fdiv (2 ^ 32)) * (y.fdiv (2 ^ 32)))) + ((IntKind.u64.wrap ((IntKind.u64.wrap ((x'.fdiv (2 ^ 32)) * (iAnd .u64 y 4294967295))) + ((IntKind.u64.wrap ((iAnd .u64 x' 4294967295) * (iAnd .u64 y 4294967295))).fdiv (2 ^ 32)))).fdiv (2 ^ 32))))) (m' := ((IntKind.u64.wrap ((iAnd .u64 (IntKind.u64.wrap ((IntKind.u64.wrap ((x'.fdiv (2 ^ 32)) * (iAnd .u64 y 4294967295))) + ((IntKind.u64.wrap ((iAnd .u64 x' 4294967295) * (iAnd .u64 y 4294967295))).fdiv (2 ^ 32)))) 4294967295) + (IntKind.u64.wrap ((iAnd .u64 x' 4294967295) * (y.fdiv (2 ^ 32)))))).fdiv (2 ^ 32))) (r := .int .u64 (IntKind.u64.wrap ((IntKind.u64.wrap ((IntKind.u64.wrap ((x'.fdiv (2 ^ 32)) * (y.fdiv (2 ^ 32)))) + ((IntKind.u64.wrap ((IntKind.u64.wrap ((x'.fdiv (2 ^ 32)) * (iAnd .u64 y 4294967295))) + ((IntKind.u64.wrap ((iAnd .u64 x' 4294967295) * (iAnd .u64 y 4294967295))).fdiv (2 ^ 32)))).fdiv (2 ^ 32)))) + ((IntKind.u64.wrap ((iAnd .u64 (IntKind.u64.wrap ((IntKind.u64.wrap ((x'.fdiv (2 ^ 32)) * (iAnd .u64 y 4294967295))) + ((IntKind.u64.wrap ((iAnd .u64 x' 4294967295) * (iAnd .u64 y 4294967295))).fdiv (2 ^ 32)))) 4294967295) + (IntKind.u64.wrap ((iAnd .u64 x' 4294967295) * (y.fdiv (2 ^ 32)))))).fdiv (2 ^ 32))))) rfl rfl rfl rfl rfl (.assign (v := (vu (IntKind.u64.wrap ((IntKind.u64.wrap ((IntKind.u64.wrap ((x'.fdiv (2 ^ 32)) * (y.fdiv (2 ^ 32)))) + ((IntKind.u64.wrap ((IntKind.u64.wrap ((x'.fdiv (2 ^ 32)) * (iAnd .u64 y 4294967295))) + ((IntKind.u64.wrap ((iAnd .u64 x' 4294967295) * (iAnd .u64 y 4294967295))).fdiv (2 ^ 32)))).fdiv (2 ^ 32)))) + ((IntKind.u64.wrap ((iAnd .u64 (IntKind.u64.wrap ((IntKind.u64.wrap ((x'.fdiv (2 ^ 32)) * (iAnd .u64 y 4294967295))) + ((IntKind.u64.wrap ((iAnd .u64 x' 4294967295) * (iAnd .u64 y 4294967295))).fdiv (2 ^ 32)))) 4294967295) + (IntKind.u64.wrap ((iAnd .u64 x' 4294967295) * (y.fdiv (2 ^ 32)))))).fdiv (2 ^ 32)))))) rfl rfl ?_)))))
 refine .nila H fun H => (.then (.Z0 4 rfl H fun b12 σ H => (.move (v := (vu x')) rfl rfl (.move (v := (vu y)) rfl rfl (.int (m := x') (m' := y) (r := .int .u64 (IntKind.u64.wrap (x' * y))) rfl rfl rfl rfl rfl ?_)))))
 refine .assign (v := (vu (IntKind.u64.wrap (x' * y)))) rfl rfl (.nila H fun H => (.ret ?_))
 subst h
 exact (Ends.H (xs := [(vu (IntKind.u64.wrap ((IntKind.u64.wrap ((IntKind.u64.wrap ((x'.fdiv (2 ^ 32)) * (y.fdiv (2 ^ 32)))) + ((IntKind.u64.wrap ((IntKind.u64.wrap ((x'.fdiv (2 ^ 32)) * (iAnd .u64 y 4294967295))) + ((IntKind.u64.wrap ((iAnd .u64 x' 4294967295) * (iAnd .u64 y 4294967295))).fdiv (2 ^ 32)))).fdiv (2 ^ 32)))) + ((IntKind.u64.wrap ((iAnd .u64 (IntKind.u64.wrap ((IntKind.u64.wrap ((x'.fdiv (2 ^ 32)) * (iAnd .u64 y 4294967295))) + ((IntKind.u64.wrap ((iAnd .u64 x' 4294967295) * (iAnd .u64 y 4294967295))).fdiv (2 ^ 32)))) 4294967295) + (IntKind.u64.wrap ((iAnd .u64 x' 4294967295) * (y.fdiv (2 ^ 32)))))).fdiv (2 ^ 32))))), (vu (IntKind.u64.wrap (x' * y)))]) (.inr rfl) H (.tmp (v := (vu (IntKind.u64.wrap ((IntKind.u64.wrap ((IntKind.u64.wrap ((x'.fdiv (2 ^ 32)) * (y.fdiv (2 ^ 32)))) + ((IntKind.u64.wrap ((IntKind.u64.wrap ((x'.fdiv (2 ^ 32)) * (iAnd .u64 y 4294967295))) + ((IntKind.u64.wrap ((iAnd .u64 x' 4294967295) * (iAnd .u64 y 4294967295))).fdiv (2 ^ 32)))).fdiv (2 ^ 32)))) + ((IntKind.u64.wrap ((iAnd .u64 (IntKind.u64.wrap ((IntKind.u64.wrap ((x'.fdiv (2 ^ 32)) * (iAnd .u64 y 4294967295))) + ((IntKind.u64.wrap ((iAnd .u64 x' 4294967295) * (iAnd .u64 y 4294967295))).fdiv (2 ^ 32)))) 4294967295) + (IntKind.u64.wrap ((iAnd .u64 x' 4294967295) * (y.fdiv (2 ^ 32)))))).fdiv (2 ^ 32)))))) rfl (.tmp (v := (vu (IntKind.u64.wrap (x' * y)))) rfl .nil)) (.two (.cons (.c (.v _)) (.cons (.c (.v _)) .nil))))

theorem Z8s {n : Int} {minus : Bool} {r : Int × Int} (h : Z0C n minus = r) : Fn CX 71 [(vu n), (vb minus)] (.tup [(vi r.1), (vi r.2)]) := by
 refine Fn.ends Try.func71 rfl rfl rfl rfl rfl rfl ?_
 have H : Hs (⟨0, fun _ => .none⟩ : Heap) [] := Has.nil (Nat.le_refl _)
 generalize (⟨0, fun _ => .none⟩ : Heap) = σ at H ⊢
 unfold Z0C at h
 refine .then (.Z0 2 rfl H fun b1 σ H => (.assign (v := (vi 0)) rfl rfl (.assign (v := (vi 0)) rfl rfl (.nila H fun H => (.then ?_)))))
 refine .inBlock (.then (.Z0 6 rfl H fun b2 σ H => (.move (v := (vb minus)) rfl rfl (.move (v := (vb minus)) rfl rfl ?_))))
 refine .mid 3 (K1 := fun e σ => Z5 e [(11, (vb (minus && (decide (n ≤ 9223372036854775808))))), (0, (vu n)), (1, (vb minus))] ∧ Has σ (b2 + 5) (b2 + 6) []) rfl ?_ ?_
 ·refine .split rfl rfl ?_ ?_ <;> intro hc1
  ·skip
   refine .wanted rfl rfl (.move (v := (vu n)) rfl rfl (.wanted rfl rfl (.int (m := n) (m' := 9223372036854775808) (r := .bool (decide (n ≤ 9223372036854775808))) rfl rfl rfl rfl rfl (.ZZ (v := (vb (decide (n ≤ 9223372036854775808)))) rfl rfl rfl (.nil ?_)))))
   exact ⟨⟨Z0p hc1, rfl, rfl, trivial⟩, H.weak (by omega) (Nat.le_refl _)⟩
  ·skip
   refine .pass rfl rfl rfl (.pass rfl rfl rfl (.Zb (v := (vb false)) rfl rfl rfl (.nil ?_)))
   exact ⟨⟨Z0o hc1, rfl, rfl, trivial⟩, H.weak (by omega) (Nat.le_refl _)⟩
 ·rintro e σ ⟨he, H⟩
  obtain ⟨e, rfl⟩ := he.ex
  refine .assign (v := (vb (minus && (decide (n ≤ 9223372036854775808))))) rfl rfl (.nila H fun H => ?_)
  refine .whether (v := (minus && (decide (n ≤ 9223372036854775808)))) rfl ?_ ?_ <;> intro hc2
  ·replace h := Z8 hc2 h
   refine .then (.Z0 5 rfl H fun b3 σ H => (.move (v := (vu n)) rfl rfl (.neg (m := n) rfl rfl (.conv (m := (IntKind.u64.wrap (0 - n))) rfl rfl rfl rfl (.assign (v := (vi (w64 (IntKind.u64.wrap (0 - n))))) rfl rfl ?_)))))
   refine .assign (v := (vi 0)) rfl rfl (.nila H fun H => (.ret ?_))
   subst h
   exact (Ends.H (xs := [(vi (w64 (IntKind.u64.wrap (0 - n)))), (vi 0)]) (.inr rfl) H (.tmp (v := (vi (w64 (IntKind.u64.wrap (0 - n))))) rfl (.tmp (v := (vi 0)) rfl .nil)) (.two (.cons (.c (.v _)) (.cons (.c (.v _)) .nil))))
  ·replace h := Z9 hc2 h
   refine .then (.Z0 7 rfl H fun b4 σ H => (.move (v := (vb minus)) rfl rfl (.not (b := minus) rfl rfl (.move (v := (vb (!minus))) rfl rfl ?_))))
   refine .mid 3 (K1 := fun e σ => Z5 e [(21, (vb ((!minus) && (decide (n ≤ 9223372036854775807))))), (0, (vu n))] ∧ Has σ (b4 + 6) (b4 + 7) []) rfl ?_ ?_
   ·refine .split rfl rfl ?_ ?_ <;> intro hc3
    ·skip
     refine .wanted rfl rfl (.move (v := (vu n)) rfl rfl (.wanted rfl rfl (.int (m := n) (m' := 9223372036854775807) (r := .bool (decide (n ≤ 9223372036854775807))) rfl rfl rfl rfl rfl (.ZZ (v := (vb (decide (n ≤ 9223372036854775807)))) rfl rfl rfl (.nil ?_)))))
     exact ⟨⟨Z0p hc3, rfl, trivial⟩, H.weak (by omega) (Nat.le_refl _)⟩
    ·skip
     refine .pass rfl rfl rfl (.pass rfl rfl rfl (.Zb (v := (vb false)) rfl rfl rfl (.nil ?_)))
     exact ⟨⟨Z0o hc3, rfl, trivial⟩, H.weak (by omega) (Nat.le_refl _)⟩
   ·rintro e σ ⟨he, H⟩
    obtain ⟨e, rfl⟩ := he.ex
    refine .assign (v := (vb ((!minus) && (decide (n ≤ 9223372036854775807))))) rfl rfl (.nila H fun H => ?_)
    refine .whether (v := ((!minus) && (decide (n ≤ 9223372036854775807)))) rfl ?_ ?_ <;> intro hc4
    ·replace h := Z8 hc4 h
     refine .then (.Z0 4 rfl H fun b5 σ H => (.move (v := (vu n)) rfl rfl (.conv (m := n) rfl rfl rfl rfl (.assign (v := (vi (w64 n))) rfl rfl (.assign (v := (vi 0)) rfl rfl ?_)))))
     refine .nila H fun H => (.ret ?_)
     subst h
     exact (Ends.H (xs := [(vi (w64 n)), (vi 0)]) (.inr rfl) H (.tmp (v := (vi (w64 n))) rfl (.tmp (v := (vi 0)) rfl .nil)) (.two (.cons (.c (.v _)) (.cons (.c (.v _)) .nil))))
    ·replace h := Z9 hc4 h
     refine .skip (.then (.Z0 2 rfl H fun b6 σ H => (.assign (v := (vi 0)) rfl rfl (.assign (v := (vi 10)) rfl rfl (.nila H fun H => ?_)))))
     refine .ret ?_
     subst h
     exact (Ends.H (xs := [(vi 0), (vi 10)]) (.inr rfl) H (.tmp (v := (vi 0)) rfl (.tmp (v := (vi 10)) rfl .nil)) (.two (.cons (.c (.v _)) (.cons (.c (.v _)) .nil))))

theorem safe_Mul_fn {a : Int} {b : Int} {r : Int × Int} (h : Z0E a b = r) : Fn CX 59 [(vi a), (vi b)] (.tup [(vi r.1), (vi r.2)]) := by
 refine Fn.ends Try.func59 rfl rfl rfl rfl rfl rfl ?_
 have H : Hs (⟨0, fun _ => .none⟩ : Heap) [] := Has.nil (Nat.le_refl _)
 generalize (⟨0, fun _ => .none⟩ : Heap) = σ at H ⊢
 unfold Z0E at h
 refine .then (.Z0 2 rfl H fun b1 σ H => (.assign (v := (vi 0)) rfl rfl (.assign (v := (vi 0)) rfl rfl (.nila H fun H => (.then ?_)))))
 refine .Z0 10 rfl H fun b2 σ H => (.move (v := (vi a)) rfl rfl (.call (ys := [(vi a)]) (r := (vu (ZD a))) rfl (Z6d rfl) rfl (.move (v := (vi b)) rfl rfl (.call (ys := [(vi b)]) (r := (vu (ZD b))) rfl (Z6d rfl) rfl (.call (ys := [(vu (ZD a)), (vu (ZD b))]) (r := (.tup [(vu (ZH (ZD a) (ZD b)).1), (vu (ZH (ZD a) (ZD b)).2)])) rfl (Z6O rfl) rfl ?_)))))
 refine .move (v := (.tup [(vu (ZH (ZD a) (ZD b)).1), (vu (ZH (ZD a) (ZD b)).2)])) rfl rfl (.extract (v := (vu (ZH (ZD a) (ZD b)).1)) rfl rfl rfl (.extract (v := (vu (ZH (ZD a) (ZD b)).2)) rfl rfl rfl (.assign (v := (vu (ZH (ZD a) (ZD b)).1)) rfl rfl (.assign (v := (vu (ZH (ZD a) (ZD b)).2)) rfl rfl (.nila H fun H => ?_)))))
 refine .then (.then (.Z0 2 rfl H fun b3 σ H => (.move (v := (vu (ZH (ZD a) (ZD b)).1)) rfl rfl (.int (m := (ZH (ZD a) (ZD b)).1) (m' := 0) (r := .bool (((ZH (ZD a) (ZD b)).1) != 0)) rfl rfl rfl rfl rfl (.nila H fun H => ?_)))))
 refine .whether (v := (((ZH (ZD a) (ZD b)).1) != 0)) rfl ?_ ?_ <;> intro hc1
 ·replace h := Z8 hc1 h
  refine .then (.Z0 2 rfl H fun b4 σ H => (.assign (v := (vi 0)) rfl rfl (.assign (v := (vi 10)) rfl rfl (.nila H fun H => (.ret ?_)))))
  subst h
  exact (Ends.H (xs := [(vi 0), (vi 10)]) (.inr rfl) H (.tmp (v := (vi 0)) rfl (.tmp (v := (vi 10)) rfl .nil)) (.two (.cons (.c (.v _)) (.cons (.c (.v _)) .nil))))
 ·replace h := Z9 hc1 h
  refine .skip (.then (.Z0 11 rfl H fun b5 σ H => (.move (v := (vu (ZH (ZD a) (ZD b)).2)) rfl rfl (.move (v := (vi a)) rfl rfl (.int (m := a) (m' := 0) (r := .bool (decide (a < 0))) rfl rfl rfl rfl rfl ?_)))))
  refine .move (v := (vi b)) rfl rfl (.int (m := b) (m' := 0) (r := .bool (decide (b < 0))) rfl rfl rfl rfl rfl (.neB (b := (decide (a < 0))) (b' := (decide (b < 0))) rfl rfl rfl rfl (.call (ys := [(vu (ZH (ZD a) (ZD b)).2), (vb ((decide (a < 0)) != (decide (b < 0))))]) (r := (.tup [(vi (Z0C ((ZH (ZD a) (ZD b)).2) ((decide (a < 0)) != (decide (b < 0)))).1), (vi (Z0C ((ZH (ZD a) (ZD b)).2) ((decide (a < 0)) != (decide (b < 0)))).2)])) rfl (Z8s rfl) rfl (.extract (v := (vi (Z0C ((ZH (ZD a) (ZD b)).2) ((decide (a < 0)) != (decide (b < 0)))).1)) rfl rfl rfl (.extract (v := (vi (Z0C ((ZH (ZD a) (ZD b)).2) ((decide (a < 0)) != (decide (b < 0)))).2)) rfl rfl rfl ?_)))))
  refine .assign (v := (vi (Z0C ((ZH (ZD a) (ZD b)).2) ((decide (a < 0)) != (decide (b < 0)))).1)) rfl rfl (.assign (v := (vi (Z0C ((ZH (ZD a) (ZD b)).2) ((decide (a < 0)) != (decide (b < 0)))).2)) rfl rfl (.nila H fun H => (.ret ?_)))
  subst h
  exact (Ends.H (xs := [(vi (Z0C ((ZH (ZD a) (ZD b)).2) ((decide (a < 0)) != (decide (b < 0)))).1), (vi (Z0C ((ZH (ZD a) (ZD b)).2) ((decide (a < 0)) != (decide (b < 0)))).2)]) (.inr rfl) H (.tmp (v := (vi (Z0C ((ZH (ZD a) (ZD b)).2) ((decide (a < 0)) != (decide (b < 0)))).1)) rfl (.tmp (v := (vi (Z0C ((ZH (ZD a) (ZD b)).2) ((decide (a < 0)) != (decide (b < 0)))).2)) rfl .nil)) (.two (.cons (.c (.v _)) (.cons (.c (.v _)) .nil))))

theorem Z6z {f : Form} {i : Int} {r : (List Span) × Int × Int} (h : Z1n f i = some r) : Fn CX 46 [(.agg (vs (Form.cs f))), (vi i)] (.tup [(vl Span.cs r.1), (vi r.2.1), (vi r.2.2)]) := by
 refine Fn.ends Try.func46 rfl rfl rfl rfl rfl rfl ?_
 have H : Hs (⟨0, fun _ => .none⟩ : Heap) [] := Has.nil (Nat.le_refl _)
 generalize (⟨0, fun _ => .none⟩ : Heap) = σ at H ⊢
 unfold Z1n at h
 refine .then (.Z0 4 rfl H fun b1 σ H => (.boxH (cs := (vF f)) H (by omega) (by omega) rfl rfl rfl fun σ H => (.assign (v := .nils) rfl rfl (.assign (v := (vi 0)) rfl rfl (.assign (v := (vi 0)) rfl rfl ?_)))))
 refine .nila H fun H => (.then (.then (.Z0 8 rfl H fun b2 σ H => (.ZY (off := 0) (cs := (vF f)) H 0 rfl rfl rfl rfl rfl rfl rfl nofun rfl (.move (v := (vi i)) rfl rfl ?_)))))
 obtain ⟨x1, q1, h⟩ := bind_some h
 refine .call (ys := [(.agg (vF f)), (vi i)]) (r := (.tup [(vi x1.1), (vb x1.2)])) rfl (Z7o q1) rfl (.move (v := (.tup [(vi x1.1), (vb x1.2)])) rfl rfl (.extract (v := (vi x1.1)) rfl rfl rfl (.extract (v := (vb x1.2)) rfl rfl rfl (.assign (v := (vi x1.1)) rfl rfl (.assign (v := (vb x1.2)) rfl rfl ?_)))))
 refine .nila H fun H => (.then (.Z0 1 rfl H fun b3 σ H => (.move (v := (vb x1.2)) rfl rfl (.nila H fun H => ?_))))
 refine .whether (v := x1.2) rfl ?_ ?_ <;> intro hc1
 ·replace h := Z8 hc1 h
  refine .then (.Z0 9 rfl H fun b4 σ H => (.Z2 (off := 0) (fo := 3) H 0 rfl rfl rfl rfl rfl nofun rfl (.ZS (off := 3) (v := (vl Granule.cs f.Odd)) H 0 rfl rfl rfl rfl rfl nofun rfl (.move (v := (vi x1.1)) rfl rfl ?_))))
  obtain ⟨x2, q2, h⟩ := bind_some h
  refine .Z0D (c := Granule.cs) (u := x2) rfl rfl q2 rfl rfl rfl rfl (.Z0x rfl rfl rfl rfl (.Z2F (u := (.sl (x2.Ticks.map Span.cs))) rfl rfl rfl rfl (.assign (v := (vl Span.cs x2.Ticks)) rfl rfl (.assign (v := (vi 0)) rfl rfl (.assign (v := (vi 0)) rfl rfl ?_)))))
  refine .nila H fun H => (.ret ?_)
  replace h := sj h; subst h
  exact (Ends.H (xs := [(vl Span.cs x2.Ticks), (vi 0), (vi 0)]) (.inr rfl) H (.tmp (v := (vl Span.cs x2.Ticks)) rfl (.tmp (v := (vi 0)) rfl (.tmp (v := (vi 0)) rfl .nil))) (.two (.cons (.c (.v _)) (.cons (.c (.v _)) (.cons (.c (.v _)) .nil)))))
 ·replace h := Z9 hc1 h
  refine .skip (.then (.then (.Z0 3 rfl H fun b5 σ H => (.Z2 (off := 0) (fo := 1) H 0 rfl rfl rfl rfl rfl nofun rfl (.ZS (off := 1) (v := (vi f.Count)) H 0 rfl rfl rfl rfl rfl nofun rfl ?_)))))
  refine .int (m := f.Count) (m' := 0) (r := .bool (f.Count == 0)) rfl rfl rfl rfl rfl (.nila H fun H => ?_)
  refine .whether (v := (f.Count == 0)) rfl ?_ ?_ <;> intro hc2
  ·replace h := Z8 hc2 h
   refine .then (.Z0 3 rfl H fun b6 σ H => (.assign (v := .nils) rfl rfl (.assign (v := (vi 0)) rfl rfl (.assign (v := (vi 0)) rfl rfl (.nila H fun H => ?_)))))
   refine .ret ?_
   replace h := sj h; subst h
   exact (Ends.H (xs := [.nils, (vi 0), (vi 0)]) (.inr rfl) H (.tmp (v := .nils) rfl (.tmp (v := (vi 0)) rfl (.tmp (v := (vi 0)) rfl .nil))) (.two (.cons (.c .n) (.cons (.c (.v _)) (.cons (.c (.v _)) .nil)))))
  ·replace h := Z9 hc2 h
   refine .skip (.then (.Z0 11 rfl H fun b7 σ H => (.move (v := (vi i)) rfl rfl (.Z2 (off := 0) (fo := 1) H 0 rfl rfl rfl rfl rfl nofun rfl (.ZS (off := 1) (v := (vi f.Count)) H 0 rfl rfl rfl rfl rfl nofun rfl ?_)))))
   obtain ⟨x3, q3, h⟩ := bind_some h
   refine .call (ys := [(vi i), (vi f.Count)]) (r := (.tup [(vi x3.1), (vi x3.2.1), (vi x3.2.2)])) rfl (Z6D q3) rfl (.move (v := (.tup [(vi x3.1), (vi x3.2.1), (vi x3.2.2)])) rfl rfl (.extract (v := (vi x3.1)) rfl rfl rfl (.extract (v := (vi x3.2.1)) rfl rfl rfl (.extract (v := (vi x3.2.2)) rfl rfl rfl (.assign (v := (vi x3.1)) rfl rfl ?_)))))
   refine .assign (v := (vi x3.2.1)) rfl rfl (.assign (v := (vi x3.2.2)) rfl rfl (.nila H fun H => (.then (.Z0 9 rfl H fun b8 σ H => (.move (v := (vi x3.1)) rfl rfl ?_)))))
   refine .Z2 (off := 0) (fo := 0) H 0 rfl rfl rfl rfl rfl nofun rfl (.ZS (off := 0) (v := (vi f.Period)) H 0 rfl rfl rfl rfl rfl nofun rfl (.call (ys := [(vi x3.1), (vi f.Period)]) (r := (.tup [(vi (Z0E x3.1 f.Period).1), (vi (Z0E x3.1 f.Period).2)])) rfl (safe_Mul_fn rfl) rfl (.move (v := (.tup [(vi (Z0E x3.1 f.Period).1), (vi (Z0E x3.1 f.Period).2)])) rfl rfl (.extract (v := (vi (Z0E x3.1 f.Period).1)) rfl rfl rfl (.extract (v := (vi (Z0E x3.1 f.Period).2)) rfl rfl rfl ?_)))))
   refine .assign (v := (vi (Z0E x3.1 f.Period).1)) rfl rfl (.assign (v := (vi (Z0E x3.1 f.Period).2)) rfl rfl (.nila H fun H => (.then (.Z0 10 rfl H fun b9 σ H => (.Z2 (off := 0) (fo := 2) H 0 rfl rfl rfl rfl rfl nofun rfl ?_)))))
   refine .ZS (off := 2) (v := (vl (cL Span.cs) f.Core)) H 0 rfl rfl rfl rfl rfl nofun rfl (.move (v := (vi x3.2.1)) rfl rfl ?_)
   obtain ⟨x4, q4, h⟩ := bind_some h
   refine .Z0D (c := (cL Span.cs)) (u := x4) rfl rfl q4 rfl rfl rfl rfl (.Z2F (u := (.sl (x4.map Span.cs))) rfl rfl rfl rfl (.move (v := (vi (Z0E x3.1 f.Period).1)) rfl rfl (.move (v := (vi (Z0E x3.1 f.Period).2)) rfl rfl (.assign (v := (vl Span.cs x4)) rfl rfl (.assign (v := (vi (Z0E x3.1 f.Period).1)) rfl rfl ?_)))))
   refine .assign (v := (vi (Z0E x3.1 f.Period).2)) rfl rfl (.nila H fun H => (.ret ?_))
   replace h := sj h; subst h
   exact (Ends.H (xs := [(vl Span.cs x4), (vi (Z0E x3.1 f.Period).1), (vi (Z0E x3.1 f.Period).2)]) (.inr rfl) H (.tmp (v := (vl Span.cs x4)) rfl (.tmp (v := (vi (Z0E x3.1 f.Period).1)) rfl (.tmp (v := (vi (Z0E x3.1 f.Period).2)) rfl .nil))) (.two (.cons (.c (.v _)) (.cons (.c (.v _)) (.cons (.c (.v _)) .nil)))))

theorem Z7v {a : Int} {b : Int} {r : Int × Int} (h : ZB a b = r) : Fn CX 60 [(vi a), (vi b)] (.tup [(vi r.1), (vi r.2)]) := by
 refine Fn.ends Try.func60 rfl rfl rfl rfl rfl rfl ?_
 have H : Hs (⟨0, fun _ => .none⟩ : Heap) [] := Has.nil (Nat.le_refl _)
 generalize (⟨0, fun _ => .none⟩ : Heap) = σ at H ⊢
 unfold ZB at h
 refine .then (.Z0 2 rfl H fun b1 σ H => (.assign (v := (vi 0)) rfl rfl (.assign (v := (vi 0)) rfl rfl (.nila H fun H => (.then ?_)))))
 refine .Z0 4 rfl H fun b2 σ H => (.move (v := (vi a)) rfl rfl (.move (v := (vi b)) rfl rfl (.int (m := a) (m' := b) (r := .int .i64 (w64 (a + b))) rfl rfl rfl rfl rfl (.assign (v := (vi (w64 (a + b)))) rfl rfl (.nila H fun H => ?_)))))
 refine .then (.then (.Z0 10 rfl H fun b3 σ H => (.move (v := (vi (w64 (a + b)))) rfl rfl (.move (v := (vi a)) rfl rfl (.int (m := (w64 (a + b))) (m' := a) (r := .bool (decide ((w64 (a + b)) > a))) rfl rfl rfl rfl rfl ?_)))))
 refine .move (v := (vi b)) rfl rfl (.int (m := b) (m' := 0) (r := .bool (decide (b > 0))) rfl rfl rfl rfl rfl (.neB (b := (decide ((w64 (a + b)) > a))) (b' := (decide (b > 0))) rfl rfl rfl rfl (.move (v := (vb ((decide ((w64 (a + b)) > a)) != (decide (b > 0))))) rfl rfl ?_)))
 refine .mid 3 (K1 := fun e σ => Z5 e [(19, (vb (((decide ((w64 (a + b)) > a)) != (decide (b > 0))) && (b != 0)))), (6, (vi (w64 (a + b))))] ∧ Has σ (b3 + 10) (b3 + 10) []) rfl ?_ ?_
 ·refine .split rfl rfl ?_ ?_ <;> intro hc1
  ·skip
   refine .wanted rfl rfl (.move (v := (vi b)) rfl rfl (.wanted rfl rfl (.int (m := b) (m' := 0) (r := .bool (b != 0)) rfl rfl rfl rfl rfl (.ZZ (v := (vb (b != 0))) rfl rfl rfl (.nil ?_)))))
   exact ⟨⟨Z0p hc1, rfl, trivial⟩, H.weak (by omega) (Nat.le_refl _)⟩
  ·skip
   refine .pass rfl rfl rfl (.pass rfl rfl rfl (.Zb (v := (vb false)) rfl rfl rfl (.nil ?_)))
   exact ⟨⟨Z0o hc1, rfl, trivial⟩, H.weak (by omega) (Nat.le_refl _)⟩
 ·rintro e σ ⟨he, H⟩
  obtain ⟨e, rfl⟩ := he.ex
  refine .nila H fun H => ?_
  refine .whether (v := (((decide ((w64 (a + b)) > a)) != (decide (b > 0))) && (b != 0))) rfl ?_ ?_ <;> intro hc2
  ·replace h := Z8 hc2 h
   refine .then (.Z0 2 rfl H fun b4 σ H => (.assign (v := (vi 0)) rfl rfl (.assign (v := (vi 10)) rfl rfl (.nila H fun H => (.ret ?_)))))
   subst h
   exact (Ends.H (xs := [(vi 0), (vi 10)]) (.inr rfl) H (.tmp (v := (vi 0)) rfl (.tmp (v := (vi 10)) rfl .nil)) (.two (.cons (.c (.v _)) (.cons (.c (.v _)) .nil))))
  ·replace h := Z9 hc2 h
   refine .skip (.then (.Z0 3 rfl H fun b5 σ H => (.move (v := (vi (w64 (a + b)))) rfl rfl (.assign (v := (vi (w64 (a + b)))) rfl rfl (.assign (v := (vi 0)) rfl rfl ?_)))))
   refine .nila H fun H => (.ret ?_)
   subst h
   exact (Ends.H (xs := [(vi (w64 (a + b))), (vi 0)]) (.inr rfl) H (.tmp (v := (vi (w64 (a + b)))) rfl (.tmp (v := (vi 0)) rfl .nil)) (.two (.cons (.c (.v _)) (.cons (.c (.v _)) .nil))))

end Go.Dn
