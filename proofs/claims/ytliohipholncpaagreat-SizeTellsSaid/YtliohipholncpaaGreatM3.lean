/- Part 3 of what the row stands on. -/
import Derived.KernelRfl
import Derived.Test.YtliohipholncpaaGreatM2
set_option linter.unusedVariables false
set_option linter.unusedSimpArgs false
namespace Go.Dn
open Go
noncomputable section
def Le {α:Type} (a b:Option α):Prop:=∀ r,a = some r→b = some r
theorem Le.refl {α:Type} (a:Option α):Le a a:=fun _ h => h
theorem Le.bind {α β:Type} {a b:Option α} {f g:α→Option β} (h:Le a b) (hf:∀ x,Le (f x) (g x)):Le (a.bind f) (b.bind g):=fun r hr => by
 cases ha:a with
 | none => rw [ha] at hr;cases hr
 | some x => rw [ha] at hr;rw [h x ha];exact hf x r hr
theorem Le.cond {α:Type} {c:Bool} {a b a' b':Option α} (h:Le a a') (h':Le b b'):Le (bif c then a else b) (bif c then a' else b'):=by
 cases c
 ·exact h'
 ·exact h
theorem Le.elim {A B C:Type} {y:Jx A B} {f f':B→Option C} {g g':A→Option C} (h:∀ r,Le (f r) (f' r)) (h':∀ a,Le (g a) (g' a)):Le (y.elim f g) (y.elim f' g'):=by
 cases y
 ·exact h' _
 ·exact h _
theorem Le.Z3L {S T:Type} {f g:S→T→Option (S × Nat)} (h:∀ s t,Le (f s t) (g s t)) (s:S × Nat) (t:T):Le (Z3L f s t) (Z3L g s t):=fun r hr => by
 unfold Go.Dn.Z3L at hr ⊢
 split at hr
 ·rename_i h0;rw [if_pos h0];cases ha:f s.1 t with
  | none => rw [ha] at hr;cases hr
  | some x => rw [ha] at hr;rw [h _ _ x ha];exact hr
 ·cases hr
def Z11 {S R:Type} (step:S→Option (S ⊕ R)) (s:S):Option R:=Z4C step 1000000 s
theorem iterO_le {S R:Type} {step step':S→Option (S ⊕ R)} (h:∀ s,Le (step s) (step' s)):∀ (n:Nat) (s:S),Le (Z4C step n s) (Z4C step' n s)
 | 0,s => fun r hr => by cases hr
 | n + 1,s => fun r hr => by
  simp only [Z4C] at hr ⊢;cases hs:step s with
  | none => rw [hs] at hr;cases hr
  | some x =>
   rw [hs] at hr;rw [h s x hs];cases x with
   | inl s' => exact iterO_le h n s' r hr
   | inr r' => exact hr
theorem Le.loop {S R:Type} {step step':S→Option (S ⊕ R)} {s:S} (h:∀ s,Le (step s) (step' s)):Le (Z11 step s) (loopO step' s):=fun r hr => ZM.2 ⟨1000000,iterO_le h _ s r hr⟩
def Z7M (f:Form):Option (Int) :=
 (Z11 (Z0A.s0 f) (0,0)).bind fun (y1:Int) =>
 (Z11 (Z0A.s1 f) (y1,0)).bind fun (y2:Int) =>
 some y2
theorem ZCK {f:Form}:Le (Z7M f) (Z0A f):=by
 unfold Z7M Z0A
 repeat' (with_reducible (first | exact Le.refl _ | apply Le.bind | apply Le.loop | intro _))
def Z3r (l:(List Span)):Option (Bool) :=
 (Z11 (Z0B.s0 l) 0).bind fun (y1:Jx (Unit) (Bool)) =>
 y1.elim (fun r' =>
   some r') fun a2 =>
 some true
theorem Z6h {l:(List Span)}:Le (Z3r l) (Z0B l):=by
 unfold Z3r Z0B
 repeat' (with_reducible (first | exact Le.refl _ | apply Le.bind | apply Le.elim | apply Le.loop | intro _))
def Z0m.s0 (f:Form) (s1:Int):Option ((Int) ⊕ (Jx (Unit) (Bool))) :=
 (bif (decide (s1 < (f.Core.length:Int))) then
  (at? f.Core s1).bind fun x1 =>
  (Z3r x1).bind fun x2 =>
  (bif (!x2) then
   some (.inr (.ret false))
  else
   some (.inl (w64 (s1 + 1))))
 else
  some (.inr (.go ())))
theorem Z9I {f:Form} {s1:Int}:Le (Z0m.s0 f s1) (Zj.s0 f s1):=by
 unfold Z0m.s0 Zj.s0
 repeat' (with_reducible (first | exact Le.refl _ | apply Le.bind | apply Le.cond | apply Z6h | intro _))
def Z0m.s1 (f:Form) (s2:Int):Option ((Int) ⊕ (Jx (Unit) (Bool))) :=
 (bif (decide (s2 < (f.Odd.length:Int))) then
  (at? f.Odd s2).bind fun x3 =>
  (Z3r x3.Ticks).bind fun x4 =>
  (
   (bif ((!x4) || (!(Z14 x3.Index))) then
    some true
   else
    (
     (bif (decide (s2 > 0)) then
      (at? f.Odd (w64 (s2 - 1))).bind fun x5 =>
      some (decide (x3.Index≤x5.Index))
     else
      some false)).bind fun (y4:Bool) =>
    some y4)).bind fun (y3:Bool) =>
  (bif y3 then
   some (.inr (.ret false))
  else
   some (.inl (w64 (s2 + 1))))
 else
  some (.inr (.go ())))
theorem Z8y {f:Form} {s2:Int}:Le (Z0m.s1 f s2) (Zj.s1 f s2):=by
 unfold Z0m.s1 Zj.s1
 repeat' (with_reducible (first | exact Le.refl _ | apply Le.bind | apply Le.cond | apply Z6h | intro _))
def Z0m (f:Form):Option (Bool) :=
 (bif ((((f.Count != (f.Core.length:Int)) || ((f.Count == 0) != (f.Period == 0))) || (decide (f.Period < 0))) || (decide (f.Period > 1099511627776))) then
  some false
 else
  (Z11 (Z0m.s0 f) 0).bind fun (y1:Jx (Unit) (Bool)) =>
  y1.elim (fun r' =>
    some r') fun a2 =>
  (Z11 (Z0m.s1 f) 0).bind fun (y2:Jx (Unit) (Bool)) =>
  y2.elim (fun r' =>
    some r') fun a4 =>
  some true)
theorem ZBg {f:Form}:Le (Z0m f) (Zj f):=by
 unfold Z0m Zj
 repeat' (with_reducible (first | exact Le.refl _ | apply Le.bind | apply Le.cond | apply Le.elim | apply Le.loop | apply Z9I | apply Z8y | intro _))
def Z6C (f:Form):Option (Bool) :=
 (Z11 (Z0F.s0 f) (0,[])).bind fun (y1:(List (List Span))) =>
 (Z11 (Z0F.s1 f y1) 0).bind fun (y4:Jx (Unit) (Bool)) =>
 y4.elim (fun r' =>
   some r') fun a6 =>
 some true
theorem ZBe {f:Form}:Le (Z6C f) (Z0F f):=by
 unfold Z6C Z0F
 repeat' (with_reducible (first | exact Le.refl _ | apply Le.bind | apply Le.elim | apply Le.loop | intro _))
def ZH.s0 (x':(List Granule)) (target:Int) (cmp:Granule→Int→Option Int) (s1:Int × Int):Option ((Int × Int) ⊕ (Int)) :=
 (bif (decide (s1.1 < s1.2)) then
  (
   (at? x' (w64 ((IntKind.u64.wrap (w64 (s1.1 + s1.2))).fdiv (2 ^ 1)))).bind fun x1 =>
   (cmp x1 target).bind fun x2 =>
   (bif (decide (x2 < 0)) then
    some ((w64 ((w64 ((IntKind.u64.wrap (w64 (s1.1 + s1.2))).fdiv (2 ^ 1))) + 1)),s1.2)
   else
    some (s1.1,(w64 ((IntKind.u64.wrap (w64 (s1.1 + s1.2))).fdiv (2 ^ 1)))))).bind fun (y2:Int × Int) =>
  some (.inl (y2.1,y2.2))
 else
  some (.inr s1.1))
theorem Z1e {x':(List Granule)} {target:Int} {cmp cmp_:Granule→Int→Option Int} {s1:Int × Int} (h_cmp:∀ z0 z1,Le (cmp z0 z1) (cmp_ z0 z1)):Le (ZH.s0 x' target cmp s1) (Z2.s0 x' target cmp_ s1):=by
 unfold ZH.s0 Z2.s0
 repeat' (with_reducible (first | exact Le.refl _ | exact h_cmp _ _ | exact h_cmp | apply Le.bind | apply Le.cond | intro _))
def ZH (x':(List Granule)) (target:Int) (cmp:Granule→Int→Option Int):Option (Int × Bool) :=
 (Z11 (ZH.s0 x' target cmp) (0,(x'.length:Int))).bind fun (y1:Int) =>
 (
  (bif (decide (y1 < (x'.length:Int))) then
   (at? x' y1).bind fun x3 =>
   (cmp x3 target).bind fun x4 =>
   some (x4 == 0)
  else
   some false)).bind fun (y3:Bool) =>
 some (y1,y3)
theorem Z0c {x':(List Granule)} {target:Int} {cmp cmp_:Granule→Int→Option Int} (h_cmp:∀ z0 z1,Le (cmp z0 z1) (cmp_ z0 z1)):Le (ZH x' target cmp) (Z2 x' target cmp_):=by
 unfold ZH Z2
 repeat' (with_reducible (first | exact Le.refl _ | exact h_cmp _ _ | exact h_cmp | apply Le.bind | apply Le.cond | apply Le.loop | apply Z1e | intro _))
def Z65 (f:Form) (i:Int):Option (Int × Bool) :=
 (ZH f.Odd i (fun z0 z1 => some (Z3e z0 z1))).bind fun x1 =>
 some (x1.1,x1.2)
theorem Z8k {f:Form} {i:Int}:Le (Z65 f i) (Z4p f i):=by
 unfold Z65 Z4p
 repeat' (with_reducible (first | exact Le.refl _ | apply Le.bind | apply Z0c | intro _))
def Z58 (f:Form) (i:Int):Option ((List Span) × Int × Int) :=
 (Z65 f i).bind fun x1 =>
 (bif x1.2 then
  (at? f.Odd x1.1).bind fun x2 =>
  some (x2.Ticks,0,0)
 else
  (bif (f.Count == 0) then
   some ([],0,0)
  else
   (Z0P i f.Count).bind fun x3 =>
   (at? f.Core x3.2.1).bind fun x4 =>
   some (x4,(ZL x3.1 f.Period).1,(ZL x3.1 f.Period).2)))
theorem Z8C {f:Form} {i:Int}:Le (Z58 f i) (Z2f f i):=by
 unfold Z58 Z2f
 repeat' (with_reducible (first | exact Le.refl _ | apply Le.bind | apply Le.cond | apply Z8k | intro _))
def Z4R (l:(List Span)) (by':Int):Option ((List Span) × Int) :=
 (Z11 (Z0H.s0 l by') (0,[])).bind fun (y1:Jx ((List Span)) ((List Span) × Int)) =>
 y1.elim (fun r' =>
   some r') fun a2 =>
 some (a2,0)
theorem Z7S {l:(List Span)} {by':Int}:Le (Z4R l by') (Z0H l by'):=by
 unfold Z4R Z0H
 repeat' (with_reducible (first | exact Le.refl _ | apply Le.bind | apply Le.elim | apply Le.loop | intro _))
def Z2v (f:Form) (i:Int):Option ((List Span) × Int) :=
 (bif (!(Z14 i)) then
  some ([],20)
 else
  (Z58 f i).bind fun x1 =>
  (bif ((x1.1.length:Int) == 0) then
   some ([],0)
  else
   (bif (x1.2.2 != 0) then
    some ([],20)
   else
    (Z4R x1.1 x1.2.1).bind fun x2 =>
    some (x2.1,x2.2))))
theorem Z6D {f:Form} {i:Int}:Le (Z2v f i) (Z0Z f i):=by
 unfold Z2v Z0Z
 repeat' (with_reducible (first | exact Le.refl _ | apply Le.bind | apply Le.cond | apply Z8C | apply Z7S | intro _))
def Zd.s0 (s:(List (List Span))) (f:(List Span)→Option Bool) (s1:Int):Option ((Int) ⊕ (Jx (Unit) (Int))) :=
 (bif (decide (s1 < (s.length:Int))) then
  (at? s s1).bind fun x1 =>
  (f x1).bind fun x2 =>
  (bif x2 then
   some (.inr (.ret s1))
  else
   some (.inl (w64 (s1 + 1))))
 else
  some (.inr (.go ())))
theorem Z3C {s:(List (List Span))} {f f_:(List Span)→Option Bool} {s1:Int} (h_f:∀ z0,Le (f z0) (f_ z0)):Le (Zd.s0 s f s1) (ZE.s0 s f_ s1):=by
 unfold Zd.s0 ZE.s0
 repeat' (with_reducible (first | exact Le.refl _ | exact h_f _ | exact h_f | apply Le.bind | apply Le.cond | intro _))
def Zd (s:(List (List Span))) (f:(List Span)→Option Bool):Option (Int) :=
 (Z11 (Zd.s0 s f) 0).bind fun (y1:Jx (Unit) (Int)) =>
 y1.elim (fun r' =>
   some r') fun a2 =>
 some (-1)
theorem Z3d {s:(List (List Span))} {f f_:(List Span)→Option Bool} (h_f:∀ z0,Le (f z0) (f_ z0)):Le (Zd s f) (ZE s f_):=by
 unfold Zd ZE
 repeat' (with_reducible (first | exact Le.refl _ | exact h_f _ | exact h_f | apply Le.bind | apply Le.elim | apply Le.loop | apply Z3C | intro _))
def Z0K (s:(List (List Span))) (f:(List Span)→Option Bool):Option (Bool) :=
 (Zd s f).bind fun x1 =>
 some (decide (x1 ≥ 0))
theorem Z1V {s:(List (List Span))} {f f_:(List Span)→Option Bool} (h_f:∀ z0,Le (f z0) (f_ z0)):Le (Z0K s f) (ZX s f_):=by
 unfold Z0K ZX
 repeat' (with_reducible (first | exact Le.refl _ | exact h_f _ | exact h_f | apply Le.bind | apply Z3d | intro _))
def Z6v (f:Form):Option (Bool) :=
 (Z0K f.Core (fun z0 => some (Z4o z0))).bind fun x1 =>
 some (!x1)
theorem ZCH {f:Form}:Le (Z6v f) (Z38 f):=by
 unfold Z6v Z38
 repeat' (with_reducible (first | exact Le.refl _ | apply Le.bind | apply Z1V | intro _))
def Z71 (f:Form) (i:Int):Option (Bool) :=
 (Z58 f i).bind fun x1 =>
 some (decide ((x1.1.length:Int) > 0))
theorem ZCP {f:Form} {i:Int}:Le (Z71 f i) (Z4Q f i):=by
 unfold Z71 Z4Q
 repeat' (with_reducible (first | exact Le.refl _ | apply Le.bind | apply Z8C | intro _))
def Z29.s1 (f:Form) (by':Int) (s2:Int):Option ((Int) ⊕ (Jx (Unit) (Int × Bool))) :=
 (bif (Z14 s2) then
  (Z71 f s2).bind fun x5 =>
  (bif x5 then
   some (.inr (.ret (s2,true)))
  else
   some (.inl (w64 (s2 + by'))))
 else
  some (.inr (.go ())))
theorem Z9q {f:Form} {by':Int} {s2:Int}:Le (Z29.s1 f by' s2) (Zu.s1 f by' s2):=by
 unfold Z29.s1 Zu.s1
 repeat' (with_reducible (first | exact Le.refl _ | apply Le.bind | apply Le.cond | apply ZCP | intro _))
def Z29 (f:Form) (from':Int) (by':Int):Option (Int × Bool) :=
 (Z6v f).bind fun x1 =>
 (bif x1 then
  (Z65 f from').bind fun x2 =>
  (
   (bif ((decide (by' < 0)) && (!x2.2)) then
    some (w64 (x2.1 - 1))
   else
    some x2.1)).bind fun (y1:Int) =>
  (Z11 (Zu.s0 f by') y1).bind fun (y2:Jx (Unit) (Int × Bool)) =>
  y2.elim (fun r' =>
    some r') fun a2 =>
  some (0,false)
 else
  (Z11 (Z29.s1 f by') from').bind fun (y3:Jx (Unit) (Int × Bool)) =>
  y3.elim (fun r' =>
    some r') fun a4 =>
  some (0,false))
theorem Z7r {f:Form} {from':Int} {by':Int}:Le (Z29 f from' by') (Zu f from' by'):=by
 unfold Z29 Zu
 repeat' (with_reducible (first | exact Le.refl _ | apply Le.bind | apply Le.cond | apply Le.elim | apply Le.loop | apply ZCH | apply Z8k | apply Z9q | intro _))
def Z5d (f:Form) (i:Int):Option (Int × Bool) :=
 (bif (decide (i≤(-1099511627776))) then
  some (0,false)
 else
  (Z29 f (iMin (w64 (i - 1)) 1099511627776) (-1)).bind fun x1 =>
  some (x1.1,x1.2))
theorem ZAg {f:Form} {i:Int}:Le (Z5d f i) (Z1n f i):=by
 unfold Z5d Z1n
 repeat' (with_reducible (first | exact Le.refl _ | apply Le.bind | apply Le.cond | apply Z7r | intro _))
def Z5a (f:Form) (i:Int):Option (Int × Bool) :=
 (bif (decide (i ≥ 1099511627776)) then
  some (0,false)
 else
  (Z29 f (iMax (w64 (i + 1)) (-1099511627776)) 1).bind fun x1 =>
  some (x1.1,x1.2))
theorem ZB3 {f:Form} {i:Int}:Le (Z5a f i) (Z22 f i):=by
 unfold Z5a Z22
 repeat' (with_reducible (first | exact Le.refl _ | apply Le.bind | apply Le.cond | apply Z7r | intro _))
def Z5J (f:Form) (i:Int):Option (Bool) :=
 (Z2v f i).bind fun x1 =>
 (bif (x1.2 != 0) then
  some false
 else
  (Z5d f i).bind fun x2 =>
  (Z5a f i).bind fun x3 =>
  (
   (bif x2.2 then
    (Z2v f x2.1).bind fun x4 =>
    (bif (x4.2 != 0) then
     some (.ret false)
    else
     some (.go x4.1))
   else
    some (.go []))).bind fun (y1:Jx ((List Span)) (Bool)) =>
  y1.elim (fun r' =>
    some r') fun a2 =>
  (
   (bif x3.2 then
    (Z2v f x3.1).bind fun x5 =>
    (bif (x5.2 != 0) then
     some (.ret false)
    else
     some (.go x5.1))
   else
    some (.go []))).bind fun (y2:Jx ((List Span)) (Bool)) =>
  y2.elim (fun r' =>
    some r') fun a4 =>
  (Z0j a2 x1.1).bind fun x6 =>
  (
   (bif x6 then
    (Z0j x1.1 a4).bind fun x7 =>
    some x7
   else
    some false)).bind fun (y3:Bool) =>
  (
   (bif y3 then
    (Z0j a2 a4).bind fun x8 =>
    some x8
   else
    some false)).bind fun (y4:Bool) =>
  some y4)
theorem ZAm {f:Form} {i:Int}:Le (Z5J f i) (Z25 f i):=by
 unfold Z5J Z25
 repeat' (with_reducible (first | exact Le.refl _ | apply Le.bind | apply Le.cond | apply Le.elim | apply Z6D | apply ZAg | apply ZB3 | intro _))
def Z2B.s0 (f:Form) (s1:Int):Option ((Int) ⊕ (Jx (Unit) (Int))) :=
 (bif (decide (s1 < (f.Odd.length:Int))) then
  (at? f.Odd s1).bind fun x4 =>
  (Z5J f x4.Index).bind fun x5 =>
  (bif (!x5) then
   some (.inr (.ret 50))
  else
   some (.inl (w64 (s1 + 1))))
 else
  some (.inr (.go ())))
theorem Z98 {f:Form} {s1:Int}:Le (Z2B.s0 f s1) (Zz.s0 f s1):=by
 unfold Z2B.s0 Zz.s0
 repeat' (with_reducible (first | exact Le.refl _ | apply Le.bind | apply Le.cond | apply ZAm | intro _))
def Z2B (f:Form):Option (Int) :=
 (
  (bif ((decide ((f.Core.length:Int) > 6000)) || (decide ((f.Odd.length:Int) > 6000))) then
   some true
  else
   (Z7M f).bind fun x1 =>
   some (decide (x1 > 60000)))).bind fun (y1:Bool) =>
 (bif y1 then
  some 3
 else
  (Z0m f).bind fun x2 =>
  (
   (bif (!x2) then
    some true
   else
    (Z6C f).bind fun x3 =>
    some (!x3))).bind fun (y2:Bool) =>
  (bif y2 then
   some 50
  else
   (Z11 (Z2B.s0 f) 0).bind fun (y3:Jx (Unit) (Int)) =>
   y3.elim (fun r' =>
     some r') fun a2 =>
   some 0))
theorem ZBX {f:Form}:Le (Z2B f) (Zz f):=by
 unfold Z2B Zz
 repeat' (with_reducible (first | exact Le.refl _ | apply Le.bind | apply Le.cond | apply Le.elim | apply Le.loop | apply ZCK | apply ZBg | apply ZBe | apply Z98 | intro _))
def Z1q (s1':(List Span)) (s2':(List Span)):Option (Bool) :=
 (bif ((s1'.length:Int) != (s2'.length:Int)) then
  some false
 else
  (Z11 (ZV.s0 s1' s2') 0).bind fun (y1:Jx (Unit) (Bool)) =>
  y1.elim (fun r' =>
    some r') fun a2 =>
  some true)
theorem Z4q {s1':(List Span)} {s2':(List Span)}:Le (Z1q s1' s2') (ZV s1' s2'):=by
 unfold Z1q ZV
 repeat' (with_reducible (first | exact Le.refl _ | apply Le.bind | apply Le.cond | apply Le.elim | apply Le.loop | intro _))
def Z6F (a:(List Span)) (b:(List Span)):Option (Bool) :=
 (Z1q a b).bind fun x1 =>
 some x1
theorem ZBn {a:(List Span)} {b:(List Span)}:Le (Z6F a b) (Z1J a b):=by
 unfold Z6F Z1J
 repeat' (with_reducible (first | exact Le.refl _ | apply Le.bind | apply Z4q | intro _))
def ZS.s0 (s1':(List Span)) (s2':(List Span)) (eq:Span→Span→Option Bool) (s1:Int):Option ((Int) ⊕ (Jx (Unit) (Bool))) :=
 (bif (decide (s1 < (s1'.length:Int))) then
  (at? s1' s1).bind fun x1 =>
  (at? s2' s1).bind fun x2 =>
  (eq x1 x2).bind fun x3 =>
  (bif (!x3) then
   some (.inr (.ret false))
  else
   some (.inl (w64 (s1 + 1))))
 else
  some (.inr (.go ())))
theorem Z2H {s1':(List Span)} {s2':(List Span)} {eq eq_:Span→Span→Option Bool} {s1:Int} (h_eq:∀ z0 z1,Le (eq z0 z1) (eq_ z0 z1)):Le (ZS.s0 s1' s2' eq s1) (ZD.s0 s1' s2' eq_ s1):=by
 unfold ZS.s0 ZD.s0
 repeat' (with_reducible (first | exact Le.refl _ | exact h_eq _ _ | exact h_eq | apply Le.bind | apply Le.cond | intro _))
def ZS (s1':(List Span)) (s2':(List Span)) (eq:Span→Span→Option Bool):Option (Bool) :=
 (bif ((s1'.length:Int) != (s2'.length:Int)) then
  some false
 else
  (Z11 (ZS.s0 s1' s2' eq) 0).bind fun (y1:Jx (Unit) (Bool)) =>
  y1.elim (fun r' =>
    some r') fun a2 =>
  some true)
theorem Z2R {s1':(List Span)} {s2':(List Span)} {eq eq_:Span→Span→Option Bool} (h_eq:∀ z0 z1,Le (eq z0 z1) (eq_ z0 z1)):Le (ZS s1' s2' eq) (ZD s1' s2' eq_):=by
 unfold ZS ZD
 repeat' (with_reducible (first | exact Le.refl _ | exact h_eq _ _ | exact h_eq | apply Le.bind | apply Le.cond | apply Le.elim | apply Le.loop | apply Z2H | intro _))
def Z6G (f:Form):Option (Bool) :=
 (Z0K f.Core (fun z0 => some (Z59 z0))).bind fun x1 =>
 some (!x1)
theorem ZBZ {f:Form}:Le (Z6G f) (Z3i f):=by
 unfold Z6G Z3i
 repeat' (with_reducible (first | exact Le.refl _ | apply Le.bind | apply Z1V | intro _))
def Z0f.s0 (p1':Int) {S:Type} (yield:S→Int→Option (S × Bool)) (s1:Int × S):Option ((Int × S) ⊕ (Jx (S) (S))) :=
 (bif (decide (s1.1≤p1')) then
  (nz? s1.1).bind fun u1 =>
  (
   (bif ((p1'.tmod s1.1) == 0) then
    (yield s1.2 s1.1).bind fun x1 =>
    some ((!x1.2),x1.1)
   else
    some (false,s1.2))).bind fun (y2:Bool × S) =>
  (bif y2.1 then
   some (.inr (.ret y2.2))
  else
   some (.inl ((w64 (s1.1 + 1)),y2.2)))
 else
  some (.inr (.go s1.2)))
theorem Z6J {p1':Int} {S:Type} {yield yield_:S→Int→Option (S × Bool)} {s1:Int × S} (h_yield:∀ z0 z1,Le (yield z0 z1) (yield_ z0 z1)):Le (Z0f.s0 p1' yield s1) (Zs.s0 p1' yield_ s1):=by
 unfold Z0f.s0 Zs.s0
 repeat' (with_reducible (first | exact Le.refl _ | exact h_yield _ _ | exact h_yield | apply Le.bind | apply Le.cond | intro _))
def Z0f {S:Type} (p1':Int) (yield:S→Int→Option (S × Bool)) (st':S):Option (S) :=
 (Z11 (Z0f.s0 p1' yield) (1,st')).bind fun (y1:Jx (S) (S)) =>
 y1.elim (fun r' =>
   some r') fun a2 =>
 some a2
theorem Z7W {S:Type} {p1':Int} {yield yield_:S→Int→Option (S × Bool)} {st':S} (h_yield:∀ z0 z1,Le (yield z0 z1) (yield_ z0 z1)):Le (Z0f p1' yield st') (Zs p1' yield_ st'):=by
 unfold Z0f Zs
 repeat' (with_reducible (first | exact Le.refl _ | exact h_yield _ _ | exact h_yield | apply Le.bind | apply Le.elim | apply Le.loop | apply Z6J | intro _))
def Z4M (a:(List Span)) (b:(List Span)) (by':Int):Option (Bool) :=
 (ZS a b (fun z0 z1 => some (Z1d z0 z1 by'))).bind fun x1 =>
 some x1
theorem Z96 {a:(List Span)} {b:(List Span)} {by':Int}:Le (Z4M a b by') (Z2E a b by'):=by
 unfold Z4M Z2E
 repeat' (with_reducible (first | exact Le.refl _ | apply Le.bind | apply Z2R | intro _))
def Z2G.s0 (f:Form) (d:Int) (by':Int) (s1:Int):Option ((Int) ⊕ (Jx (Unit) (Bool))) :=
 (bif (decide (s1 < (f.Core.length:Int))) then
  (
   (
    (at? f.Core s1).bind fun x1 =>
    (
     (bif (decide ((w64 (s1 + d)) ≥ f.Count)) then
      some ((w64 ((w64 (s1 + d)) - f.Count)),f.Period)
     else
      some ((w64 (s1 + d)),0))).bind fun (y4:Int × Int) =>
    (at? f.Core y4.1).bind fun x2 =>
    (Z4M x1 x2 (w64 (by' - y4.2))).bind fun x3 =>
    (bif (!x3) then
     some (.ret false)
    else
     some (.go ()))).bind fun (y3:Jx (Unit) (Bool)) =>
   y3.elim (fun r' =>
     some (.ret r')) fun a4 =>
   some (.go ())).bind fun (y2:Jx (Unit) (Bool)) =>
  y2.elim (fun r' =>
    some (.inr (.ret r'))) fun a5 =>
  some (.inl (w64 (s1 + 1)))
 else
  some (.inr (.go ())))
theorem Z97 {f:Form} {d:Int} {by':Int} {s1:Int}:Le (Z2G.s0 f d by' s1) (Z0u.s0 f d by' s1):=by
 unfold Z2G.s0 Z0u.s0
 repeat' (with_reducible (first | exact Le.refl _ | apply Le.bind | apply Le.cond | apply Le.elim | apply Z96 | intro _))
def Z2G (f:Form) (d:Int) (by':Int):Option (Bool) :=
 (Z11 (Z2G.s0 f d by') 0).bind fun (y1:Jx (Unit) (Bool)) =>
 y1.elim (fun r' =>
   some r') fun a6 =>
 some true
theorem ZBh {f:Form} {d:Int} {by':Int}:Le (Z2G f d by') (Z0u f d by'):=by
 unfold Z2G Z0u
 repeat' (with_reducible (first | exact Le.refl _ | apply Le.bind | apply Le.elim | apply Le.loop | apply Z97 | intro _))
def Z2F.b0 (f:Form) (s2:(List (List Span)) × Int × Int) (z2:Int):Option (((List (List Span)) × Int × Int) × Nat) :=
 (nz? z2).bind fun u1 =>
 (Z0P f.Period (w64 (f.Count.tdiv z2))).bind fun x2 =>
 (
  (bif (x2.2.1 != 0) then
   some true
  else
   (Z2G f z2 x2.1).bind fun x3 =>
   some (!x3))).bind fun (y3:Bool) =>
 (bif y3 then
  some ((s2.1,s2.2.1,s2.2.2),0)
 else
  (cut? f.Core 0 z2).bind fun x4 =>
  (Z11 (Zp.s1 x4) (0,s2.1)).bind fun (y4:(List (List Span))) =>
  some ((y4,x2.1,z2),1))
theorem Z9P {f:Form} {s2:(List (List Span)) × Int × Int} {z2:Int}:Le (Z2F.b0 f s2 z2) (Zp.b0 f s2 z2):=by
 unfold Z2F.b0 Zp.b0
 repeat' (with_reducible (first | exact Le.refl _ | apply Le.bind | apply Le.cond | apply Le.loop | apply ZBh | intro _))
def Z2F (f:Form):Option (Form) :=
 (Z6G f).bind fun x1 =>
 (bif x1 then
  some (Form.mk 0 0 [] [])
 else
  (
   (Z0f f.Count (Z3L (Z2F.b0 f)) (([],0,0),0)).bind fun (y2:((List (List Span)) × Int × Int) × Nat) =>
   (bif (y2.2 == 0) then
    some (y2.1.1,y2.1.2.1,y2.1.2.2)
   else
    some (y2.1.1,y2.1.2.1,y2.1.2.2))).bind fun (y1:(List (List Span)) × Int × Int) =>
  some (Form.mk y1.2.1 y1.2.2 y1.1 []))
theorem ZBf {f:Form}:Le (Z2F f) (Zp f):=by
 unfold Z2F Zp
 repeat' (with_reducible (first | exact Le.refl _ | apply Le.bind | apply Le.cond | refine Le.Z3L ?_ _ _ | apply ZBZ | apply Z7W | apply Z9P | intro _))
def Z5b (f:Form) (g:Granule):Option (Bool) :=
 (Z2v f g.Index).bind fun x1 =>
 (
  (bif (x1.2 == 0) then
   (Z6F x1.1 g.Ticks).bind fun x2 =>
   some x2
  else
   some false)).bind fun (y1:Bool) =>
 some y1
theorem ZAl {f:Form} {g:Granule}:Le (Z5b f g) (Z2z f g):=by
 unfold Z5b Z2z
 repeat' (with_reducible (first | exact Le.refl _ | apply Le.bind | apply Le.cond | apply Z6D | apply ZBn | intro _))
def Z1l.s0 (f:Form) (x1:Form) (s2:Int × (List Granule)):Option ((Int × (List Granule)) ⊕ ((List Granule))) :=
 (bif (decide (s2.1 < (f.Odd.length:Int))) then
  (
   (
    (at? f.Odd s2.1).bind fun x2 =>
    (Z5b x1 x2).bind fun x3 =>
    (bif (!x3) then
     (clone? 16 x2.Ticks).bind fun x4 =>
     (app? 32 s2.2 [(Granule.mk x2.Index x4)]).bind fun x5 =>
     some x5
    else
     some s2.2)).bind fun (y3:(List Granule)) =>
   some y3).bind fun (y2:(List Granule)) =>
  some (.inl ((w64 (s2.1 + 1)),y2))
 else
  some (.inr s2.2))
theorem Z8s {f:Form} {x1:Form} {s2:Int × (List Granule)}:Le (Z1l.s0 f x1 s2) (Zi.s0 f x1 s2):=by
 unfold Z1l.s0 Zi.s0
 repeat' (with_reducible (first | exact Le.refl _ | apply Le.bind | apply Le.cond | apply ZAl | intro _))
def Z1l (f:Form):Option (Form) :=
 (Z2F f).bind fun x1 =>
 (Z11 (Z1l.s0 f x1) (0,[])).bind fun (y1:(List Granule)) =>
 some (Form.mk x1.Period x1.Count x1.Core y1)
theorem Z7P {f:Form}:Le (Z1l f) (Zi f):=by
 unfold Z1l Zi
 repeat' (with_reducible (first | exact Le.refl _ | apply Le.bind | apply Le.loop | apply ZBf | apply Z8s | intro _))
def Z43 (f:Form):Option (size_form) :=
 (Z1l f).bind fun x1 =>
 (Z11 (Z1M.s0 x1) (0,[])).bind fun (y1:(List size_spot)) =>
 some (size_form.mk x1 y1)
theorem Z5O {f:Form}:Le (Z43 f) (Z1M f):=by
 unfold Z43 Z1M
 repeat' (with_reducible (first | exact Le.refl _ | apply Le.bind | apply Le.loop | apply Z7P | intro _))
def Z1T.s0 (f:Int→Option Bool) (s1:Int × Int):Option ((Int × Int) ⊕ (Int)) :=
 (bif (decide (s1.1 < s1.2)) then
  (
   (f (w64 ((IntKind.u64.wrap (w64 (s1.1 + s1.2))).fdiv (2 ^ 1)))).bind fun x1 =>
   (bif (!x1) then
    some ((w64 ((w64 ((IntKind.u64.wrap (w64 (s1.1 + s1.2))).fdiv (2 ^ 1))) + 1)),s1.2)
   else
    some (s1.1,(w64 ((IntKind.u64.wrap (w64 (s1.1 + s1.2))).fdiv (2 ^ 1)))))).bind fun (y2:Int × Int) =>
  some (.inl (y2.1,y2.2))
 else
  some (.inr s1.1))
theorem Z8W {f f_:Int→Option Bool} {s1:Int × Int} (h_f:∀ z0,Le (f z0) (f_ z0)):Le (Z1T.s0 f s1) (Z0V.s0 f_ s1):=by
 unfold Z1T.s0 Z0V.s0
 repeat' (with_reducible (first | exact Le.refl _ | exact h_f _ | exact h_f | apply Le.bind | apply Le.cond | intro _))
def Z1T (n:Int) (f:Int→Option Bool):Option (Int) :=
 (Z11 (Z1T.s0 f) (0,n)).bind fun (y1:Int) =>
 some y1
theorem ZAX {n:Int} {f f_:Int→Option Bool} (h_f:∀ z0,Le (f z0) (f_ z0)):Le (Z1T n f) (Z0V n f_):=by
 unfold Z1T Z0V
 repeat' (with_reducible (first | exact Le.refl _ | exact h_f _ | exact h_f | apply Le.bind | apply Le.loop | apply Z8W | intro _))
def Z2m (f:size_form) (t:Int) (up:Bool):Option (Int) :=
 (bif up then
  (at? f.spots (w64 ((f.spots.length:Int) - 1))).bind fun x1 =>
  (Z0P (w64 (x1.place.last - t)) f.Form.Period).bind fun x2 =>
  (Z1T (f.spots.length:Int) (fun z0 => Z1p z0 f x2.1 t)).bind fun x3 =>
  (at? f.spots x3).bind fun x4 =>
  some (w64 (x4.index - (w64 (x2.1 * f.Form.Count))))
 else
  (at? f.spots 0).bind fun x5 =>
  (Z0P (w64 (t - x5.place.first)) f.Form.Period).bind fun x6 =>
  (Z1T (f.spots.length:Int) (fun z0 => Z1o z0 f x6.1 t)).bind fun x7 =>
  (at? f.spots (w64 (x7 - 1))).bind fun x8 =>
  some (w64 (x8.index + (w64 (x6.1 * f.Form.Count)))))
theorem Z4x {f:size_form} {t:Int} {up:Bool}:Le (Z2m f t up) (Z0I f t up):=by
 unfold Z2m Z0I
 repeat' (with_reducible (first | exact Le.refl _ | apply Le.bind | apply Le.cond | apply ZAX | intro _))
def Z3B (f:size_form) (i:Int):Option (Int) :=
 (ZH f.Form.Odd i (fun z0 z1 => some (Z1z z0 z1))).bind fun x1 =>
 (bif (!x1.2) then
  some (-1)
 else
  some x1.1)
theorem Z5Z {f:size_form} {i:Int}:Le (Z3B f i) (Z1Q f i):=by
 unfold Z3B Z1Q
 repeat' (with_reducible (first | exact Le.refl _ | apply Le.bind | apply Le.cond | apply Z0c | intro _))
def Zq.s0 (f:size_form) (y1:Int) (s1:Int):Option ((Int) ⊕ (Int)) :=
 (Z3B f s1).bind fun x2 =>
 (
  (bif (decide (x2 ≥ 0)) then
   some true
  else
   (Z2h f s1).bind fun x3 =>
   some (!x3))).bind fun (y4:Bool) =>
 (bif y4 then
  some (.inl (w64 (s1 + y1)))
 else
  some (.inr s1))
theorem Z6L {f:size_form} {y1:Int} {s1:Int}:Le (Zq.s0 f y1 s1) (Z5.s0 f y1 s1):=by
 unfold Zq.s0 Z5.s0
 repeat' (with_reducible (first | exact Le.refl _ | apply Le.bind | apply Le.cond | apply Z5Z | intro _))
def Zq.s2 (f:size_form) (t:Int) (up:Bool) (y1:Int) (s3:Int × Int × Bool):Option ((Int × Int × Bool) ⊕ (Int × Bool)) :=
 (bif (decide (s3.1 < (f.Form.Odd.length:Int))) then
  (
   (
    (at? f.Form.Odd s3.1).bind fun x5 =>
    (Z09 x5.Ticks).bind fun x6 =>
    (bif (x6.2 && ((up && (decide (x6.1.To ≥ t))) || ((!up) && (decide (x6.1.From≤t))))) then
     (
      (Z11 (Z5.s3) (([(w64 ((w64 (0 - y1)) * x5.Index))].length:Int),0,[(w64 ((w64 (0 - y1)) * x5.Index))],s3.2.1,s3.2.2)).bind fun (y13:(List Int) × Int × Bool) =>
      some (y13.1,y13.2.1,y13.2.2)).bind fun (y12:(List Int) × Int × Bool) =>
     some (y12.2.1,y12.2.2)
    else
     some (s3.2.1,s3.2.2))).bind fun (y11:Int × Bool) =>
   some (y11.1,y11.2)).bind fun (y10:Int × Bool) =>
  some (.inl ((w64 (s3.1 + 1)),y10.1,y10.2))
 else
  some (.inr (s3.2.1,s3.2.2)))
theorem Z6a {f:size_form} {t:Int} {up:Bool} {y1:Int} {s3:Int × Int × Bool}:Le (Zq.s2 f t up y1 s3) (Z5.s2 f t up y1 s3):=by
 unfold Zq.s2 Z5.s2
 repeat' (with_reducible (first | exact Le.refl _ | apply Le.bind | apply Le.cond | apply Le.loop | intro _))
def Zq (f:size_form) (t:Int) (up:Bool):Option (Int × Bool) :=
 (
  (bif up then
   some 1
  else
   some (-1))).bind fun (y1:Int) =>
 (
  (bif (decide (f.Form.Count > 0)) then
   (Z2m f t up).bind fun x1 =>
   (Z11 (Zq.s0 f y1) x1).bind fun (y3:Int) =>
   (
    (Z11 (Z5.s1) (([(w64 ((w64 (0 - y1)) * y3))].length:Int),0,[(w64 ((w64 (0 - y1)) * y3))],0,false)).bind fun (y6:(List Int) × Int × Bool) =>
    some (y6.1,y6.2.1,y6.2.2)).bind fun (y5:(List Int) × Int × Bool) =>
   some (y5.2.1,y5.2.2)
  else
   some (0,false))).bind fun (y2:Int × Bool) =>
 (Z11 (Zq.s2 f t up y1) (0,y2.1,y2.2)).bind fun (y9:Int × Bool) =>
 some ((w64 ((w64 (0 - y1)) * y9.1)),y9.2)
theorem Z7y {f:size_form} {t:Int} {up:Bool}:Le (Zq f t up) (Z5 f t up):=by
 unfold Zq Z5
 repeat' (with_reducible (first | exact Le.refl _ | apply Le.bind | apply Le.cond | apply Le.loop | apply Z4x | apply Z6L | apply Z6a | intro _))
def Z1B.s0 (d:Int) (up:Bool) (x1:size_form) (y1:Int) (s1:Int × Int × Bool):Option ((Int × Int × Bool) ⊕ (Int × Bool)) :=
 (bif (decide (s1.1 < (x1.spots.length:Int))) then
  (
   (
    (at? x1.spots s1.1).bind fun x2 =>
    (
     (bif up then
      some x2.place.first
     else
      some x2.place.last)).bind fun (y5:Int) =>
    (Z2m x1 (w64 (y5 + d)) up).bind fun x3 =>
    (
     (Z11 (ZQ.s1) (([(w64 (y1 * (w64 (x3 - x2.index))))].length:Int),0,[(w64 (y1 * (w64 (x3 - x2.index))))],s1.2.1,s1.2.2)).bind fun (y7:(List Int) × Int × Bool) =>
     some (y7.1,y7.2.1,y7.2.2)).bind fun (y6:(List Int) × Int × Bool) =>
    some (y6.2.1,y6.2.2)).bind fun (y4:Int × Bool) =>
   some (y4.1,y4.2)).bind fun (y3:Int × Bool) =>
  some (.inl ((w64 (s1.1 + 1)),y3.1,y3.2))
 else
  some (.inr (s1.2.1,s1.2.2)))
theorem ZAn {d:Int} {up:Bool} {x1:size_form} {y1:Int} {s1:Int × Int × Bool}:Le (Z1B.s0 d up x1 y1 s1) (ZQ.s0 d up x1 y1 s1):=by
 unfold Z1B.s0 ZQ.s0
 repeat' (with_reducible (first | exact Le.refl _ | apply Le.bind | apply Le.cond | apply Le.loop | apply Z4x | intro _))
def Z1B.s2 (d:Int) (up:Bool) (x1:size_form) (y1:Int) (s3:Int × Int × Bool):Option ((Int × Int × Bool) ⊕ (Int × Bool)) :=
 (bif (decide (s3.1 < (x1.Form.Odd.length:Int))) then
  (
   (
    (at? x1.Form.Odd s3.1).bind fun x5 =>
    (Z09 x5.Ticks).bind fun x6 =>
    (bif (!x6.2) then
     some (.ret ())
    else
     (
      (bif up then
       some (x6.1.To,x6.1.From)
      else
       some (x6.1.From,x6.1.To))).bind fun (y13:Int × Int) =>
     (
      (Zq x1 (w64 (y13.2 + d)) up).bind fun x7 =>
      (bif x7.2 then
       (
        (Z11 (ZQ.s3) (([(w64 (y1 * (w64 (x7.1 - x5.Index))))].length:Int),0,[(w64 (y1 * (w64 (x7.1 - x5.Index))))],s3.2.1,s3.2.2)).bind fun (y16:(List Int) × Int × Bool) =>
        some (y16.1,y16.2.1,y16.2.2)).bind fun (y15:(List Int) × Int × Bool) =>
       some (y15.2.1,y15.2.2)
      else
       some (s3.2.1,s3.2.2))).bind fun (y14:Int × Bool) =>
     (Zq x1 (w64 (y13.1 - d)) (!up)).bind fun x9 =>
     (bif x9.2 then
      (
       (Z11 (ZQ.s4) (([(w64 (y1 * (w64 (x5.Index - x9.1))))].length:Int),0,[(w64 (y1 * (w64 (x5.Index - x9.1))))],y14.1,y14.2)).bind fun (y20:(List Int) × Int × Bool) =>
       some (y20.1,y20.2.1,y20.2.2)).bind fun (y19:(List Int) × Int × Bool) =>
      some (.go (y19.2.1,y19.2.2))
     else
      some (.go (y14.1,y14.2))))).bind fun (y12:Jx (Int × Bool) (Unit)) =>
   y12.elim (fun a4 =>
     some (s3.2.1,s3.2.2)) fun a3 =>
   some (a3.1,a3.2)).bind fun (y11:Int × Bool) =>
  some (.inl ((w64 (s3.1 + 1)),y11.1,y11.2))
 else
  some (.inr (s3.2.1,s3.2.2)))
theorem ZAu {d:Int} {up:Bool} {x1:size_form} {y1:Int} {s3:Int × Int × Bool}:Le (Z1B.s2 d up x1 y1 s3) (ZQ.s2 d up x1 y1 s3):=by
 unfold Z1B.s2 ZQ.s2
 repeat' (with_reducible (first | exact Le.refl _ | apply Le.bind | apply Le.cond | apply Le.elim | apply Le.loop | apply Z7y | intro _))
def Z1B (g:Form) (d:Int) (up:Bool):Option (Int × Bool × Int) :=
 (bif (!(Z0r d)) then
  some (0,false,2)
 else
  (Z43 g).bind fun x1 =>
  (
   (bif up then
    some (-1)
   else
    some 1)).bind fun (y1:Int) =>
  (Z11 (Z1B.s0 d up x1 y1) (0,0,false)).bind fun (y2:Int × Bool) =>
  (Z11 (Z1B.s2 d up x1 y1) (0,y2.1,y2.2)).bind fun (y10:Int × Bool) =>
  some ((w64 (y1 * y10.1)),y10.2,0))
theorem Z8f {g:Form} {d:Int} {up:Bool}:Le (Z1B g d up) (ZQ g d up):=by
 unfold Z1B ZQ
 repeat' (with_reducible (first | exact Le.refl _ | apply Le.bind | apply Le.cond | apply Le.loop | apply Z5O | apply ZAn | apply ZAu | intro _))
def Z41 (f:Form) (d:Int):Option (Int × Bool × Int) :=
 (Z1B f d false).bind fun x1 =>
 some (x1.1,x1.2.1,x1.2.2)
theorem ZCc {f:Form} {d:Int}:Le (Z41 f d) (Z18 f d):=by
 unfold Z41 Z18
 repeat' (with_reducible (first | exact Le.refl _ | apply Le.bind | apply Z8f | intro _))
def Z7O (f:Form) (d:Int):Option (Int × Bool × Int) :=
 (Z1B f d true).bind fun x1 =>
 some (x1.1,x1.2.1,x1.2.2)
theorem evle_size_Up {f:Form} {d:Int}:Le (Z7O f d) (Z2n f d):=by
 unfold Z7O Z2n
 repeat' (with_reducible (first | exact Le.refl _ | apply Le.bind | apply Z8f | intro _))
def Z1y (f:size_form) (i:Int):Option (size_place × Bool × Int) :=
 (Z3B f i).bind fun x1 =>
 (bif (decide (x1 ≥ 0)) then
  (at? f.Form.Odd x1).bind fun x2 =>
  (Z09 x2.Ticks).bind fun x3 =>
  some ((size_place.mk x3.1.From x3.1.To),x3.2,0)
 else
  (Zx f i).bind fun x4 =>
  some (x4.1,x4.2.1,x4.2.2))
theorem ZAB {f:size_form} {i:Int}:Le (Z1y f i) (Z01 f i):=by
 unfold Z1y Z01
 repeat' (with_reducible (first | exact Le.refl _ | apply Le.bind | apply Le.cond | apply Z5Z | intro _))
def Zy.s0 (f:size_form) (k:Int) (tell:size_place→size_place→Option (Int × Int)) (s1:Int × Int × Bool):Option ((Int × Int × Bool) ⊕ (Jx (Int × Bool) (Int × Bool × Int))) :=
 (bif (decide (s1.1 < f.Form.Count)) then
  (
   (Zx f s1.1).bind fun x1 =>
   (bif ((x1.2.2 != 0) || (!x1.2.1)) then
    some (x1.2.2,s1.2.1,s1.2.2)
   else
    (Zx f (w64 (s1.1 + k))).bind fun x2 =>
    (bif ((x2.2.2 != 0) || (!x2.2.1)) then
     some (x2.2.2,s1.2.1,s1.2.2)
    else
     (tell x1.1 x2.1).bind fun x3 =>
     (
      (bif (x3.2 == 0) then
       (
        (Z11 (Z7.s1 x3) (0,s1.2.1,s1.2.2)).bind fun (y5:Int × Bool) =>
        some (y5.1,y5.2)).bind fun (y4:Int × Bool) =>
       some (y4.1,y4.2)
      else
       some (s1.2.1,s1.2.2))).bind fun (y3:Int × Bool) =>
     some (x3.2,y3.1,y3.2)))).bind fun (y2:Int × Int × Bool) =>
  (bif (y2.1 != 0) then
   some (.inr (.ret (0,false,10)))
  else
   some (.inl ((w64 (s1.1 + 1)),y2.2.1,y2.2.2)))
 else
  some (.inr (.go (s1.2.1,s1.2.2))))
theorem Z7D {f:size_form} {k:Int} {tell tell_:size_place→size_place→Option (Int × Int)} {s1:Int × Int × Bool} (h_tell:∀ z0 z1,Le (tell z0 z1) (tell_ z0 z1)):Le (Zy.s0 f k tell s1) (Z7.s0 f k tell_ s1):=by
 unfold Zy.s0 Z7.s0
 repeat' (with_reducible (first | exact Le.refl _ | exact h_tell _ _ | exact h_tell | apply Le.bind | apply Le.cond | apply Le.loop | intro _))
def Zy.s2 (f:size_form) (k:Int) (tell:size_place→size_place→Option (Int × Int)) (s3:Int × Int × Bool):Option ((Int × Int × Bool) ⊕ (Jx (Int × Bool) (Int × Bool × Int))) :=
 (bif (decide (s3.1 < (f.Form.Odd.length:Int))) then
  (
   (at? f.Form.Odd s3.1).bind fun x5 =>
   (bif ((x5.Ticks.length:Int) == 0) then
    some (.go (s3.2.1,s3.2.2))
   else
    (
     (Z1y f x5.Index).bind fun x6 =>
     (bif ((x6.2.2 != 0) || (!x6.2.1)) then
      some (x6.2.2,s3.2.1,s3.2.2)
     else
      (Z1y f (w64 (x5.Index + k))).bind fun x7 =>
      (bif ((x7.2.2 != 0) || (!x7.2.1)) then
       some (x7.2.2,s3.2.1,s3.2.2)
      else
       (tell x6.1 x7.1).bind fun x8 =>
       (
        (bif (x8.2 == 0) then
         (
          (Z11 (Z7.s3 x8) (0,s3.2.1,s3.2.2)).bind fun (y13:Int × Bool) =>
          some (y13.1,y13.2)).bind fun (y12:Int × Bool) =>
         some (y12.1,y12.2)
        else
         some (s3.2.1,s3.2.2))).bind fun (y11:Int × Bool) =>
       some (x8.2,y11.1,y11.2)))).bind fun (y10:Int × Int × Bool) =>
    (
     (bif (y10.1 != 0) then
      some (true,(y10.2.1,y10.2.2))
     else
      (
       (Z1y f (w64 (x5.Index - k))).bind fun x10 =>
       (bif ((x10.2.2 != 0) || (!x10.2.1)) then
        some (x10.2.2,y10.2.1,y10.2.2)
       else
        (Z1y f (w64 ((w64 (x5.Index - k)) + k))).bind fun x11 =>
        (bif ((x11.2.2 != 0) || (!x11.2.1)) then
         some (x11.2.2,y10.2.1,y10.2.2)
        else
         (tell x10.1 x11.1).bind fun x12 =>
         (
          (bif (x12.2 == 0) then
           (
            (Z11 (Z7.s4 x12) (0,y10.2.1,y10.2.2)).bind fun (y20:Int × Bool) =>
            some (y20.1,y20.2)).bind fun (y19:Int × Bool) =>
           some (y19.1,y19.2)
          else
           some (y10.2.1,y10.2.2))).bind fun (y18:Int × Bool) =>
         some (x12.2,y18.1,y18.2)))).bind fun (y17:Int × Int × Bool) =>
      some ((y17.1 != 0),(y17.2.1,y17.2.2)))).bind fun (y16:Bool × Int × Bool) =>
    (bif y16.1 then
     some (.ret (0,false,10))
    else
     some (.go (y16.2.1,y16.2.2))))).bind fun (y9:Jx (Int × Bool) (Int × Bool × Int)) =>
  y9.elim (fun r' =>
    some (.inr (.ret r'))) fun a5 =>
  some (.inl ((w64 (s3.1 + 1)),a5.1,a5.2))
 else
  some (.inr (.go (s3.2.1,s3.2.2))))
theorem Z6t {f:size_form} {k:Int} {tell tell_:size_place→size_place→Option (Int × Int)} {s3:Int × Int × Bool} (h_tell:∀ z0 z1,Le (tell z0 z1) (tell_ z0 z1)):Le (Zy.s2 f k tell s3) (Z7.s2 f k tell_ s3):=by
 unfold Zy.s2 Z7.s2
 repeat' (with_reducible (first | exact Le.refl _ | exact h_tell _ _ | exact h_tell | apply Le.bind | apply Le.cond | apply Le.elim | apply Le.loop | apply ZAB | intro _))
def Zy (f:size_form) (k:Int) (tell:size_place→size_place→Option (Int × Int)):Option (Int × Bool × Int) :=
 (Z11 (Zy.s0 f k tell) (0,0,false)).bind fun (y1:Jx (Int × Bool) (Int × Bool × Int)) =>
 y1.elim (fun r' =>
   some r') fun a2 =>
 (Z11 (Zy.s2 f k tell) (0,a2.1,a2.2)).bind fun (y8:Jx (Int × Bool) (Int × Bool × Int)) =>
 y8.elim (fun r' =>
   some r') fun a6 =>
 some (a6.1,a6.2,0)
theorem Z4w {f:size_form} {k:Int} {tell tell_:size_place→size_place→Option (Int × Int)} (h_tell:∀ z0 z1,Le (tell z0 z1) (tell_ z0 z1)):Le (Zy f k tell) (Z7 f k tell_):=by
 unfold Zy Z7
 repeat' (with_reducible (first | exact Le.refl _ | exact h_tell _ _ | exact h_tell | apply Le.bind | apply Le.elim | apply Le.loop | apply Z7D | apply Z6t | intro _))
def Z2g (f:Form) (k:Int):Option (Int × Bool × Int) :=
 (bif (!(Z0r k)) then
  some (0,false,2)
 else
  (Z43 f).bind fun x1 =>
  (Zy x1 k (fun z0 z1 => some (Z2b z0 z1))).bind fun x2 =>
  some ((w64 (0 - x2.1)),x2.2.1,x2.2.2))
theorem ZBi {f:Form} {k:Int}:Le (Z2g f k) (Z1b f k):=by
 unfold Z2g Z1b
 repeat' (with_reducible (first | exact Le.refl _ | apply Le.bind | apply Le.cond | apply Z5O | apply Z4w | intro _))
def Z55 (f:Form) (k:Int):Option (Int × Bool × Int) :=
 (bif (!(Z0r k)) then
  some (0,false,2)
 else
  (Z43 f).bind fun x1 =>
  (Zy x1 k (fun z0 z1 => some (Z2p z0 z1))).bind fun x2 =>
  some (x2.1,x2.2.1,x2.2.2))
theorem ZCV {f:Form} {k:Int}:Le (Z55 f k) (Z2j f k):=by
 unfold Z55 Z2j
 repeat' (with_reducible (first | exact Le.refl _ | apply Le.bind | apply Le.cond | apply Z5O | apply Z4w | intro _))
def Z1N.s0 {S:Type} (p1':Int) (p2':Int→Option ((List Span) × Int)) (p3':Int) (yield:S→((List Span) × Int)→Option (S × Bool)) (s1:Int × S):Option ((Int × S) ⊕ (Jx (S) (S))) :=
 (bif (decide (s1.1 < p1')) then
  (p2' (w64 (p3' + s1.1))).bind fun x1 =>
  (yield s1.2 (x1.1,x1.2)).bind fun x2 =>
  (bif (!x2.2) then
   some (.inr (.ret x2.1))
  else
   some (.inl ((w64 (s1.1 + 1)),x2.1)))
 else
  some (.inr (.go s1.2)))
theorem Z7V {S:Type} {p1':Int} {p2' p2'_:Int→Option ((List Span) × Int)} {p3':Int} {yield yield_:S→((List Span) × Int)→Option (S × Bool)} {s1:Int × S} (h_p2':∀ z0,Le (p2' z0) (p2'_ z0)) (h_yield:∀ z0 z1,Le (yield z0 z1) (yield_ z0 z1)):Le (Z1N.s0 p1' p2' p3' yield s1) (Z12.s0 p1' p2'_ p3' yield_ s1):=by
 unfold Z1N.s0 Z12.s0
 repeat' (with_reducible (first | exact Le.refl _ | exact h_p2' _ | exact h_yield _ _ | exact h_p2' | exact h_yield | apply Le.bind | apply Le.cond | intro _))
def Z1N {S:Type} (p1':Int) (p2':Int→Option ((List Span) × Int)) (p3':Int) (yield:S→((List Span) × Int)→Option (S × Bool)) (st':S):Option (S) :=
 (Z11 (Z1N.s0 p1' p2' p3' yield) (0,st')).bind fun (y1:Jx (S) (S)) =>
 y1.elim (fun r' =>
   some r') fun a2 =>
 some a2
theorem Z9S {S:Type} {p1':Int} {p2' p2'_:Int→Option ((List Span) × Int)} {p3':Int} {yield yield_:S→((List Span) × Int)→Option (S × Bool)} {st':S} (h_p2':∀ z0,Le (p2' z0) (p2'_ z0)) (h_yield:∀ z0 z1,Le (yield z0 z1) (yield_ z0 z1)):Le (Z1N p1' p2' p3' yield st') (Z12 p1' p2'_ p3' yield_ st'):=by
 unfold Z1N Z12
 repeat' (with_reducible (first | exact Le.refl _ | exact h_p2' _ | exact h_yield _ _ | exact h_p2' | exact h_yield | apply Le.bind | apply Le.elim | apply Le.loop | apply Z7V | intro _))
def Z2Z (tell:Int→Option ((List Span) × Int)) (from':Int) (many:Int):Option ((List Span) × Int) :=
 (
  some ()).bind fun (y1:Unit) =>
 (Z1N many tell from' (Z3L Z0T.b0) (([],0),0)).bind fun (y2:((List Span) × Int) × Nat) =>
 (bif (y2.2 == 0) then
  some (y2.1.1,0)
 else
  some ([],y2.1.2))
theorem Z4n {tell tell_:Int→Option ((List Span) × Int)} {from':Int} {many:Int} (h_tell:∀ z0,Le (tell z0) (tell_ z0)):Le (Z2Z tell from' many) (Z0T tell_ from' many):=by
 unfold Z2Z Z0T
 repeat' (with_reducible (first | exact Le.refl _ | exact h_tell _ | exact h_tell | apply Le.bind | apply Le.cond | refine Le.Z3L ?_ _ _ | apply Z9S | intro _))
def Z69 (f:Form) (i:Int):Option ((List Span) × Int) :=
 (bif (f.Count == 0) then
  some ([],0)
 else
  (Z0P i f.Count).bind fun x1 =>
  (at? f.Core x1.2.1).bind fun x2 =>
  (bif ((x2.length:Int) == 0) then
   some ([],0)
  else
   (bif ((x1.2.2 != 0) || (((ZL x1.1 f.Period).2) != 0)) then
    some ([],20)
   else
    (at? f.Core x1.2.1).bind fun x3 =>
    (Z4R x3 ((ZL x1.1 f.Period).1)).bind fun x4 =>
    some (x4.1,x4.2))))
theorem ZBk {f:Form} {i:Int}:Le (Z69 f i) (Z5R f i):=by
 unfold Z69 Z5R
 repeat' (with_reducible (first | exact Le.refl _ | apply Le.bind | apply Le.cond | apply Z7S | intro _))
def Z3x (i:Int) (p1':Form):Option ((List Span) × Int) :=
 (Z69 p1' i).bind fun x1 =>
 some (x1.1,x1.2)
theorem Z8V {i:Int} {p1':Form}:Le (Z3x i p1') (Z30 i p1'):=by
 unfold Z3x Z30
 repeat' (with_reducible (first | exact Le.refl _ | apply Le.bind | apply ZBk | intro _))
def Z1c.s1 (f:Form) (m:Int) (x1:Int × Int) (s3:Int × (List (List Span))):Option ((Int × (List (List Span))) ⊕ (Jx ((List (List Span)) × Int) (Int))) :=
 (bif (decide (s3.1 < x1.1)) then
  (Z2Z (fun z0 => Z3x z0 f) (w64 (s3.1 * m)) m).bind fun x3 =>
  (bif (x3.2 != 0) then
   some (.inr (.ret x3.2))
  else
   (app? 24 s3.2 [x3.1]).bind fun x4 =>
   some (.inl ((w64 (s3.1 + 1)),x4)))
 else
  some (.inr (.go (s3.2,(ZL f.Period (w64 (x1.2.tdiv f.Count))).1))))
theorem Z7w {f:Form} {m:Int} {x1:Int × Int} {s3:Int × (List (List Span))}:Le (Z1c.s1 f m x1 s3) (Z0W.s1 f m x1 s3):=by
 unfold Z1c.s1 Z0W.s1
 repeat' (with_reducible (first | exact Le.refl _ | apply Le.bind | apply Le.cond | apply Z4n | apply Z8V | intro _))
def Z1c (f:Form) (m:Int):Option (Form × Int) :=
 (Z4Y f m).bind fun x1 =>
 (bif (x1.1 == 0) then
  some ((Form.mk 0 0 [] []),0)
 else
  (Z11 (Z0W.s0 f) (0,0)).bind fun (y1:Int) =>
  (nz? f.Count).bind fun u1 =>
  (bif (decide ((w64 (y1 * (w64 (x1.2.tdiv f.Count)))) > 60000)) then
   some ((Form.mk 0 0 [] []),3)
  else
   (nz? f.Count).bind fun u2 =>
   (bif ((((ZL f.Period (w64 (x1.2.tdiv f.Count))).2) != 0) || (decide (((ZL f.Period (w64 (x1.2.tdiv f.Count))).1) > 1099511627776))) then
    some ((Form.mk 0 0 [] []),20)
   else
    (Z11 (Z1c.s1 f m x1) (0,[])).bind fun (y2:Jx ((List (List Span)) × Int) (Int)) =>
    y2.elim (fun a4 =>
      some ((Form.mk 0 0 [] []),a4)) fun a3 =>
    some ((Form.mk a3.2 x1.1 a3.1 []),0))))
theorem ZAG {f:Form} {m:Int}:Le (Z1c f m) (Z0W f m):=by
 unfold Z1c Z0W
 repeat' (with_reducible (first | exact Le.refl _ | apply Le.bind | apply Le.cond | apply Le.elim | apply Le.loop | apply Z7w | intro _))
def Z5h (f:Form):Option (Form × Int) :=
 (Z2B f).bind fun x1 =>
 (bif (x1 == 0) then
  (Z1l f).bind fun x2 =>
  some (x2,0)
 else
  (bif (x1 == 3) then
   some ((Form.mk 0 0 [] []),3)
  else
   some ((Form.mk 0 0 [] []),20)))
theorem ZAd {f:Form}:Le (Z5h f) (Z4e f):=by
 unfold Z5h Z4e
 repeat' (with_reducible (first | exact Le.refl _ | apply Le.bind | apply Le.cond | apply ZBX | apply Z7P | intro _))
def Z44 (i:Int) (p1':Form):Option ((List Span) × Int) :=
 (Z2v p1' i).bind fun x1 =>
 some (x1.1,x1.2)
theorem Z8M {i:Int} {p1':Form}:Le (Z44 i p1') (Z33 i p1'):=by
 unfold Z44 Z33
 repeat' (with_reducible (first | exact Le.refl _ | apply Le.bind | apply Z6D | intro _))
def Z1X.s0 (f:Form) (m:Int) (s2:Int × (List Granule)):Option ((Int × (List Granule)) ⊕ (Jx ((List Granule)) (Form × Int))) :=
 (bif (decide (s2.1 < (f.Odd.length:Int))) then
  (
   (at? f.Odd s2.1).bind fun x2 =>
   (Z0P x2.Index m).bind fun x3 =>
   (
    (bif (decide ((s2.2.length:Int) > 0)) then
     (at? s2.2 (w64 ((s2.2.length:Int) - 1))).bind fun x4 =>
     some (x4.Index == x3.1)
    else
     some false)).bind fun (y3:Bool) =>
   (bif y3 then
    some (.go s2.2)
   else
    (Z2Z (fun z0 => Z44 z0 f) (w64 (x3.1 * m)) m).bind fun x5 =>
    (bif (x5.2 != 0) then
     some (.ret ((Form.mk 0 0 [] []),20))
    else
     (app? 32 s2.2 [(Granule.mk x3.1 x5.1)]).bind fun x6 =>
     some (.go x6)))).bind fun (y2:Jx ((List Granule)) (Form × Int)) =>
  y2.elim (fun r' =>
    some (.inr (.ret r'))) fun a3 =>
  some (.inl ((w64 (s2.1 + 1)),a3))
 else
  some (.inr (.go s2.2)))
theorem Z80 {f:Form} {m:Int} {s2:Int × (List Granule)}:Le (Z1X.s0 f m s2) (Z1R.s0 f m s2):=by
 unfold Z1X.s0 Z1R.s0
 repeat' (with_reducible (first | exact Le.refl _ | apply Le.bind | apply Le.cond | apply Le.elim | apply Z4n | apply Z8M | intro _))
def Z1X (f:Form) (m:Int):Option (Form × Int) :=
 (bif ((decide (m < 1)) || (decide (m > 6000))) then
  some ((Form.mk 0 0 [] []),2)
 else
  (Z1c f m).bind fun x1 =>
  (bif (x1.2 != 0) then
   some ((Form.mk 0 0 [] []),x1.2)
  else
   (Z11 (Z1X.s0 f m) (0,[])).bind fun (y1:Jx ((List Granule)) (Form × Int)) =>
   y1.elim (fun r' =>
     some r') fun a4 =>
   (Z5h (Form.mk x1.1.Period x1.1.Count x1.1.Core a4)).bind fun x7 =>
   some (x7.1,x7.2)))
theorem Z9V {f:Form} {m:Int}:Le (Z1X f m) (Z1R f m):=by
 unfold Z1X Z1R
 repeat' (with_reducible (first | exact Le.refl _ | apply Le.bind | apply Le.cond | apply Le.elim | apply Le.loop | apply ZAG | apply Z80 | apply ZAd | intro _))
def Z2q:Option (Bool) :=
 (Z1X Z3S 7).bind fun x1 =>
 (Z2g (Form.mk 1099511627776 1 [[(Span.mk 0 0)]] []) 1099511627776).bind fun x2 =>
 (bif ((((x1.2 != 0) || (x2.1 != 0)) || x2.2.1) || (x2.2.2 != 10)) then
  some false
 else
  (Z2g x1.1 1).bind fun x3 =>
  (
   (bif (Z3 x3.1 x3.2.1 x3.2.2 1 true) then
    (Z55 x1.1 1).bind fun x4 =>
    some (Z3 x4.1 x4.2.1 x4.2.2 13 true)
   else
    some false)).bind fun (y1:Bool) =>
  (
   (bif y1 then
    (Z2g x1.1 0).bind fun x5 =>
    some (Z3 x5.1 x5.2.1 x5.2.2 (-6) true)
   else
    some false)).bind fun (y2:Bool) =>
  (
   (bif y2 then
    (Z55 x1.1 0).bind fun x6 =>
    some (Z3 x6.1 x6.2.1 x6.2.2 6 true)
   else
    some false)).bind fun (y3:Bool) =>
  (
   (bif y3 then
    (Z41 x1.1 6).bind fun x7 =>
    some (Z3 x7.1 x7.2.1 x7.2.2 1 true)
   else
    some false)).bind fun (y4:Bool) =>
  (
   (bif y4 then
    (Z7O x1.1 6).bind fun x8 =>
    some (Z3 x8.1 x8.2.1 x8.2.2 0 true)
   else
    some false)).bind fun (y5:Bool) =>
  (
   (bif y5 then
    (Z7O x1.1 7).bind fun x9 =>
    some (Z3 x9.1 x9.2.1 x9.2.2 1 true)
   else
    some false)).bind fun (y6:Bool) =>
  (
   (bif y6 then
    (Z2g (Form.mk 0 0 [] [(Granule.mk 3 [(Span.mk 5 9)])]) 1).bind fun x10 =>
    some (Z3 x10.1 x10.2.1 x10.2.2 0 false)
   else
    some false)).bind fun (y7:Bool) =>
  (
   (bif y7 then
    (Z41 (Form.mk 0 0 [] [(Granule.mk 3 [(Span.mk 5 9)])]) (-4)).bind fun x11 =>
    some (Z3 x11.1 x11.2.1 x11.2.2 0 true)
   else
    some false)).bind fun (y8:Bool) =>
  (
   (bif y8 then
    (Z41 (Form.mk 0 0 [] [(Granule.mk 3 [(Span.mk 5 9)])]) (-5)).bind fun x12 =>
    some (Z3 x12.1 x12.2.1 x12.2.2 0 false)
   else
    some false)).bind fun (y9:Bool) =>
  some y9)
theorem Z7E:Le (Z2q) (Z26):=by
 unfold Z2q Z26
 repeat' (with_reducible (first | exact Le.refl _ | apply Le.bind | apply Le.cond | apply Z9V | apply ZBi | apply ZCV | apply ZCc | apply evle_size_Up | intro _))
theorem Z6r:Z2q = some true:=by kernel_rfl
theorem Z77:Z26 = some true:=Z7E _ Z6r
end
end Go.Dn

namespace Go.Dn
open Go Go.Proofs
set_option maxRecDepth 100000
set_option maxHeartbeats 4000000
abbrev vl {α:Type} (c:α→List FV) (x:List α):PV:=.v (.sl (x.map c))
abbrev vi (x:Int):PV:=.v (.int .i64 x)
abbrev vu (x:Int):PV:=.v (.int .u64 x)
abbrev vb (x:Bool):PV:=.v (.bool x)
section
theorem Ops.wt {X:Ctx} {n:Nat} {dr:Bool} {ops:Array Oper} {base i:Nat} {l:List Oper} {e:Env} {σ:Heap} {K:Env→Heap→Prop} {op:Op} {t:TypeId} {p:String} {af:Array Edge} {j:Nat} {g:Tmp} {w:Bool} {dst:Option Tmp} (hg:(ops[j]?).bind (·.dst) = some g) (he:e g = .v (.bool w)) (hk:Ops X n dr ops base i (⟨dst,op,t,p,af,none⟩ :: l) e σ K):Ops X n dr ops base i (⟨dst,op,t,p,af,some (j,w)⟩ :: l) e σ K:=.wanted hg he hk
variable {X:Ctx} {n:Nat} {dr:Bool} {ops:Array Oper} {base i:Nat} {l:List Oper} {e:Env} {σ:Heap} {K:Env→Heap→Prop} {d:Nat} {t t1 t2:TypeId} {p:String} {af:Array Edge} {x y:Operand} {lo hi:Nat} {L:List Res}
theorem Ops.mv (v:PV) (hx:Z0 X e x = some v) (hd:Nat.blt d n = true) (hk:Ops X n dr ops base (i + 1) l (set e d v) σ K):Ops X n dr ops base i (⟨some d,.move x,t,p,af,none⟩ :: l) e σ K:=.move hx hd hk
theorem Ops.av (v:PV) (hx:Z0 X e x = some v) (hd:Nat.blt d n = true) (hk:Ops X n dr ops base (i + 1) l (set e d v) σ K):Ops X n dr ops base i (⟨some d,.assign x,t,p,af,none⟩ :: l) e σ K:=.assign hx hd hk
theorem Ops.it {op:BinOp} {k:IntKind} (m m':Int) (r:FV) (hx:Z0 X e x = some (.v (.int k m))) (hy:Z0 X e y = some (.v (.int k m'))) (hop:(op != .shl && op != .shr) = true) (hr:Z7s op k m m' = some r) (hd:Nat.blt d n = true) (hk:Ops X n dr ops base (i + 1) l (set e d (.v r)) σ K):Ops X n dr ops base i (⟨some d,.binOp op t1 x y t2,t,p,af,none⟩ :: l) e σ K:=.int hx hy hop hr hd hk
theorem Ops.xt (v:PV) {vs:List PV} {j:Nat} (hx:Z0 X e x = some (.tup vs)) (hj:vs[j]? = some v) (hd:Nat.blt d n = true) (hk:Ops X n dr ops base (i + 1) l (set e d v) σ K):Ops X n dr ops base i (⟨some d,.extract x j,t,p,af,none⟩ :: l) e σ K:=.extract hx hj hd hk
theorem Ops.ld (v:PV) {id ver off:Nat} {te:TypeId} {cells:List PV} (H:Has σ lo hi L) (k:Nat) (hk:L[k]? = some (.blk id te cells)) (hv:cells.length = ver) (hx:Z0 X e x = some (.ptr id ver off)) (hg:tagg X.P t1 = some false) (hc:cells[off]? = some v) (ha:dr = true→Seen ops base i id false) (hd:Nat.blt d n = true) (hk':Ops X n dr ops base (i + 1) l (set e d v) σ K):Ops X n dr ops base i (⟨some d,.load t1 x,t,p,af,none⟩ :: l) e σ K:=.loadH H k hk hv hx hg hc ha hd hk'
end
theorem sk {α:Type} {a b:α} (h:some a = some b):b = a:=(Option.some.inj h).symm
theorem V {α:Sort _} {a:α}:a = a:=rfl
theorem U:True:=trivial
theorem Has.wk {σ:Heap} {lo hi:Nat} {L:List Res} (H:Has σ lo hi L) {lo':Nat} (h:lo≤lo'):Has σ lo' hi L:=H.weak h (YC _)
theorem sj {α:Type} {a b:α} (h:some a = some b):a = b:=Option.some.inj h
abbrev vF (f:Form):List PV:=[vi f.Period,vi f.Count,vl (cL Span.cs) f.Core,vl Granule.cs f.Odd]
abbrev vG (f:size_form):List PV:=[vi f.Form.Period,vi f.Form.Count,vl (cL Span.cs) f.Form.Core,vl Granule.cs f.Form.Odd,vl size_spot.cs f.spots]
theorem Z9n {f:Form} {r:Int} (h:Z0A f = some r):Fn CX 73 [(.agg (vs (Form.cs f)))] (vi r):=by
 refine Fn.go Tryz.func73 V fun σ H => ?_;unfold Z0A at h;refine .tR 2 V H fun b1 σ H => (.boxH (cs:=(vF f)) H (by omega) (by omega) V V V fun σ H => (.aV V (.nila H fun H => (.tR 1 V H fun b2 σ H => (.aV V (.nila H fun H => (.then (.tR 4 V H fun b3 σ H => ?_))))))));refine .fV H 0 V (.lV H 0 V (.nV V (.mV V (.nila H fun H => (.inBlock ?_)))));refine .lp h (fun s1 => [(1,(.ptr (b1 + 0) 4 0)),(3,(vi s1.1)),(9,(vl (cL Span.cs) f.Core)),(10,(vi (f.Core.length:Int))),(11,(vi s1.2))]) (fun s1 => [.blk (b1 + 0) 25 (vF f)]) (.exit 0) (fun y1 => [(1,(.ptr (b1 + 0) 4 0)),(3,(vi y1))]) (fun y1 => [.blk (b1 + 0) 25 (vF f)]) (EI V) H (fun s1 e σ H z h => ?_) fun y1 e σ H h => ?_
 ·unfold Z0A.s0 at h;refine .tR 1 V H fun b4 σ H => (.iV V (.nila H fun H => (.then ?_)));refine .wh h V ?_ ?_ <;> intro h
  ·refine .skip (.then (.inBlock (.tR 3 V H fun b5 σ H => ?_)));obtain ⟨x1,q1,h⟩:=bs h;refine .jV q1 V (.pV V (.aV V (.nila H fun H => (.Z4 5 V H fun b6 σ H => (.mV V (.mV V (.nV V (.iV V ?_))))))));refine .aV V (.nila H fun H => (.Z4 2 V H fun b7 σ H => (.iV V (.mV V (.nila H fun H => ?_)))));obtain rfl:=sj h;exact ⟨V,EI V,H⟩
  refine .exit ?_;obtain rfl:=sj h;exact ⟨nofun,⟨V,EI V,H⟩⟩
 refine .then (.tR 4 V H fun b8 σ H => (.fV H 0 V (.lV H 0 V (.nV V (.mV V (.nila H fun H => (.inBlock ?_)))))));refine .lp h (fun s2 => [(3,(vi s2.1)),(21,(vl Granule.cs f.Odd)),(22,(vi (f.Odd.length:Int))),(23,(vi s2.2))]) (fun s2 => []) (.exit 2) (fun y2 => [(3,(vi y2))]) (fun y2 => []) (EI V) (H.erase 0) (fun s2 e σ H z h => ?_) fun y2 e σ H h => ?_
 ·unfold Z0A.s1 at h;refine .tR 1 V H fun b9 σ H => (.iV V (.nila H fun H => (.then ?_)));refine .wh h V ?_ ?_ <;> intro h
  ·refine .skip (.then (.inBlock (.tR 4 V H fun b10 σ H => ?_)));obtain ⟨x2,q2,h⟩:=bs h;refine .jV q2 V (.qV [(.int .i64 x2.Index),(.sl (x2.Ticks.map Span.cs))] V (.Za (cs:=[(vi 0),.nils]) H (by omega) (by omega) V V fun σ H => (.sV [(vi x2.Index),(vl Span.cs x2.Ticks)] H 0 V fun σ H => (.nila H fun H => (.Z4 6 V H fun b11 σ H => (.mV V (.fV H 0 V (.lV H 0 V ?_))))))));refine .nV V (.iV V (.aV V (.nila H fun H => (.Z4 2 V H fun b12 σ H => (.iV V (.mV V (.nila H fun H => ?_)))))));obtain rfl:=sj h;exact ⟨V,EI V,(H.erase 0)⟩
  refine .exit ?_;obtain rfl:=sj h;exact ⟨nofun,⟨V,EI V,H⟩⟩
 refine .tR 2 V H fun b13 σ H => (.mV V (.aV V (.nila H fun H => (.ret ?_))));obtain rfl:=sj h;exact Ends.eR V
theorem Z8S {f:Form} {r:Bool} (h:Z0d f = some r):Fn CX 53 [(.agg (vs (Form.cs f)))] (vb r):=by
 refine Fn.go Tryz.func53 V fun σ H => ?_;unfold Z0d at h;refine .tR 2 V H fun b1 σ H => (.boxH (cs:=(vF f)) H (by omega) (by omega) V V V fun σ H => (.aV V (.nila H fun H => (.tR 16 V H fun b2 σ H => (.fV H 0 V (.lV H 0 V (.nV V (.iV V ?_))))))));refine .mV V ?_;refine .md H 5 [(12,(vb ((decide ((f.Core.length:Int)≤12)) && (decide ((f.Odd.length:Int)≤8))))),(1,(.ptr (b1 + 0) 4 0))] [.blk (b1 + 0) 25 (vF f)] V ?_ fun e σ H => ?_
 ·refine .split V V ?_ ?_ <;> intro hc1
  ·refine .fV H 0 V (.lV H 0 V (.nV V (.iV V (.kT V (.nil ?_)))));exact ⟨⟨Z2V hc1,V,U⟩,H.wk (by omega)⟩
  ·refine .ps 4 V (.kF V (.nil ?_));exact ⟨⟨Z2S hc1,V,U⟩,H.wk (by omega)⟩
 refine .mV V ?_;obtain ⟨y1,hj1,h⟩:=bs h;refine .md H 4 [(17,(vb y1))] [] V ?_ fun e σ H => ?_
 ·refine .sp hj1 V ?_ ?_ <;> intro h
  ·refine .LV (vF f) H 0 V (.wt V V ?_);obtain ⟨x1,q1,h⟩:=bs h;refine .cV (Z9n q1) V (.iV V (.kT V (.nil ?_)));obtain rfl:=sj h;exact ⟨EI V,(H.erase 0).wk (by omega)⟩
  refine .ps 3 V (.kF V (.nil ?_));obtain rfl:=sj h;exact ⟨EI V,(H.erase 0).wk (by omega)⟩
 refine .aV V (.nila H fun H => (.ret ?_));obtain rfl:=sj h;exact Ends.eR V
theorem Z4X {t:Int} {r:Bool} (h:Z0v t = r):Fn CX 83 [(vi t)] (vb r):=by
 refine Fn.go Tryz.func83 V fun σ H => ?_;unfold Z0v at h;refine .tR 1 V H fun b1 σ H => (.aV V (.nila H fun H => (.tR 7 V H fun b2 σ H => (.mV V (.iV V (.mV V ?_))))));refine .md H 3 [(8,(vb ((decide (t ≥ (-1099511627776))) && (decide (t≤1099511627776)))))] [] V ?_ fun e σ H => ?_
 ·refine .split V V ?_ ?_ <;> intro hc1
  ·refine .mV V (.iV V (.kT V (.nil ?_)));exact ⟨⟨Z2V hc1,U⟩,H.wk (by omega)⟩
  ·refine .ps 2 V (.kF V (.nil ?_));exact ⟨⟨Z2S hc1,U⟩,H.wk (by omega)⟩
 refine .aV V (.nila H fun H => (.ret ?_));subst h;exact Ends.eR V
theorem Z7Z {l:(List Span)} {r:Bool} (h:Z0B l = some r):Fn CX 94 [(vl Span.cs l)] (vb r):=by
 refine Fn.go Tryz.func94 V fun σ H => ?_;unfold Z0B at h;refine .tR 1 V H fun b1 σ H => (.aV V (.nila H fun H => (.then (.tR 3 V H fun b2 σ H => (.mV V (.nV V (.mV V (.nila H fun H => ?_))))))));refine .inBlock ?_;obtain ⟨y1,hj1,h⟩:=bs h;obtain ⟨n1,hj1⟩:=ZM.1 hj1;refine .mono (Runs.loopO hj1 (fun s1 e σ => Z6 e [(0,(vl Span.cs l)),(5,(vl Span.cs l)),(6,(vi (l.length:Int))),(7,(vi s1))]∧Hs σ []) (fun y1 x e σ => (∃ a1,y1 = (.go a1)∧x = .exit 0∧Z6 e []∧Hs σ [])∨(∃ r',y1 = (.ret r')∧x = .ret∧Ends CX Tryz.f94.results.toList (vb r') x e σ)) ⟨EI V,H⟩ ?_) ?_
 ·intro s1 e σ hI z h;obtain ⟨he,H⟩:=hI;obtain ⟨e,rfl⟩:=he.ex;unfold Z0B.s0 at h;refine .tR 1 V H fun b3 σ H => (.iV V (.nila H fun H => (.then ?_)));refine .wh h V ?_ ?_ <;> intro h
  ·refine .skip (.then (.inBlock (.tR 6 V H fun b4 σ H => (.mV V ?_))));obtain ⟨x1,q1,h⟩:=bs h;refine .jV q1 V (.qV [(.int .i64 x1.From),(.int .i64 x1.To)] V (.Za (cs:=[(vi 0),(vi 0)]) H (by omega) (by omega) V V fun σ H => (.aV V (.sV [(vi x1.From),(vi x1.To)] H 0 V fun σ H => (.nila H fun H => (.then (.Zr 33 V (by kernel_rfl) H fun b5 σ H B5 => (.ZA H 0 V V V V V (fun _ => .inl ⟨B5 0 _ V _ V,nofun,(fun _ => by kernel_rfl)⟩) V ?_))))))));refine .ld (vi x1.From) H 0 V V V V V (fun _ => .inl ⟨B5 0 _ V _ V,nofun,(fun _ => by kernel_rfl)⟩) V (.cV (Z4X V) V (.tV V (.mV V ?_)));refine .md H 5 [(21,(vb ((!(Z0v x1.From)) || (!(Z0v x1.To))))),(0,(vl Span.cs l)),(3,(vi s1)),(4,(.ptr (b4 + 3) 2 0)),(5,(vl Span.cs l)),(6,(vi (l.length:Int))),(7,(vi s1))] [.blk (b4 + 3) 46 [(vi x1.From),(vi x1.To)]] rfl ?_ fun e σ H => ?_
   ·refine .split V V ?_ ?_ <;> intro hc2
    ·refine .ps 4 V (.kT V (.nil ?_));exact ⟨⟨or_T hc2,V,V,V,V,V,V,U⟩,H.wk (by omega)⟩
    ·refine .wt V V (.ZA H 0 V V V V V (fun _ => .inl ⟨B5 0 _ V _ V,nofun,(fun _ => by kernel_rfl)⟩) V (.wt V V (.ld (vi x1.To) H 0 V V V V V (fun _ => .inl ⟨B5 0 _ V _ V,nofun,(fun _ => by kernel_rfl)⟩) V (.cV (Z4X V) V (.tV V (.kF V (.nil ?_)))))));exact ⟨⟨or_F hc2,V,V,V,V,V,V,U⟩,H.wk (by omega)⟩
   refine .mV V ?_;refine .md H 6 [(28,(vb (((!(Z0v x1.From)) || (!(Z0v x1.To))) || (decide (x1.From > x1.To))))),(0,(vl Span.cs l)),(3,(vi s1)),(4,(.ptr (b4 + 3) 2 0)),(5,(vl Span.cs l)),(6,(vi (l.length:Int))),(7,(vi s1))] [.blk (b4 + 3) 46 [(vi x1.From),(vi x1.To)]] rfl ?_ fun e σ H => ?_
   ·refine .split V V ?_ ?_ <;> intro hc3
    ·refine .ps 5 V (.kT V (.nil ?_));exact ⟨⟨or_T hc3,V,V,V,V,V,V,U⟩,H.wk (by omega)⟩
    ·refine .wt V V (.ZA H 0 V V V V V (fun _ => .inl ⟨B5 0 _ V _ V,nofun,(fun _ => by kernel_rfl)⟩) V (.wt V V (.ld (vi x1.From) H 0 V V V V V (fun _ => .inl ⟨B5 0 _ V _ V,nofun,(fun _ => by kernel_rfl)⟩) V (.wt V V (.ZA H 0 V V V V V (fun _ => .inl ⟨B5 0 _ V _ V,nofun,(fun _ => by kernel_rfl)⟩) V (.wt V V (.ld (vi x1.To) H 0 V V V V V (fun _ => .inl ⟨B5 0 _ V _ V,nofun,(fun _ => by kernel_rfl)⟩) V (.iV V ?_))))))));refine .kF V (.nil ?_);exact ⟨⟨or_F hc3,V,V,V,V,V,V,U⟩,H.wk (by omega)⟩
   refine .mV V ?_;obtain ⟨y2,hj2,h⟩:=bs h;refine .md H 15 [(44,(vb y2)),(0,(vl Span.cs l)),(5,(vl Span.cs l)),(6,(vi (l.length:Int))),(7,(vi s1))] [] V ?_ fun e σ H => ?_
   ·refine .sp hj2 V ?_ ?_ <;> intro h
    ·refine .ps 14 V (.kT V (.nil ?_));obtain rfl:=sj h;exact ⟨EI V,(H.erase 0).wk (by omega)⟩
    refine .mV V (.iV V (.mV V ?_));obtain ⟨y3,hj3,h⟩:=bs h;refine .md H 11 [(43,(vb y3)),(0,(vl Span.cs l)),(5,(vl Span.cs l)),(6,(vi (l.length:Int))),(7,(vi s1)),(29,(vb false))] [] V ?_ fun e σ H => ?_
    ·refine .sp hj3 V ?_ ?_ <;> intro h
     ·refine .wt V V (.ZA H 0 V V V V V (fun _ => .inl ⟨B5 0 _ V _ V,nofun,(fun _ => by kernel_rfl)⟩) V (.wt V V (.ld (vi x1.From) H 0 V V V V V (fun _ => .inl ⟨B5 0 _ V _ V,nofun,(fun _ => by kernel_rfl)⟩) V (.mV V (.mV V (.iV V (.wt V V ?_)))))));obtain ⟨x2,q2,h⟩:=bs h;refine .jV q2 V (.wt V V (.Z8 V V V V (.pV V (.iV V (.iV V (.kT V (.nil ?_)))))));obtain rfl:=sj h;exact ⟨EI V,(H.erase 0).wk (by omega)⟩
     refine .ps 10 V (.kF V (.nil ?_));obtain rfl:=sj h;exact ⟨EI V,(H.erase 0).wk (by omega)⟩
    refine .kF V (.nil ?_);obtain rfl:=sj h;exact ⟨EI V,H.wk (by omega)⟩
   refine .nila H fun H => ?_;refine .wh h V ?_ ?_ <;> intro h
   ·refine .tR 1 V H fun b6 σ H => (.aV V (.nila H fun H => (.ret ?_)));obtain rfl:=sj h;exact ⟨nofun,(.inr ⟨_,V,V,(Ends.H (xs:=[(vb false)]) (.inr V) H (.tmp (v:=(vb false)) V .nil) (.one (.c (.v _))))⟩)⟩
   refine .skip (.Z4 2 V H fun b7 σ H => (.iV V (.mV V (.nila H fun H => ?_))));obtain rfl:=sj h;exact ⟨V,EI V,H⟩
  refine .exit ?_;obtain rfl:=sj h;exact ⟨nofun,(.inl ⟨_,V,V,U,H⟩)⟩
 ·rintro x e σ (⟨a2,rfl,rfl,he,H⟩ | ⟨r',rfl,rfl,hE⟩)
  ·replace h:=jgo h;obtain ⟨e,rfl⟩:=he.ex;refine .tR 1 V H fun b8 σ H => (.aV V (.nila H fun H => (.ret ?_)));obtain rfl:=sj h;exact Ends.eR V
  ·replace h:=jret h;obtain rfl:=sj h;exact hE
theorem Z4s {i:Int} {r:Bool} (h:Z14 i = r):Fn CX 60 [(vi i)] (vb r):=by
 refine Fn.go Tryz.func60 V fun σ H => ?_;unfold Z14 at h;refine .tR 1 V H fun b1 σ H => (.aV V (.nila H fun H => (.tR 7 V H fun b2 σ H => (.mV V (.iV V (.mV V ?_))))));refine .md H 3 [(8,(vb ((decide (i ≥ (-1099511627776))) && (decide (i≤1099511627776)))))] [] V ?_ fun e σ H => ?_
 ·refine .split V V ?_ ?_ <;> intro hc1
  ·refine .mV V (.iV V (.kT V (.nil ?_)));exact ⟨⟨Z2V hc1,U⟩,H.wk (by omega)⟩
  ·refine .ps 2 V (.kF V (.nil ?_));exact ⟨⟨Z2S hc1,U⟩,H.wk (by omega)⟩
 refine .aV V (.nila H fun H => (.ret ?_));subst h;exact Ends.eR V
theorem gran_shape_fn {f:Form} {r:Bool} (h:Zj f = some r):Fn CX 74 [(.agg (vs (Form.cs f)))] (vb r):=by
 refine Fn.go Tryz.func74 V fun σ H => ?_;unfold Zj at h;refine .tR 2 V H fun b1 σ H => (.boxH (cs:=(vF f)) H (by omega) (by omega) V V V fun σ H => (.aV V (.nila H fun H => (.then (.tR 25 V H fun b2 σ H => (.fV H 0 V (.lV H 0 V (.fV H 0 V ?_))))))));refine .lV H 0 V (.nV V (.iV V (.mV V ?_)));refine .md H 8 [(21,(vb ((f.Count != (f.Core.length:Int)) || ((f.Count == 0) != (f.Period == 0))))),(1,(.ptr (b1 + 0) 4 0))] [.blk (b1 + 0) 25 (vF f)] rfl ?_ fun e σ H => ?_
 ·refine .split V V ?_ ?_ <;> intro hc1
  ·refine .ps 7 V (.kT V (.nil ?_));exact ⟨⟨or_T hc1,V,U⟩,H.wk (by omega)⟩
  ·refine .fV H 0 V (.lV H 0 V (.iV V (.fV H 0 V (.lV H 0 V (.iV V (.wt V V (.neB (b:=(f.Count == 0)) (b':=(f.Period == 0)) V V V V (.kF V ?_))))))));refine .nil ?_;exact ⟨⟨or_F hc1,V,U⟩,H.wk (by omega)⟩
 refine .mV V ?_;refine .md H 4 [(26,(vb (((f.Count != (f.Core.length:Int)) || ((f.Count == 0) != (f.Period == 0))) || (decide (f.Period < 0))))),(1,(.ptr (b1 + 0) 4 0))] [.blk (b1 + 0) 25 (vF f)] rfl ?_ fun e σ H => ?_
 ·refine .split V V ?_ ?_ <;> intro hc2
  ·refine .ps 3 V (.kT V (.nil ?_));exact ⟨⟨or_T hc2,V,U⟩,H.wk (by omega)⟩
  ·refine .fV H 0 V (.lV H 0 V (.iV V (.kF V (.nil ?_))));exact ⟨⟨or_F hc2,V,U⟩,H.wk (by omega)⟩
 refine .mV V ?_;refine .md H 4 [(31,(vb ((((f.Count != (f.Core.length:Int)) || ((f.Count == 0) != (f.Period == 0))) || (decide (f.Period < 0))) || (decide (f.Period > 1099511627776))))),(1,(.ptr (b1 + 0) 4 0))] [.blk (b1 + 0) 25 (vF f)] rfl ?_ fun e σ H => ?_
 ·refine .split V V ?_ ?_ <;> intro hc3
  ·refine .ps 3 V (.kT V (.nil ?_));exact ⟨⟨or_T hc3,V,U⟩,H.wk (by omega)⟩
  ·refine .fV H 0 V (.lV H 0 V (.iV V (.kF V (.nil ?_))));exact ⟨⟨or_F hc3,V,U⟩,H.wk (by omega)⟩
 refine .nila H fun H => ?_;refine .wh h V ?_ ?_ <;> intro h
 ·refine .tR 1 V H fun b3 σ H => (.aV V (.nila H fun H => (.ret ?_)));obtain rfl:=sj h;exact Ends.eR V
 refine .skip (.then (.tR 4 V H fun b4 σ H => (.fV H 0 V (.lV H 0 V (.nV V (.mV V (.nila H fun H => (.inBlock ?_))))))));obtain ⟨y1,hj1,h⟩:=bs h;obtain ⟨n1,hj1⟩:=ZM.1 hj1;refine .mono (Runs.loopO hj1 (fun s1 e σ => Z6 e [(1,(.ptr (b1 + 0) 4 0)),(33,(vl (cL Span.cs) f.Core)),(34,(vi (f.Core.length:Int))),(35,(vi s1))]∧Hs σ [.blk (b1 + 0) 25 (vF f)]) (fun y1 x e σ => (∃ a1,y1 = (.go a1)∧x = .exit 0∧Z6 e [(1,(.ptr (b1 + 0) 4 0))]∧Hs σ [.blk (b1 + 0) 25 (vF f)])∨(∃ r',y1 = (.ret r')∧x = .ret∧Ends CX Tryz.f74.results.toList (vb r') x e σ)) ⟨EI V,H⟩ ?_) ?_
 ·intro s1 e σ hI z h;obtain ⟨he,H⟩:=hI;obtain ⟨e,rfl⟩:=he.ex;unfold Zj.s0 at h;refine .tR 1 V H fun b5 σ H => (.iV V (.nila H fun H => (.then ?_)));refine .wh h V ?_ ?_ <;> intro h
  ·refine .skip (.then (.inBlock (.tR 3 V H fun b6 σ H => ?_)));obtain ⟨x1,q1,h⟩:=bs h;refine .jV q1 V (.pV V (.aV V (.nila H fun H => (.tR 3 V H fun b7 σ H => (.mV V ?_)))));obtain ⟨x2,q2,h⟩:=bs h;refine .cV (Z7Z q2) V (.tV V (.nila H fun H => ?_));refine .wh h V ?_ ?_ <;> intro h
   ·refine .tR 1 V H fun b8 σ H => (.aV V (.nila H fun H => (.ret ?_)));obtain rfl:=sj h;exact ⟨nofun,(.inr ⟨_,V,V,(Ends.H (xs:=[(vb false)]) (.inr V) H (.tmp (v:=(vb false)) V .nil) (.one (.c (.v _))))⟩)⟩
   refine .skip (.Z4 2 V H fun b9 σ H => (.iV V (.mV V (.nila H fun H => ?_))));obtain rfl:=sj h;exact ⟨V,EI V,H⟩
  refine .exit ?_;obtain rfl:=sj h;exact ⟨nofun,(.inl ⟨_,V,V,EI V,H⟩)⟩
 ·rintro x e σ (⟨a2,rfl,rfl,he,H⟩ | ⟨r',rfl,rfl,hE⟩)
  ·replace h:=jgo h;obtain ⟨e,rfl⟩:=he.ex;refine .then (.tR 4 V H fun b10 σ H => (.fV H 0 V (.lV H 0 V (.nV V (.mV V (.nila H fun H => (.inBlock ?_)))))));obtain ⟨y2,hj2,h⟩:=bs h;obtain ⟨n2,hj2⟩:=ZM.1 hj2;refine .mono (Runs.loopO hj2 (fun s2 e σ => Z6 e [(1,(.ptr (b1 + 0) 4 0)),(44,(vl Granule.cs f.Odd)),(45,(vi (f.Odd.length:Int))),(46,(vi s2))]∧Hs σ [.blk (b1 + 0) 25 (vF f)]) (fun y2 x e σ => (∃ a3,y2 = (.go a3)∧x = .exit 2∧Z6 e []∧Hs σ [])∨(∃ r',y2 = (.ret r')∧x = .ret∧Ends CX Tryz.f74.results.toList (vb r') x e σ)) ⟨EI V,H⟩ ?_) ?_
   ·intro s2 e σ hI z h;obtain ⟨he,H⟩:=hI;obtain ⟨e,rfl⟩:=he.ex;unfold Zj.s1 at h;refine .tR 1 V H fun b11 σ H => (.iV V (.nila H fun H => (.then ?_)));refine .wh h V ?_ ?_ <;> intro h
    ·refine .skip (.then (.inBlock (.tR 6 V H fun b12 σ H => (.mV V ?_))));obtain ⟨x3,q3,h⟩:=bs h;refine .jV q3 V (.qV [(.int .i64 x3.Index),(.sl (x3.Ticks.map Span.cs))] V (.Za (cs:=[(vi 0),.nils]) H (by omega) (by omega) V V fun σ H => (.aV V (.sV [(vi x3.Index),(vl Span.cs x3.Ticks)] H 0 V fun σ H => (.nila H fun H => (.then (.Zr 26 V (by kernel_rfl) H fun b13 σ H B13 => (.ZA H 0 V V V V V (fun _ => .inl ⟨B13 0 _ V _ V,nofun,(fun _ => by kernel_rfl)⟩) V ?_))))))));refine .ld (vl Span.cs x3.Ticks) H 0 V V V V V (fun _ => .inl ⟨B13 0 _ V _ V,nofun,(fun _ => by kernel_rfl)⟩) V ?_;obtain ⟨x4,q4,h⟩:=bs h;refine .cV (Z7Z q4) V (.tV V (.mV V ?_));refine .md H 5 [(60,(vb ((!x4) || (!(Z14 x3.Index))))),(1,(.ptr (b1 + 0) 4 0)),(5,(vi s2)),(6,(.ptr (b12 + 3) 2 0)),(44,(vl Granule.cs f.Odd)),(45,(vi (f.Odd.length:Int))),(46,(vi s2))] [.blk (b12 + 3) 50 [(vi x3.Index),(vl Span.cs x3.Ticks)],.blk (b1 + 0) 25 (vF f)] rfl ?_ fun e σ H => ?_
     ·refine .split V V ?_ ?_ <;> intro hc8
      ·refine .ps 4 V (.kT V (.nil ?_));exact ⟨⟨or_T hc8,V,V,V,V,V,V,U⟩,H.wk (by omega)⟩
      ·refine .wt V V (.ZA H 0 V V V V V (fun _ => .inl ⟨B13 0 _ V _ V,nofun,(fun _ => by kernel_rfl)⟩) V (.wt V V (.ld (vi x3.Index) H 0 V V V V V (fun _ => .inl ⟨B13 0 _ V _ V,nofun,(fun _ => by kernel_rfl)⟩) V (.cV (Z4s V) V (.tV V (.kF V (.nil ?_)))))));exact ⟨⟨or_F hc8,V,V,V,V,V,V,U⟩,H.wk (by omega)⟩
     refine .mV V ?_;obtain ⟨y3,hj3,h⟩:=bs h;refine .md H 15 [(76,(vb y3)),(1,(.ptr (b1 + 0) 4 0)),(44,(vl Granule.cs f.Odd)),(45,(vi (f.Odd.length:Int))),(46,(vi s2))] [.blk (b1 + 0) 25 (vF f)] V ?_ fun e σ H => ?_
     ·refine .sp hj3 V ?_ ?_ <;> intro h
      ·refine .ps 14 V (.kT V (.nil ?_));obtain rfl:=sj h;exact ⟨EI V,(H.erase 0).wk (by omega)⟩
      refine .mV V (.iV V (.mV V ?_));obtain ⟨y4,hj4,h⟩:=bs h;refine .md H 11 [(75,(vb y4)),(1,(.ptr (b1 + 0) 4 0)),(44,(vl Granule.cs f.Odd)),(45,(vi (f.Odd.length:Int))),(46,(vi s2)),(61,(vb false))] [.blk (b1 + 0) 25 (vF f)] V ?_ fun e σ H => ?_
      ·refine .sp hj4 V ?_ ?_ <;> intro h
       ·refine .wt V V (.ZA H 0 V V V V V (fun _ => .inl ⟨B13 0 _ V _ V,nofun,(fun _ => by kernel_rfl)⟩) V (.wt V V (.ld (vi x3.Index) H 0 V V V V V (fun _ => .inl ⟨B13 0 _ V _ V,nofun,(fun _ => by kernel_rfl)⟩) V (.wt V V (.ZA H 1 V V V V V (fun _ => .inl ⟨B13 1 _ V _ V,nofun,(fun _ => by kernel_rfl)⟩) V (.wt V V (.ld (vl Granule.cs f.Odd) H 1 V V V V V (fun _ => .inl ⟨B13 1 _ V _ V,nofun,(fun _ => by kernel_rfl)⟩) V (.mV V ?_))))))));refine .iV V (.wt V V ?_);obtain ⟨x5,q5,h⟩:=bs h;refine .jV q5 V (.wt V V (.Z8 V V V V (.pV V (.iV V (.kT V (.nil ?_))))));obtain rfl:=sj h;exact ⟨EI V,(H.erase 0).wk (by omega)⟩
       refine .ps 10 V (.kF V (.nil ?_));obtain rfl:=sj h;exact ⟨EI V,(H.erase 0).wk (by omega)⟩
      refine .kF V (.nil ?_);obtain rfl:=sj h;exact ⟨EI V,H.wk (by omega)⟩
     refine .nila H fun H => ?_;refine .wh h V ?_ ?_ <;> intro h
     ·refine .tR 1 V H fun b14 σ H => (.aV V (.nila H fun H => (.ret ?_)));obtain rfl:=sj h;exact ⟨nofun,(.inr ⟨_,V,V,(Ends.H (xs:=[(vb false)]) (.inr V) H (.tmp (v:=(vb false)) V .nil) (.one (.c (.v _))))⟩)⟩
     refine .skip (.Z4 2 V H fun b15 σ H => (.iV V (.mV V (.nila H fun H => ?_))));obtain rfl:=sj h;exact ⟨V,EI V,H⟩
    refine .exit ?_;obtain rfl:=sj h;exact ⟨nofun,(.inl ⟨_,V,V,U,(H.erase 0)⟩)⟩
   ·rintro x e σ (⟨a4,rfl,rfl,he,H⟩ | ⟨r',rfl,rfl,hE⟩)
    ·replace h:=jgo h;obtain ⟨e,rfl⟩:=he.ex;refine .tR 1 V H fun b16 σ H => (.aV V (.nila H fun H => (.ret ?_)));obtain rfl:=sj h;exact Ends.eR V
    ·replace h:=jret h;obtain rfl:=sj h;exact hE
  ·replace h:=jret h;obtain rfl:=sj h;exact hE
theorem gran_turns_fn {f:Form} {r:Bool} (h:Z0F f = some r):Fn CX 75 [(.agg (vs (Form.cs f)))] (vb r):=by
 refine Fn.go Tryz.func75 V fun σ H => ?_;unfold Z0F at h;refine .tR 2 V H fun b1 σ H => (.boxH (cs:=(vF f)) H (by omega) (by omega) V V V fun σ H => (.aV V (.nila H fun H => (.tR 1 V H fun b2 σ H => (.a1 .nils V V (.nila H fun H => (.then (.tR 4 V H fun b3 σ H => ?_))))))));refine .fV H 0 V (.lV H 0 V (.nV V (.mV V (.nila H fun H => (.inBlock ?_)))));replace H:=H.pushNil 44 1 true;obtain ⟨y1,hj1,h⟩:=bs h;obtain ⟨n1,hj1⟩:=ZM.1 hj1;refine .mono (Runs.loopO hj1 (fun s2 e σ => ∃ (w3:PV),Z6 e [(1,(.ptr (b1 + 0) 4 0)),(3,w3),(11,(vl (cL Span.cs) f.Core)),(12,(vi (f.Core.length:Int))),(13,(vi s2.1))]∧Hs σ [.sl w3 44 1 (s2.2.map (cL Span.cs)) true,.blk (b1 + 0) 25 (vF f)]) (fun y1 x e σ => ∃ (w4:PV),x = .exit 0∧Z6 e [(1,(.ptr (b1 + 0) 4 0)),(3,w4)]∧Hs σ [.sl w4 44 1 (y1.map (cL Span.cs)) true,.blk (b1 + 0) 25 (vF f)]) ⟨.nils,EI V,H⟩ ?_) ?_
 ·intro s2 e σ hI z h;obtain ⟨w3,he,H⟩:=hI;obtain ⟨e,rfl⟩:=he.ex;unfold Z0F.s0 at h;refine .tR 1 V H fun b4 σ H => (.iV V (.nila H fun H => (.then ?_)));refine .wh h V ?_ ?_ <;> intro h
  ·refine .skip (.then ?_);obtain ⟨y2,hj2,h⟩:=bs h;refine .mono (Q:=fun x e σ => ∃ (w5:PV),x = .normal∧Z6 e [(1,(.ptr (b1 + 0) 4 0)),(3,w5),(11,(vl (cL Span.cs) f.Core)),(12,(vi (f.Core.length:Int))),(13,(vi s2.1))]∧Hs σ [.sl w5 44 1 (y2.map (cL Span.cs)) true,.blk (b1 + 0) 25 (vF f)]) ?_ ?_
   ·replace h:=hj2;refine .inBlock ?_;obtain ⟨y3,hj3,h⟩:=bs h;refine .mono (Q:=fun x e σ => ∃ (w6:PV),x = .normal∧Z6 e [(1,(.ptr (b1 + 0) 4 0)),(3,w6),(11,(vl (cL Span.cs) f.Core)),(12,(vi (f.Core.length:Int))),(13,(vi s2.1))]∧Hs σ [.sl w6 44 1 (y3.map (cL Span.cs)) true,.blk (b1 + 0) 25 (vF f)]) ?_ ?_
    ·replace h:=hj3;refine .tR 3 V H fun b5 σ H => ?_;obtain ⟨x1,q1,h⟩:=bs h;refine .jV q1 V (.pV V (.aV V (.nila H fun H => (.tR 3 V H fun b6 σ H => (.mV V (.nV V (.iV V (.nila H fun H => ?_))))))));refine .wh h V ?_ ?_ <;> intro h
     ·refine .Z4 5 V H fun b7 σ H => (.m1 w3 V V (.mV V (.Z0p (sz:=1) ([x1].map (cL Span.cs)) H (by omega) (by omega) V V V V V V V V V fun σ H => ?_)));obtain ⟨x2,q2,h⟩:=bs h;refine .Z16 (c:=(cL Span.cs)) (v:=w3) (w:=(.buf (b7 + 2) 1 1)) (xs:=s2.2) (ys:=[x1]) H (by omega) (by omega) 1 V V V (.s 0 V) q2 V V V V V nofun V fun w7 σ H => (.a1 w7 V V (.nila H fun H => ?_));obtain rfl:=sj h;exact ⟨w7,V,EI V,(H.erase 0)⟩
     refine .skip ?_;obtain rfl:=sj h;exact ⟨w3,V,EI V,H⟩
    ·rintro x e σ ⟨w8,rfl,he,H⟩;obtain ⟨e,rfl⟩:=he.ex;obtain rfl:=sj h;exact ⟨w8,V,EI V,H⟩
   ·rintro x e σ ⟨w9,rfl,he,H⟩;obtain ⟨e,rfl⟩:=he.ex;refine .Z4 2 V H fun b8 σ H => (.iV V (.mV V (.nila H fun H => ?_)));obtain rfl:=sj h;exact ⟨V,w9,EI V,H⟩
  refine .exit ?_;obtain rfl:=sj h;exact ⟨nofun,⟨w3,V,EI V,H⟩⟩
 ·rintro x e σ ⟨w10,rfl,he,H⟩;obtain ⟨e,rfl⟩:=he.ex;refine .then (.tR 3 V H fun b9 σ H => (.m1 w10 V V (.Z48 (c:=(cL Span.cs)) (xs:=y1) H 0 V V V nofun V (.mV V (.nila H fun H => (.inBlock ?_))))));obtain ⟨y4,hj4,h⟩:=bs h;obtain ⟨n2,hj4⟩:=ZM.1 hj4;refine .mono (Runs.loopO hj4 (fun s3 e σ => Z6 e [(1,(.ptr (b1 + 0) 4 0)),(3,w10),(25,w10),(26,(vi (y1.length:Int))),(27,(vi s3))]∧Hs σ [.sl w10 44 1 (y1.map (cL Span.cs)) true,.blk (b1 + 0) 25 (vF f)]) (fun y4 x e σ => (∃ a1,y4 = (.go a1)∧x = .exit 2∧Z6 e []∧Hs σ [])∨(∃ r',y4 = (.ret r')∧x = .ret∧Ends CX Tryz.f75.results.toList (vb r') x e σ)) ⟨EI V,H⟩ ?_) ?_
  ·intro s3 e σ hI z h;obtain ⟨he,H⟩:=hI;obtain ⟨e,rfl⟩:=he.ex;unfold Z0F.s1 at h;refine .tR 1 V H fun b10 σ H => (.iV V (.nila H fun H => (.then ?_)));refine .wh h V ?_ ?_ <;> intro h
   ·refine .skip (.then ?_);obtain ⟨y5,hj5,h⟩:=bs h;refine .mono (Q:=fun x e σ => (∃ a2,y5 = (.go a2)∧x = .normal∧Z6 e [(1,(.ptr (b1 + 0) 4 0)),(3,w10),(25,w10),(26,(vi (y1.length:Int))),(27,(vi s3))]∧Hs σ [.sl w10 44 1 (y1.map (cL Span.cs)) true,.blk (b1 + 0) 25 (vF f)])∨(∃ r',y5 = (.ret r')∧x = .ret∧Ends CX Tryz.f75.results.toList (vb r') x e σ)) ?_ ?_
    ·replace h:=hj5;refine .inBlock ?_;obtain ⟨y6,hj6,h⟩:=bs h;refine .mono (Q:=fun x e σ => (∃ a3,y6 = (.go a3)∧x = .normal∧Z6 e [(1,(.ptr (b1 + 0) 4 0)),(3,w10),(25,w10),(26,(vi (y1.length:Int))),(27,(vi s3))]∧Hs σ [.sl w10 44 1 (y1.map (cL Span.cs)) true,.blk (b1 + 0) 25 (vF f)])∨(∃ r',y6 = (.ret r')∧x = .ret∧Ends CX Tryz.f75.results.toList (vb r') x e σ)) ?_ ?_
     ·replace h:=hj6;refine .tR 5 V H fun b11 σ H => (.mV V ?_);obtain ⟨x3,q3,h⟩:=bs h;refine .Z3h H 0 V V V (at?_map q3) V V nofun V ?_;intro id1 hv1;refine .Z6j (id:=id1) (j:=0) (w:=(.sl (x3.map Span.cs))) H 0 V hv1 (by simp) (at?_map q3) V (by simp) V V V nofun V ?_;refine .aV V (.aV V (.nila H fun H => (.tR 10 V H fun b12 σ H => (.m1 w10 V V (.mV V (.iV V (.m1 w10 V V (.Z48 (c:=(cL Span.cs)) (xs:=y1) H 0 V V V nofun V ?_))))))));obtain ⟨u1,q4,h⟩:=bs h;refine .rem (m:=(w64 (s3 + 1))) (m':=(y1.length:Int)) V V (Z6i q4) V ?_;obtain ⟨x4,q5,h⟩:=bs h;refine .Z3h H 0 V V V (at?_map q5) V V nofun V ?_;intro id2 hv2;refine .Z6j (id:=id2) (j:=0) (w:=(.sl (x4.map Span.cs))) H 0 V hv2 (by simp) (at?_map q5) V (by simp) V V V nofun V ?_;refine .aV V (.aV V (.nila H fun H => (.then ?_)));refine .jn h .normal (fun y7 => [(1,(.ptr (b1 + 0) 4 0)),(3,w10),(7,(vl Span.cs x3)),(8,(vl Span.cs x4)),(9,(vi y7)),(25,w10),(26,(vi (y1.length:Int))),(27,(vi s3))]) (fun y7 => [.sl w10 44 1 (y1.map (cL Span.cs)) true,.blk (b1 + 0) 25 (vF f)]) (fun y7 h => ?_) fun y7 e σ H h => ?_
      ·refine .tR 5 V H fun b13 σ H => (.mV V (.iV V (.m1 w10 V V (.Z48 (c:=(cL Span.cs)) (xs:=y1) H 0 V V V nofun V (.iV V (.nila H fun H => ?_))))));refine .wh h V ?_ ?_ <;> intro h
       ·refine .Z4 3 V H fun b14 σ H => (.fV H 1 V (.lV H 1 V (.aV V (.nila H fun H => ?_))));obtain rfl:=sj h;exact ⟨V,EI V,H⟩
       refine .skip ?_;obtain rfl:=sj h;exact ⟨V,EI V,H⟩
      refine .then (.Zr 14 V (by kernel_rfl) H fun b15 σ H B15 => (.mV V (.mV V (.nV V (.iV V ?_)))));obtain ⟨x5,q6,h⟩:=bs h;refine .jV q6 V (.Z8 V V V V (.pV V (.mV V ?_)));obtain ⟨x6,q7,h⟩:=bs h;refine .jV q7 V (.Z8 V V V V (.pV V (.mV V (.iV V (.iV V (.nila H fun H => ?_))))));refine .wh h V ?_ ?_ <;> intro h
      ·refine .tR 1 V H fun b16 σ H => (.aV V (.nila H fun H => (.ret ?_)));obtain rfl:=sj h;exact (.inr ⟨_,V,V,(Ends.H (xs:=[(vb false)]) (.inr V) H (.tmp (v:=(vb false)) V .nil) (.one (.c (.v _))))⟩)
      refine .skip ?_;obtain rfl:=sj h;exact (.inl ⟨_,V,V,EI V,H⟩)
     ·rintro x e σ (⟨a4,rfl,rfl,he,H⟩ | ⟨r',rfl,rfl,hE⟩)
      ·replace h:=jgo h;obtain ⟨e,rfl⟩:=he.ex;obtain rfl:=sj h;exact (.inl ⟨_,V,V,EI V,H⟩)
      ·replace h:=jret h;obtain rfl:=sj h;exact (.inr ⟨_,V,V,hE⟩)
    ·rintro x e σ (⟨a5,rfl,rfl,he,H⟩ | ⟨r',rfl,rfl,hE⟩)
     ·replace h:=jgo h;obtain ⟨e,rfl⟩:=he.ex;refine .Z4 2 V H fun b17 σ H => (.iV V (.mV V (.nila H fun H => ?_)));obtain rfl:=sj h;exact ⟨V,EI V,H⟩
     ·replace h:=jret h;obtain rfl:=sj h;exact ⟨nofun,(.inr ⟨_,V,V,hE⟩)⟩
   refine .exit ?_;obtain rfl:=sj h;exact ⟨nofun,(.inl ⟨_,V,V,U,((H.erase 1).erase 0)⟩)⟩
  ·rintro x e σ (⟨a6,rfl,rfl,he,H⟩ | ⟨r',rfl,rfl,hE⟩)
   ·replace h:=jgo h;obtain ⟨e,rfl⟩:=he.ex;refine .tR 1 V H fun b18 σ H => (.aV V (.nila H fun H => (.ret ?_)));obtain rfl:=sj h;exact Ends.eR V
   ·replace h:=jret h;obtain rfl:=sj h;exact hE
theorem Z0i {x':(List Granule)} {target:Int} {cmp:Granule→Int→Option Int} {C:List Res} {cv0:PV} (hs0:cv0.one = true) (hp0:cv0.pure = true→C = []) (hf0:∀ z0 z1 y,cmp z0 z1 = some y→CloH CX cv0 [(.agg (vs (Granule.cs z0))),(vi z1)] (vi y) C) {r:Int × Bool} (h:Z2 x' target cmp = some r):FnH CX 91 [(vl Granule.cs x'),(vi target),cv0] (.tup [(vi r.1),(vb r.2)]) C:=by
 refine FnH.of Tryz.func91 V V V V (Z49 V (Z49 V (Z49 (Z4G hs0) all_nil))) V (fun h => hp0 (Z3A h 2 V)) ?_;intro σ L hC H;unfold Z2 at h;refine .tR 2 V H fun b1 σ H => (.aV V (.aV V (.nila H fun H => (.tR 3 V H fun b2 σ H => (.mV V (.nV V (.aV V (.nila H fun H => ?_))))))));refine .tR 3 V H fun b3 σ H => (.mV V (.aV V (.aV V (.nila H fun H => (.then (.inBlock ?_))))));refine .lp h (fun s1 => [(0,(vl Granule.cs x')),(1,(vi target)),(2,cv0),(8,(vi (x'.length:Int))),(9,(vi s1.1)),(10,(vi s1.2))]) (fun s1 => (L)) (.exit 0) (fun y1 => [(0,(vl Granule.cs x')),(1,(vi target)),(2,cv0),(8,(vi (x'.length:Int))),(9,(vi y1))]) (fun y1 => (L)) (EI V) H (fun s1 e σ H z h => ?_) fun y1 e σ H h => ?_
 ·unfold Z2.s0 at h;refine .then (.tR 3 V H fun b4 σ H => (.mV V (.mV V (.iV V (.nila H fun H => ?_)))));refine .wh h V ?_ ?_ <;> intro h
  ·refine .skip (.inBlock ?_);refine .jn h .normal (fun y2 => [(0,(vl Granule.cs x')),(1,(vi target)),(2,cv0),(8,(vi (x'.length:Int))),(9,(vi y2.1)),(10,(vi y2.2))]) (fun y2 => (L)) (fun y2 h => ?_) fun y2 e σ H h => ?_
   ·refine .tR 7 V H fun b5 σ H => (.mV V (.mV V (.iV V (.conv (m:=(w64 (s1.1 + s1.2))) V V V V (.shr (m:=(IntKind.u64.wrap (w64 (s1.1 + s1.2)))) (m':=1) V V (by decide) V (.conv (m:=((IntKind.u64.wrap (w64 (s1.1 + s1.2))).fdiv (2 ^ 1))) V V V V (.aV V (.nila H fun H => ?_))))))));refine .tR 8 V H fun b6 σ H => (.m1 cv0 V V (.mV V (.mV V ?_)));obtain ⟨x1,q1,h⟩:=bs h;refine .jV q1 V (.qV [(.int .i64 x1.Index),(.sl (x1.Ticks.map Span.cs))] V (.mV V ?_));obtain ⟨x2,q2,h⟩:=bs h;refine .callV (cv:=cv0) (ys:=[(.agg (vs (Granule.cs x1))),(vi target)]) (r:=(vi x2)) H V V (hf0 x1 target _ q2) hC nofun V fun σ H => (.iV V (.nila H fun H => ?_));refine .wh h V ?_ ?_ <;> intro h
    ·refine .Z4 3 V H fun b7 σ H => (.mV V (.iV V (.aV V (.nila H fun H => ?_))));obtain rfl:=sj h;exact ⟨V,EI V,H⟩
    refine .Z4 2 V H fun b8 σ H => (.mV V (.aV V (.nila H fun H => ?_)));obtain rfl:=sj h;exact ⟨V,EI V,H⟩
   obtain rfl:=sj h;exact ⟨V,EI V,H⟩
  refine .exit ?_;obtain rfl:=sj h;exact ⟨nofun,⟨V,EI V,H⟩⟩
 refine .tR 16 V H fun b9 σ H => (.mV V (.mV V (.mV V (.iV V (.mV V ?_)))));obtain ⟨y3,hj3,h⟩:=bs h;refine .md H 9 [(48,(vb y3)),(35,(vi y1))] (L) V ?_ fun e σ H => ?_
 ·refine .sp hj3 V ?_ ?_ <;> intro h
  ·refine .m1 cv0 V V (.mV V (.mV V (.wt V V ?_)));obtain ⟨x3,q3,h⟩:=bs h;refine .jV q3 V (.qV [(.int .i64 x3.Index),(.sl (x3.Ticks.map Span.cs))] V (.mV V (.wt V V ?_)));obtain ⟨x4,q4,h⟩:=bs h;refine .callV (cv:=cv0) (ys:=[(.agg (vs (Granule.cs x3))),(vi target)]) (r:=(vi x4)) H V V (hf0 x3 target _ q4) hC nofun V fun σ H => (.iV V (.kT V (.nil ?_)));obtain rfl:=sj h;exact ⟨EI V,H.wk (by omega)⟩
  refine .ps 8 V (.kF V (.nil ?_));obtain rfl:=sj h;exact ⟨EI V,H.wk (by omega)⟩
 refine .aV V (.aV V (.nila H fun H => (.ret ?_)));obtain rfl:=sj h;exact (EndsH.H (xs:=[(vi y1),(vb y3)]) (.inr V) H (.tmp (v:=(vi y1)) V (.tmp (v:=(vb y3)) V .nil)) (.two (.cons (.c (.v _)) (.cons (.c (.v _)) .nil))) 0 V)
theorem Z6d {x':Int} {r:Bool} (h:Z2l x' = r):Fn CX 106 [(vi x')] (vb r):=by
 refine Fn.go Tryz.func106 V fun σ H => ?_;unfold Z2l at h;refine .tR 1 V H fun b1 σ H => (.aV V (.nila H fun H => (.tR 4 V H fun b2 σ H => (.mV V (.mV V (.iV V (.aV V (.nila H fun H => ?_))))))));refine .ret ?_;subst h;exact Ends.eR V
theorem Z5X {x':Int} {y:Int} {r:Int} (h:Z20 x' y = r):Fn CX 93 [(vi x'),(vi y)] (vi r):=by
 refine Fn.go Tryz.func93 V fun σ H => ?_;unfold Z20 at h;refine .tR 1 V H fun b1 σ H => (.aV V (.nila H fun H => (.tR 3 V H fun b2 σ H => (.mV V (.cV (Z6d V) V (.aV V (.nila H fun H => (.tR 3 V H fun b3 σ H => ?_))))))));refine .mV V (.cV (Z6d V) V (.aV V (.nila H fun H => (.then (.tR 1 V H fun b4 σ H => (.mV V (.nila H fun H => ?_)))))));refine .wh h V ?_ ?_ <;> intro h
 ·refine .then (.tR 1 V H fun b5 σ H => (.mV V (.nila H fun H => ?_)));refine .wh h V ?_ ?_ <;> intro h
  ·refine .tR 1 V H fun b6 σ H => (.aV V (.nila H fun H => (.ret ?_)));subst h;exact Ends.eR V
  refine .skip (.tR 1 V H fun b7 σ H => (.aV V (.nila H fun H => (.ret ?_))));subst h;exact Ends.eR V
 refine .skip (.then (.tR 1 V H fun b8 σ H => (.mV V (.nila H fun H => ?_))));refine .wh h V ?_ ?_ <;> intro h
 ·refine .tR 1 V H fun b9 σ H => (.aV V (.nila H fun H => (.ret ?_)));subst h;exact Ends.eR V
 refine .skip (.then (.tR 3 V H fun b10 σ H => (.mV V (.mV V (.iV V (.nila H fun H => ?_))))));refine .wh h V ?_ ?_ <;> intro h
 ·refine .tR 1 V H fun b11 σ H => (.aV V (.nila H fun H => (.ret ?_)));subst h;exact Ends.eR V
 refine .skip (.then (.tR 3 V H fun b12 σ H => (.mV V (.mV V (.iV V (.nila H fun H => ?_))))));refine .wh h V ?_ ?_ <;> intro h
 ·refine .tR 1 V H fun b13 σ H => (.aV V (.nila H fun H => (.ret ?_)));subst h;exact Ends.eR V
 refine .skip (.tR 1 V H fun b14 σ H => (.aV V (.nila H fun H => (.ret ?_))));subst h;exact Ends.eR V
theorem gran_odd_1_fn {g:Granule} {i:Int} {r:Int} (h:Z3e g i = r):Fn CX 99 [(.agg (vs (Granule.cs g))),(vi i)] (vi r):=by
 refine Fn.go Tryz.func99 V fun σ H => ?_;unfold Z3e at h;refine .tR 2 V H fun b1 σ H => (.boxH (cs:=[(vi g.Index),(vl Span.cs g.Ticks)]) H (by omega) (by omega) V V V fun σ H => (.aV V (.nila H fun H => (.tR 5 V H fun b2 σ H => (.fV H 0 V (.lV H 0 V (.mV V (.cV (Z5X V) V ?_))))))));refine .aV V (.nila H fun H => (.ret ?_));subst h;exact Ends.eR V
theorem ZBO {f:Form} {i:Int} {r:Int × Bool} (h:Z4p f i = some r):Fn CX 82 [(.agg (vs (Form.cs f))),(vi i)] (.tup [(vi r.1),(vb r.2)]):=by
 refine Fn.go Tryz.func82 V fun σ H => ?_;unfold Z4p at h;refine .tR 3 V H fun b1 σ H => (.boxH (cs:=(vF f)) H (by omega) (by omega) V V V fun σ H => (.aV V (.aV V (.nila H fun H => (.tR 8 V H fun b2 σ H => (.fV H 0 V (.lV H 0 V (.mV V ?_))))))));obtain ⟨x1,q1,h⟩:=bs h;refine .Z7Q (ys:=[(vl Granule.cs f.Odd),(vi i),(.v (.fn 99))]) (r:=(.tup [(vi x1.1),(vb x1.2)])) H V (Z0i (C:=[]) V (fun _ => V) (fun z0 z1 y hz => (CloH.fn (Fn.toH (gran_odd_1_fn (Option.some.inj hz)) _))) q1) .nil nofun V fun σ H => (.xV V (.xV V (.aV V (.aV V (.nila H fun H => (.ret ?_))))));obtain rfl:=sj h;exact Ends.eR V
theorem Z1m {a:Int} {b:Int} {r:Int × Int × Int} (h:Z0P a b = some r):Fn CX 36 [(vi a),(vi b)] (.tup [(vi r.1),(vi r.2.1),(vi r.2.2)]):=by
 refine Fn.go Tryz.func36 V fun σ H => ?_;unfold Z0P at h;refine .tR 3 V H fun b1 σ H => (.aV V (.aV V (.aV V (.nila H fun H => (.then (.inBlock (.tR 3 V H fun b2 σ H => (.mV V ?_))))))));refine .iV V (.aV V (.nila H fun H => ?_));refine .wh h V ?_ ?_ <;> intro h
 ·refine .tR 3 V H fun b3 σ H => (.aV V (.aV V (.aV V (.nila H fun H => (.ret ?_)))));obtain rfl:=sj h;exact Ends.eR V
 refine .tR 7 V H fun b4 σ H => (.mV V (.iV V (.mV V ?_)));refine .md H 3 [(18,(vb ((b == (-1)) && (a == (-9223372036854775808))))),(0,(vi a)),(1,(vi b))] [] V ?_ fun e σ H => ?_
 ·refine .split V V ?_ ?_ <;> intro hc2
  ·refine .mV V (.iV V (.kT V (.nil ?_)));exact ⟨⟨Z2V hc2,V,V,U⟩,H.wk (by omega)⟩
  ·refine .ps 2 V (.kF V (.nil ?_));exact ⟨⟨Z2S hc2,V,V,U⟩,H.wk (by omega)⟩
 refine .aV V (.nila H fun H => ?_);refine .wh h V ?_ ?_ <;> intro h
 ·refine .tR 3 V H fun b5 σ H => (.aV V (.aV V (.aV V (.nila H fun H => (.ret ?_)))));obtain rfl:=sj h;exact Ends.eR V
 refine .skip (.then (.Zr 8 V (by kernel_rfl) H fun b6 σ H B6 => (.mV V (.mV V ?_))));obtain ⟨u1,q1,h⟩:=bs h;refine .quo (m:=a) (m':=b) V V (Z6i q1) V (.mV V (.mV V ?_));obtain ⟨u2,q2,h⟩:=bs h;refine .rem (m:=a) (m':=b) V V (Z6i q2) V (.aV V (.aV V (.nila H fun H => (.then ?_))));refine .jn h .normal (fun y1 => [(7,(vi y1.1)),(8,(vi y1.2))]) (fun y1 => []) (fun y1 h => ?_) fun y1 e σ H h => ?_
 ·refine .tR 9 V H fun b7 σ H => (.mV V (.iV V (.mV V ?_)));refine .md H 6 [(33,(vb (((a.tmod b) != 0) && ((decide ((a.tmod b) < 0)) != (decide (b < 0)))))),(1,(vi b)),(7,(vi (w64 (a.tdiv b)))),(8,(vi (a.tmod b)))] [] V ?_ fun e σ H => ?_
  ·refine .split V V ?_ ?_ <;> intro hc4
   ·refine .mV V (.iV V (.mV V (.iV V (.wt V V (.neB (b:=(decide ((a.tmod b) < 0))) (b':=(decide (b < 0))) V V V V (.kT V (.nil ?_)))))));exact ⟨⟨Z2V hc4,V,V,V,U⟩,H.wk (by omega)⟩
   ·refine .ps 5 V (.kF V (.nil ?_));exact ⟨⟨Z2S hc4,V,V,V,U⟩,H.wk (by omega)⟩
  refine .nila H fun H => ?_;refine .wh h V ?_ ?_ <;> intro h
  ·refine .Z4 7 V H fun b8 σ H => (.mV V (.iV V (.mV V (.mV V (.iV V (.aV V (.aV V (.nila H fun H => ?_))))))));obtain rfl:=sj h;exact ⟨V,EI V,H⟩
  refine .skip ?_;obtain rfl:=sj h;exact ⟨V,EI V,H⟩
 refine .tR 5 V H fun b9 σ H => (.mV V (.mV V (.aV V (.aV V (.aV V (.nila H fun H => (.ret ?_)))))));obtain rfl:=sj h;exact Ends.eR V
theorem Z56 {a:Int} {r:Int} (h:Zg a = r):Fn CX 79 [(vi a)] (vu r):=by
 refine Fn.go Tryz.func79 V fun σ H => ?_;unfold Zg at h;refine .tR 1 V H fun b1 σ H => (.aV V (.nila H fun H => (.then (.tR 2 V H fun b2 σ H => (.mV V (.iV V (.nila H fun H => ?_)))))));refine .wh h V ?_ ?_ <;> intro h
 ·refine .tR 4 V H fun b3 σ H => (.mV V (.conv (m:=a) V V V V (.neg (m:=(IntKind.u64.wrap a)) V V (.aV V (.nila H fun H => (.ret ?_))))));subst h;exact Ends.eR V
 refine .skip (.tR 3 V H fun b4 σ H => (.mV V (.conv (m:=a) V V V V (.aV V (.nila H fun H => (.ret ?_))))));subst h;exact Ends.eR V
theorem Z5F {x':Int} {y:Int} {r:Int × Int} (h:Zw x' y = r):Fn CX 78 [(vu x'),(vu y)] (.tup [(vu r.1),(vu r.2)]):=by
 refine Fn.go Tryz.func78 V fun σ H => ?_;unfold Zw at h;refine .tR 2 V H fun b1 σ H => (.aV V (.aV V (.nila H fun H => (.tR 3 V H fun b2 σ H => (.mV V (.iV V (.aV V (.nila H fun H => ?_))))))));refine .tR 3 V H fun b3 σ H => (.mV V (.shr (m:=x') (m':=32) V V (by decide) V (.aV V (.nila H fun H => (.tR 3 V H fun b4 σ H => (.mV V (.iV V (.aV V ?_))))))));refine .nila H fun H => (.tR 3 V H fun b5 σ H => (.mV V (.shr (m:=y) (m':=32) V V (by decide) V (.aV V (.nila H fun H => (.tR 4 V H fun b6 σ H => (.mV V (.mV V ?_))))))));refine .iV V (.aV V (.nila H fun H => (.tR 7 V H fun b7 σ H => (.mV V (.mV V (.iV V (.mV V (.shr (m:=(IntKind.u64.wrap ((iAnd .u64 x' 4294967295) * (iAnd .u64 y 4294967295)))) (m':=32) V V (by decide) V ?_))))))));refine .iV V (.aV V (.nila H fun H => (.tR 3 V H fun b8 σ H => (.mV V (.iV V (.aV V (.nila H fun H => (.tR 3 V H fun b9 σ H => ?_))))))));refine .mV V (.shr (m:=(IntKind.u64.wrap ((IntKind.u64.wrap ((x'.fdiv (2 ^ 32)) * (iAnd .u64 y 4294967295))) + ((IntKind.u64.wrap ((iAnd .u64 x' 4294967295) * (iAnd .u64 y 4294967295))).fdiv (2 ^ 32))))) (m':=32) V V (by decide) V (.aV V (.nila H fun H => (.tR 6 V H fun b10 σ H => (.mV V (.mV V (.mV V (.iV V ?_))))))));refine .iV V (.aV V (.nila H fun H => (.tR 9 V H fun b11 σ H => (.mV V (.mV V (.iV V (.mV V (.iV V ?_))))))));refine .mV V (.shr (m:=(IntKind.u64.wrap ((iAnd .u64 (IntKind.u64.wrap ((IntKind.u64.wrap ((x'.fdiv (2 ^ 32)) * (iAnd .u64 y 4294967295))) + ((IntKind.u64.wrap ((iAnd .u64 x' 4294967295) * (iAnd .u64 y 4294967295))).fdiv (2 ^ 32)))) 4294967295) + (IntKind.u64.wrap ((iAnd .u64 x' 4294967295) * (y.fdiv (2 ^ 32))))))) (m':=32) V V (by decide) V (.iV V (.aV V (.nila H fun H => (.tR 4 V H fun b12 σ H => (.mV V (.mV V (.iV V ?_))))))))
 refine .aV V (.nila H fun H => (.ret ?_));subst h;exact Ends.eR V
theorem Z87 {n:Int} {minus:Bool} {r:Int × Int} (h:Z2T n minus = r):Fn CX 80 [(vu n),(vb minus)] (.tup [(vi r.1),(vi r.2)]):=by
 refine Fn.go Tryz.func80 V fun σ H => ?_;unfold Z2T at h;refine .tR 2 V H fun b1 σ H => (.aV V (.aV V (.nila H fun H => (.then (.inBlock (.tR 6 V H fun b2 σ H => (.mV V (.mV V ?_))))))));refine .md H 3 [(11,(vb (minus && (decide (n≤9223372036854775808))))),(0,(vu n)),(1,(vb minus))] [] V ?_ fun e σ H => ?_
 ·refine .split V V ?_ ?_ <;> intro hc1
  ·refine .mV V (.iV V (.kT V (.nil ?_)));exact ⟨⟨Z2V hc1,V,V,U⟩,H.wk (by omega)⟩
  ·refine .ps 2 V (.kF V (.nil ?_));exact ⟨⟨Z2S hc1,V,V,U⟩,H.wk (by omega)⟩
 refine .aV V (.nila H fun H => ?_);refine .wh h V ?_ ?_ <;> intro h
 ·refine .tR 5 V H fun b3 σ H => (.mV V (.neg (m:=n) V V (.conv (m:=(IntKind.u64.wrap (0 - n))) V V V V (.aV V (.aV V (.nila H fun H => (.ret ?_)))))));subst h;exact Ends.eR V
 refine .tR 7 V H fun b4 σ H => (.mV V (.tV V (.mV V ?_)));refine .md H 3 [(21,(vb ((!minus) && (decide (n≤9223372036854775807))))),(0,(vu n))] [] V ?_ fun e σ H => ?_
 ·refine .split V V ?_ ?_ <;> intro hc3
  ·refine .mV V (.iV V (.kT V (.nil ?_)));exact ⟨⟨Z2V hc3,V,U⟩,H.wk (by omega)⟩
  ·refine .ps 2 V (.kF V (.nil ?_));exact ⟨⟨Z2S hc3,V,U⟩,H.wk (by omega)⟩
 refine .aV V (.nila H fun H => ?_);refine .wh h V ?_ ?_ <;> intro h
 ·refine .tR 4 V H fun b5 σ H => (.mV V (.conv (m:=n) V V V V (.aV V (.aV V (.nila H fun H => (.ret ?_))))));subst h;exact Ends.eR V
 refine .skip (.tR 2 V H fun b6 σ H => (.aV V (.aV V (.nila H fun H => (.ret ?_)))));subst h;exact Ends.eR V
theorem Z5s {a:Int} {b:Int} {r:Int × Int} (h:ZL a b = r):Fn CX 56 [(vi a),(vi b)] (.tup [(vi r.1),(vi r.2)]):=by
 refine Fn.go Tryz.func56 V fun σ H => ?_;unfold ZL at h;refine .tR 2 V H fun b1 σ H => (.aV V (.aV V (.nila H fun H => (.tR 10 V H fun b2 σ H => (.mV V (.cV (Z56 V) V (.mV V (.cV (Z56 V) V ?_))))))));refine .cV (Z5F V) V (.m1 (.tup [(vu (Zw (Zg a) (Zg b)).1),(vu (Zw (Zg a) (Zg b)).2)]) V V (.xV V (.xV V (.aV V (.aV V (.nila H fun H => (.then (.tR 2 V H fun b3 σ H => ?_))))))));refine .mV V (.iV V (.nila H fun H => ?_));refine .wh h V ?_ ?_ <;> intro h
 ·refine .tR 2 V H fun b4 σ H => (.aV V (.aV V (.nila H fun H => (.ret ?_))));subst h;exact Ends.eR V
 refine .skip (.tR 11 V H fun b5 σ H => (.mV V (.mV V (.iV V (.mV V (.iV V (.neB (b:=(decide (a < 0))) (b':=(decide (b < 0))) V V V V (.cV (Z87 V) V ?_))))))));refine .xV V (.xV V (.aV V (.aV V (.nila H fun H => (.ret ?_)))));subst h;exact Ends.eR V
theorem Z9W {f:Form} {i:Int} {r:(List Span) × Int × Int} (h:Z2f f i = some r):Fn CX 61 [(.agg (vs (Form.cs f))),(vi i)] (.tup [(vl Span.cs r.1),(vi r.2.1),(vi r.2.2)]):=by
 refine Fn.go Tryz.func61 V fun σ H => ?_;unfold Z2f at h;refine .tR 4 V H fun b1 σ H => (.boxH (cs:=(vF f)) H (by omega) (by omega) V V V fun σ H => (.a1 .nils V V (.aV V (.aV V (.nila H fun H => (.then (.tR 8 V H fun b2 σ H => (.LV (vF f) H 0 V ?_))))))));refine .mV V ?_;obtain ⟨x1,q1,h⟩:=bs h;refine .cV (ZBO q1) V (.m1 (.tup [(vi x1.1),(vb x1.2)]) V V (.xV V (.xV V (.aV V (.aV V (.nila H fun H => (.tR 1 V H fun b3 σ H => (.mV V ?_))))))));refine .nila H fun H => ?_;refine .wh h V ?_ ?_ <;> intro h
 ·refine .tR 9 V H fun b4 σ H => (.fV H 0 V (.lV H 0 V (.mV V ?_)));obtain ⟨x2,q2,h⟩:=bs h;refine .jV q2 V (.Z8 V V V V (.pV V (.aV V (.aV V (.aV V (.nila H fun H => (.ret ?_)))))));obtain rfl:=sj h;exact Ends.eR V
 refine .skip (.then (.tR 3 V H fun b5 σ H => (.fV H 0 V (.lV H 0 V (.iV V (.nila H fun H => ?_))))));refine .wh h V ?_ ?_ <;> intro h
 ·refine .tR 3 V H fun b6 σ H => (.a1 .nils V V (.aV V (.aV V (.nila H fun H => (.ret ?_)))));obtain rfl:=sj h;exact (Ends.H (xs:=[.nils,(vi 0),(vi 0)]) (.inr V) H (.tmp (v:=.nils) V (.tmp (v:=(vi 0)) V (.tmp (v:=(vi 0)) V .nil))) (.two (.cons (.c .n) (.cons (.c (.v _)) (.cons (.c (.v _)) .nil)))))
 refine .skip (.tR 11 V H fun b7 σ H => (.mV V (.fV H 0 V (.lV H 0 V ?_))));obtain ⟨x3,q3,h⟩:=bs h;refine .cV (Z1m q3) V (.m1 (.tup [(vi x3.1),(vi x3.2.1),(vi x3.2.2)]) V V (.xV V (.xV V (.xV V (.aV V (.aV V (.aV V (.nila H fun H => ?_))))))));refine .tR 9 V H fun b8 σ H => (.mV V (.fV H 0 V (.lV H 0 V (.cV (Z5s V) V (.m1 (.tup [(vi (ZL x3.1 f.Period).1),(vi (ZL x3.1 f.Period).2)]) V V (.xV V (.xV V (.aV V ?_))))))));refine .aV V (.nila H fun H => (.tR 10 V H fun b9 σ H => (.fV H 0 V (.lV H 0 V (.mV V ?_)))));obtain ⟨x4,q4,h⟩:=bs h;refine .jV q4 V (.pV V (.mV V (.mV V (.aV V (.aV V (.aV V (.nila H fun H => (.ret ?_))))))));obtain rfl:=sj h;exact Ends.eR V
theorem Z64 {a:Int} {b:Int} {r:Int × Int} (h:ZN a b = r):Fn CX 67 [(vi a),(vi b)] (.tup [(vi r.1),(vi r.2)]):=by
 refine Fn.go Tryz.func67 V fun σ H => ?_;unfold ZN at h;refine .tR 2 V H fun b1 σ H => (.aV V (.aV V (.nila H fun H => (.tR 4 V H fun b2 σ H => (.mV V (.mV V (.iV V (.aV V ?_))))))));refine .nila H fun H => (.then (.tR 10 V H fun b3 σ H => (.mV V (.mV V (.iV V (.mV V (.iV V (.neB (b:=(decide ((w64 (a + b)) > a))) (b':=(decide (b > 0))) V V V V ?_))))))));refine .mV V ?_;refine .md H 3 [(19,(vb (((decide ((w64 (a + b)) > a)) != (decide (b > 0))) && (b != 0)))),(6,(vi (w64 (a + b))))] [] V ?_ fun e σ H => ?_
 ·refine .split V V ?_ ?_ <;> intro hc1
  ·refine .mV V (.iV V (.kT V (.nil ?_)));exact ⟨⟨Z2V hc1,V,U⟩,H.wk (by omega)⟩
  ·refine .ps 2 V (.kF V (.nil ?_));exact ⟨⟨Z2S hc1,V,U⟩,H.wk (by omega)⟩
 refine .nila H fun H => ?_;refine .wh h V ?_ ?_ <;> intro h
 ·refine .tR 2 V H fun b4 σ H => (.aV V (.aV V (.nila H fun H => (.ret ?_))));subst h;exact Ends.eR V
 refine .skip (.tR 3 V H fun b5 σ H => (.mV V (.aV V (.aV V (.nila H fun H => (.ret ?_))))));subst h;exact Ends.eR V
end Go.Dn

namespace Go.Dn
open Go Go.Proofs
set_option maxRecDepth 100000
set_option maxHeartbeats 4000000
theorem Z8e {l:(List Span)} {by':Int} {r:(List Span) × Int} (h:Z0H l by' = some r):Fn CX 62 [(vl Span.cs l),(vi by')] (.tup [(vl Span.cs r.1),(vi r.2)]):=by
 refine Fn.go Tryz.func62 V fun σ H => ?_;unfold Z0H at h;refine .tR 2 V H fun b1 σ H => (.a1 .nils V V (.aV V (.nila H fun H => (.tR 1 V H fun b2 σ H => (.a1 .nils V V (.nila H fun H => (.then (.tR 3 V H fun b3 σ H => ?_))))))));refine .mV V (.nV V (.mV V (.nila H fun H => (.inBlock ?_))));replace H:=H.pushNil 46 2 true;obtain ⟨y1,hj1,h⟩:=bs h;obtain ⟨n1,hj1⟩:=ZM.1 hj1;refine .mono (Runs.loopO hj1 (fun s2 e σ => ∃ (w3:PV),Z6 e [(1,(vi by')),(6,w3),(13,(vl Span.cs l)),(14,(vi (l.length:Int))),(15,(vi s2.1))]∧Hs σ [.sl w3 46 2 (s2.2.map Span.cs) true]) (fun y1 x e σ => (∃ a1,∃ (w4:PV),y1 = (.go a1)∧x = .exit 0∧Z6 e [(6,w4)]∧Hs σ [.sl w4 46 2 (a1.map Span.cs) true])∨(∃ r',y1 = (.ret r')∧x = .ret∧Ends CX Tryz.f62.results.toList (.tup [(vl Span.cs r'.1),(vi r'.2)]) x e σ)) ⟨.nils,EI V,H⟩ ?_) ?_
 ·intro s2 e σ hI z h;obtain ⟨w3,he,H⟩:=hI;obtain ⟨e,rfl⟩:=he.ex;unfold Z0H.s0 at h;refine .tR 1 V H fun b4 σ H => (.iV V (.nila H fun H => (.then ?_)));refine .wh h V ?_ ?_ <;> intro h
  ·refine .skip (.then (.inBlock (.tR 4 V H fun b5 σ H => ?_)));obtain ⟨x1,q1,h⟩:=bs h;refine .jV q1 V (.qV [(.int .i64 x1.From),(.int .i64 x1.To)] V (.Za (cs:=[(vi 0),(vi 0)]) H (by omega) (by omega) V V fun σ H => (.sV [(vi x1.From),(vi x1.To)] H 0 V fun σ H => (.nila H fun H => (.tR 9 V H fun b6 σ H => (.fV H 0 V (.lV H 0 V (.mV V ?_))))))));refine .cV (Z64 V) V (.m1 (.tup [(vi (ZN x1.From by').1),(vi (ZN x1.From by').2)]) V V (.xV V (.xV V (.aV V (.aV V (.nila H fun H => (.tR 9 V H fun b7 σ H => (.fV H 0 V ?_))))))));refine .lV H 0 V (.mV V (.cV (Z64 V) V (.m1 (.tup [(vi (ZN x1.To by').1),(vi (ZN x1.To by').2)]) V V (.xV V (.xV V (.aV V (.aV V (.nila H fun H => ?_))))))));refine .then (.tR 16 V H fun b8 σ H => (.mV V (.iV V (.mV V ?_))));refine .md H 3 [(38,(vb ((((ZN x1.From by').2) != 0) || (((ZN x1.To by').2) != 0)))),(1,(vi by')),(6,w3),(9,(vi (ZN x1.From by').1)),(11,(vi (ZN x1.To by').1)),(13,(vl Span.cs l)),(14,(vi (l.length:Int))),(15,(vi s2.1))] [.sl w3 46 2 (s2.2.map Span.cs) true] rfl ?_ fun e σ H => ?_
   ·refine .split V V ?_ ?_ <;> intro hc2
    ·refine .ps 2 V (.kT V (.nil ?_));exact ⟨⟨or_T hc2,V,V,V,V,V,V,V,U⟩,(H.erase 0).wk (by omega)⟩
    ·refine .mV V (.iV V (.kF V (.nil ?_)));exact ⟨⟨or_F hc2,V,V,V,V,V,V,V,U⟩,(H.erase 0).wk (by omega)⟩
   refine .mV V ?_;refine .md H 4 [(43,(vb (((((ZN x1.From by').2) != 0) || (((ZN x1.To by').2) != 0)) || (!(Z0v ((ZN x1.From by').1)))))),(1,(vi by')),(6,w3),(9,(vi (ZN x1.From by').1)),(11,(vi (ZN x1.To by').1)),(13,(vl Span.cs l)),(14,(vi (l.length:Int))),(15,(vi s2.1))] [.sl w3 46 2 (s2.2.map Span.cs) true] rfl ?_ fun e σ H => ?_
   ·refine .split V V ?_ ?_ <;> intro hc3
    ·refine .ps 3 V (.kT V (.nil ?_));exact ⟨⟨or_T hc3,V,V,V,V,V,V,V,U⟩,H.wk (by omega)⟩
    ·refine .mV V (.cV (Z4X V) V (.tV V (.kF V (.nil ?_))));exact ⟨⟨or_F hc3,V,V,V,V,V,V,V,U⟩,H.wk (by omega)⟩
   refine .mV V ?_;refine .md H 4 [(48,(vb ((((((ZN x1.From by').2) != 0) || (((ZN x1.To by').2) != 0)) || (!(Z0v ((ZN x1.From by').1)))) || (!(Z0v ((ZN x1.To by').1)))))),(1,(vi by')),(6,w3),(9,(vi (ZN x1.From by').1)),(11,(vi (ZN x1.To by').1)),(13,(vl Span.cs l)),(14,(vi (l.length:Int))),(15,(vi s2.1))] [.sl w3 46 2 (s2.2.map Span.cs) true] rfl ?_ fun e σ H => ?_
   ·refine .split V V ?_ ?_ <;> intro hc4
    ·refine .ps 3 V (.kT V (.nil ?_));exact ⟨⟨or_T hc4,V,V,V,V,V,V,V,U⟩,H.wk (by omega)⟩
    ·refine .mV V (.cV (Z4X V) V (.tV V (.kF V (.nil ?_))));exact ⟨⟨or_F hc4,V,V,V,V,V,V,V,U⟩,H.wk (by omega)⟩
   refine .nila H fun H => ?_;refine .wh h V ?_ ?_ <;> intro h
   ·refine .tR 2 V H fun b9 σ H => (.a1 .nils V V (.aV V (.nila H fun H => (.ret ?_))));obtain rfl:=sj h;exact ⟨nofun,(.inr ⟨_,V,V,(Ends.H (xs:=[.nils,(vi 20)]) (.inr V) H (.tmp (v:=.nils) V (.tmp (v:=(vi 20)) V .nil)) (.two (.cons (.c .n) (.cons (.c (.v _)) .nil))))⟩)⟩
   refine .skip (.Z4 7 V H fun b10 σ H => (.m1 w3 V V (.mV V (.mV V (.bV [(vi (ZN x1.From by').1),(vi (ZN x1.To by').1)] V (.Z0p (sz:=2) ([(Span.mk ((ZN x1.From by').1) ((ZN x1.To by').1))].map Span.cs) H (by omega) (by omega) V V V V V V V V V fun σ H => ?_))))));obtain ⟨x2,q2,h⟩:=bs h;refine .Z16 (c:=Span.cs) (v:=w3) (w:=(.buf (b10 + 4) 1 2)) (xs:=s2.2) (ys:=[(Span.mk ((ZN x1.From by').1) ((ZN x1.To by').1))]) H (by omega) (by omega) 1 V V V (.s 0 V) q2 V V V V V nofun V fun w5 σ H => (.a1 w5 V V (.nila H fun H => (.Z4 2 V H fun b11 σ H => (.iV V (.mV V (.nila H fun H => ?_))))));obtain rfl:=sj h;exact ⟨V,w5,EI V,(H.erase 0)⟩
  refine .exit ?_;obtain rfl:=sj h;exact ⟨nofun,(.inl ⟨_,w3,V,V,EI V,H⟩)⟩
 ·rintro x e σ (⟨a2,w6,rfl,rfl,he,H⟩ | ⟨r',rfl,rfl,hE⟩)
  ·replace h:=jgo h;obtain ⟨e,rfl⟩:=he.ex;refine .tR 3 V H fun b12 σ H => (.m1 w6 V V (.a1 w6 V V (.aV V (.nila H fun H => (.ret ?_)))));obtain rfl:=sj h;exact (Ends.H (xs:=[w6,(vi 0)]) (.inr V) H (.tmp (v:=w6) V (.tmp (v:=(vi 0)) V .nil)) (.two (.cons (.c (.s 0 V)) (.cons (.c (.v _)) .nil))))
  ·replace h:=jret h;obtain rfl:=sj h;exact hE
theorem Z4Z {f:Form} {i:Int} {r:(List Span) × Int} (h:Z0Z f i = some r):Fn CX 39 [(.agg (vs (Form.cs f))),(vi i)] (.tup [(vl Span.cs r.1),(vi r.2)]):=by
 refine Fn.go Tryz.func39 V fun σ H => ?_;unfold Z0Z at h;refine .tR 3 V H fun b1 σ H => (.boxH (cs:=(vF f)) H (by omega) (by omega) V V V fun σ H => (.a1 .nils V V (.aV V (.nila H fun H => (.then (.tR 3 V H fun b2 σ H => (.mV V (.cV (Z4s V) V ?_))))))));refine .tV V (.nila H fun H => ?_);refine .wh h V ?_ ?_ <;> intro h
 ·refine .tR 2 V H fun b3 σ H => (.a1 .nils V V (.aV V (.nila H fun H => (.ret ?_))));obtain rfl:=sj h;exact (Ends.H (xs:=[.nils,(vi 20)]) (.inr V) H (.tmp (v:=.nils) V (.tmp (v:=(vi 20)) V .nil)) (.two (.cons (.c .n) (.cons (.c (.v _)) .nil))))
 refine .skip (.tR 10 V H fun b4 σ H => (.LV (vF f) H 0 V (.mV V ?_)));obtain ⟨x1,q1,h⟩:=bs h;refine .cV (Z9W q1) V (.m1 (.tup [(vl Span.cs x1.1),(vi x1.2.1),(vi x1.2.2)]) V V (.xV V (.xV V (.xV V (.aV V (.aV V (.aV V (.nila H fun H => ?_))))))));refine .then (.tR 3 V H fun b5 σ H => (.mV V (.nV V (.iV V (.nila H fun H => ?_)))));refine .wh h V ?_ ?_ <;> intro h
 ·refine .tR 2 V H fun b6 σ H => (.a1 .nils V V (.aV V (.nila H fun H => (.ret ?_))));obtain rfl:=sj h;exact (Ends.H (xs:=[.nils,(vi 0)]) (.inr V) H (.tmp (v:=.nils) V (.tmp (v:=(vi 0)) V .nil)) (.two (.cons (.c .n) (.cons (.c (.v _)) .nil))))
 refine .skip (.then (.tR 2 V H fun b7 σ H => (.mV V (.iV V (.nila H fun H => ?_)))));refine .wh h V ?_ ?_ <;> intro h
 ·refine .tR 2 V H fun b8 σ H => (.a1 .nils V V (.aV V (.nila H fun H => (.ret ?_))));obtain rfl:=sj h;exact (Ends.H (xs:=[.nils,(vi 20)]) (.inr V) H (.tmp (v:=.nils) V (.tmp (v:=(vi 20)) V .nil)) (.two (.cons (.c .n) (.cons (.c (.v _)) .nil))))
 refine .skip (.tR 7 V H fun b9 σ H => (.mV V (.mV V ?_)));obtain ⟨x2,q2,h⟩:=bs h;refine .cV (Z8e q2) V (.xV V (.xV V (.aV V (.aV V (.nila H fun H => (.ret ?_))))));obtain rfl:=sj h;exact Ends.eR V
theorem Z3t {s:(List (List Span))} {f:(List Span)→Option Bool} {C:List Res} {cv0:PV} (hs0:cv0.one = true) (hp0:cv0.pure = true→C = []) (hf0:∀ z0 y,f z0 = some y→CloH CX cv0 [(vl Span.cs z0)] (vb y) C) {r:Int} (h:ZE s f = some r):FnH CX 108 [(vl (cL Span.cs) s),cv0] (vi r) C:=by
 refine FnH.of Tryz.func108 V V V V (Z49 V (Z49 (Z4G hs0) all_nil)) V (fun h => hp0 (Z3A h 1 V)) ?_;intro σ L hC H;unfold ZE at h;refine .tR 1 V H fun b1 σ H => (.aV V (.nila H fun H => (.then (.tR 3 V H fun b2 σ H => (.mV V (.nV V (.mV V (.nila H fun H => ?_))))))));refine .inBlock ?_;obtain ⟨y1,hj1,h⟩:=bs h;obtain ⟨n1,hj1⟩:=ZM.1 hj1;refine .mono (Runs.loopO hj1 (fun s1 e σ => Z6 e [(0,(vl (cL Span.cs) s)),(1,cv0),(7,(vi (s.length:Int))),(8,(vi s1))]∧Hs σ (L)) (fun y1 x e σ => (∃ a1,y1 = (.go a1)∧x = .exit 0∧Z6 e []∧Hs σ (L))∨(∃ r',y1 = (.ret r')∧x = .ret∧EndsH CX Tryz.f108.results.toList (vi r') L x e σ)) ⟨EI V,H⟩ ?_) ?_
 ·intro s1 e σ hI z h;obtain ⟨he,H⟩:=hI;obtain ⟨e,rfl⟩:=he.ex;unfold ZE.s0 at h;refine .tR 1 V H fun b3 σ H => (.iV V (.nila H fun H => (.then ?_)));refine .wh h V ?_ ?_ <;> intro h
  ·refine .skip (.then (.inBlock (.tR 2 V H fun b4 σ H => (.mV V (.aV V (.nila H fun H => (.tR 6 V H fun b5 σ H => (.m1 cv0 V V ?_))))))));refine .mV V (.mV V ?_);obtain ⟨x1,q1,h⟩:=bs h;refine .jV q1 V (.pV V ?_);obtain ⟨x2,q2,h⟩:=bs h;refine .callV (cv:=cv0) (ys:=[(vl Span.cs x1)]) (r:=(vb x2)) H V V (hf0 x1 _ q2) hC nofun V fun σ H => (.nila H fun H => ?_);refine .wh h V ?_ ?_ <;> intro h
   ·refine .tR 2 V H fun b6 σ H => (.mV V (.aV V (.nila H fun H => (.ret ?_))));obtain rfl:=sj h;exact ⟨nofun,(.inr ⟨_,V,V,(EndsH.H (xs:=[(vi s1)]) (.inr V) H (.tmp (v:=(vi s1)) V .nil) (.one (.c (.v _))) 0 V)⟩)⟩
   refine .skip (.Z4 2 V H fun b7 σ H => (.iV V (.mV V (.nila H fun H => ?_))));obtain rfl:=sj h;exact ⟨V,EI V,H⟩
  refine .exit ?_;obtain rfl:=sj h;exact ⟨nofun,(.inl ⟨_,V,V,U,H⟩)⟩
 ·rintro x e σ (⟨a2,rfl,rfl,he,H⟩ | ⟨r',rfl,rfl,hE⟩)
  ·replace h:=jgo h;obtain ⟨e,rfl⟩:=he.ex;refine .tR 1 V H fun b8 σ H => (.aV V (.nila H fun H => (.ret ?_)));obtain rfl:=sj h;exact (EndsH.H (xs:=[(vi (-1))]) (.inr V) H (.tmp (v:=(vi (-1))) V .nil) (.one (.c (.v _))) 0 V)
  ·replace h:=jret h;obtain rfl:=sj h;exact hE
theorem Z1j {s:(List (List Span))} {f:(List Span)→Option Bool} {C:List Res} {cv0:PV} (hs0:cv0.one = true) (hp0:cv0.pure = true→C = []) (hf0:∀ z0 y,f z0 = some y→CloH CX cv0 [(vl Span.cs z0)] (vb y) C) {r:Bool} (h:ZX s f = some r):FnH CX 101 [(vl (cL Span.cs) s),cv0] (vb r) C:=by
 refine FnH.of Tryz.func101 V V V V (Z49 V (Z49 (Z4G hs0) all_nil)) V (fun h => hp0 (Z3A h 1 V)) ?_;intro σ L hC H;unfold ZX at h;refine .tR 1 V H fun b1 σ H => (.aV V (.nila H fun H => (.tR 5 V H fun b2 σ H => (.mV V (.m1 cv0 V V ?_)))));obtain ⟨x1,q1,h⟩:=bs h;refine .Z7Q (ys:=[(vl (cL Span.cs) s),cv0]) (r:=(vi x1)) H V (Z3t (C:=C) hs0 hp0 hf0 q1) hC nofun V fun σ H => (.iV V (.aV V (.nila H fun H => (.ret ?_))));obtain rfl:=sj h;exact (EndsH.H (xs:=[(vb (decide (x1 ≥ 0)))]) (.inr V) H (.tmp (v:=(vb (decide (x1 ≥ 0)))) V .nil) (.one (.c (.v _))) 0 V)
theorem ZCS {l:(List Span)} {r:Bool} (h:Z4o l = r):Fn CX 113 [(vl Span.cs l)] (vb r):=by
 refine Fn.go Tryz.func113 V fun σ H => ?_;unfold Z4o at h;refine .tR 1 V H fun b1 σ H => (.aV V (.nila H fun H => (.tR 4 V H fun b2 σ H => (.mV V (.nV V (.iV V (.aV V (.nila H fun H => ?_))))))));refine .ret ?_;subst h;exact Ends.eR V
theorem gran_bare_fn {f:Form} {r:Bool} (h:Z38 f = some r):Fn CX 111 [(.agg (vs (Form.cs f)))] (vb r):=by
 refine Fn.go Tryz.func111 V fun σ H => ?_;unfold Z38 at h;refine .tR 2 V H fun b1 σ H => (.boxH (cs:=(vF f)) H (by omega) (by omega) V V V fun σ H => (.aV V (.nila H fun H => (.tR 5 V H fun b2 σ H => (.fV H 0 V (.lV H 0 V ?_))))));obtain ⟨x1,q1,h⟩:=bs h;refine .Z7Q (ys:=[(vl (cL Span.cs) f.Core),(.v (.fn 113))]) (r:=(vb x1)) H V (Z1j (C:=[]) V (fun _ => V) (fun z0 y hz => (CloH.fn (Fn.toH (ZCS (Option.some.inj hz)) _))) q1) .nil nofun V fun σ H => (.tV V (.aV V (.nila H fun H => (.ret ?_))));obtain rfl:=sj h;exact Ends.eR V
theorem gran_some_fn {f:Form} {i:Int} {r:Bool} (h:Z4Q f i = some r):Fn CX 112 [(.agg (vs (Form.cs f))),(vi i)] (vb r):=by
 refine Fn.go Tryz.func112 V fun σ H => ?_;unfold Z4Q at h;refine .tR 2 V H fun b1 σ H => (.boxH (cs:=(vF f)) H (by omega) (by omega) V V V fun σ H => (.aV V (.nila H fun H => (.tR 10 V H fun b2 σ H => (.LV (vF f) H 0 V (.mV V ?_))))));obtain ⟨x1,q1,h⟩:=bs h;refine .cV (Z9W q1) V (.m1 (.tup [(vl Span.cs x1.1),(vi x1.2.1),(vi x1.2.2)]) V V (.xV V (.xV V (.xV V (.aV V (.aV V (.aV V (.nila H fun H => ?_))))))));refine .tR 4 V H fun b3 σ H => (.mV V (.nV V (.iV V (.aV V (.nila H fun H => (.ret ?_))))));obtain rfl:=sj h;exact Ends.eR V
theorem Z9X {f:Form} {from':Int} {by':Int} {r:Int × Bool} (h:Zu f from' by' = some r):Fn CX 107 [(.agg (vs (Form.cs f))),(vi from'),(vi by')] (.tup [(vi r.1),(vb r.2)]):=by
 refine Fn.go Tryz.func107 V fun σ H => ?_;unfold Zu at h;refine .tR 3 V H fun b1 σ H => (.boxH (cs:=(vF f)) H (by omega) (by omega) V V V fun σ H => (.aV V (.aV V (.nila H fun H => (.then (.tR 2 V H fun b2 σ H => (.LV (vF f) H 0 V ?_)))))));obtain ⟨x1,q1,h⟩:=bs h;refine .cV (gran_bare_fn q1) V (.nila H fun H => ?_);refine .wh h V ?_ ?_ <;> intro h
 ·refine .tR 8 V H fun b3 σ H => (.LV (vF f) H 0 V (.mV V ?_));obtain ⟨x2,q2,h⟩:=bs h;refine .cV (ZBO q2) V (.m1 (.tup [(vi x2.1),(vb x2.2)]) V V (.xV V (.xV V (.aV V (.aV V (.nila H fun H => (.then ?_)))))));refine .jn h .normal (fun y1 => [(2,(vi by')),(3,(.ptr (b1 + 0) 4 0)),(8,(vi y1))]) (fun y1 => [.blk (b1 + 0) 25 (vF f)]) (fun y1 h => ?_) fun y1 e σ H h => ?_
  ·refine .tR 6 V H fun b4 σ H => (.mV V (.iV V (.mV V ?_)));refine .md H 3 [(24,(vb ((decide (by' < 0)) && (!x2.2)))),(2,(vi by')),(3,(.ptr (b1 + 0) 4 0)),(8,(vi x2.1))] [.blk (b1 + 0) 25 (vF f)] V ?_ fun e σ H => ?_
   ·refine .split V V ?_ ?_ <;> intro hc2
    ·refine .mV V (.tV V (.kT V (.nil ?_)));exact ⟨⟨Z2V hc2,V,V,V,U⟩,H.wk (by omega)⟩
    ·refine .ps 2 V (.kF V (.nil ?_));exact ⟨⟨Z2S hc2,V,V,V,U⟩,H.wk (by omega)⟩
   refine .nila H fun H => ?_;refine .wh h V ?_ ?_ <;> intro h
   ·refine .Z4 3 V H fun b5 σ H => (.mV V (.iV V (.aV V (.nila H fun H => ?_))));obtain rfl:=sj h;exact ⟨V,EI V,H⟩
   refine .skip ?_;obtain rfl:=sj h;exact ⟨V,EI V,H⟩
  refine .then (.inBlock ?_);obtain ⟨y2,hj2,h⟩:=bs h;obtain ⟨n1,hj2⟩:=ZM.1 hj2;refine .mono (Runs.loopO hj2 (fun s1 e σ => Z6 e [(2,(vi by')),(3,(.ptr (b1 + 0) 4 0)),(8,(vi s1))]∧Hs σ [.blk (b1 + 0) 25 (vF f)]) (fun y2 x e σ => (∃ a1,y2 = (.go a1)∧x = .exit 0∧Z6 e []∧Hs σ [])∨(∃ r',y2 = (.ret r')∧x = .ret∧Ends CX Tryz.f107.results.toList (.tup [(vi r'.1),(vb r'.2)]) x e σ)) ⟨EI V,H⟩ ?_) ?_
  ·intro s1 e σ hI z h;obtain ⟨he,H⟩:=hI;obtain ⟨e,rfl⟩:=he.ex;unfold Zu.s0 at h;refine .then (.tR 9 V H fun b6 σ H => (.mV V (.iV V (.mV V ?_))));refine .md H 6 [(35,(vb ((decide (s1 ≥ 0)) && (decide (s1 < (f.Odd.length:Int)))))),(2,(vi by')),(3,(.ptr (b1 + 0) 4 0)),(8,(vi s1))] [.blk (b1 + 0) 25 (vF f)] V ?_ fun e σ H => ?_
   ·refine .split V V ?_ ?_ <;> intro hc4
    ·refine .mV V (.fV H 0 V (.lV H 0 V (.nV V (.iV V (.kT V (.nil ?_))))));exact ⟨⟨Z2V hc4,V,V,V,U⟩,H.wk (by omega)⟩
    ·refine .ps 5 V (.kF V (.nil ?_));exact ⟨⟨Z2S hc4,V,V,V,U⟩,H.wk (by omega)⟩
   refine .nila H fun H => ?_;refine .wh h V ?_ ?_ <;> intro h
   ·refine .skip (.then (.inBlock (.tR 8 V H fun b7 σ H => (.fV H 0 V (.lV H 0 V (.mV V ?_))))));obtain ⟨x3,q3,h⟩:=bs h;refine .jV q3 V (.Z8 V V V V (.pV V (.nV V (.iV V (.nila H fun H => ?_)))));refine .wh h V ?_ ?_ <;> intro h
    ·refine .tR 8 V H fun b8 σ H => (.fV H 0 V (.lV H 0 V (.mV V ?_)));obtain ⟨x4,q4,h⟩:=bs h;refine .jV q4 V (.Z8 V V V V (.pV V (.aV V (.aV V (.nila H fun H => (.ret ?_))))));obtain rfl:=sj h;exact ⟨nofun,(.inr ⟨_,V,V,(Ends.H (xs:=[(vi x4.Index),(vb true)]) (.inr V) H (.tmp (v:=(vi x4.Index)) V (.tmp (v:=(vb true)) V .nil)) (.two (.cons (.c (.v _)) (.cons (.c (.v _)) .nil))))⟩)⟩
    refine .skip (.Z4 4 V H fun b9 σ H => (.mV V (.mV V (.iV V (.aV V (.nila H fun H => ?_))))));obtain rfl:=sj h;exact ⟨V,EI V,H⟩
   refine .exit ?_;obtain rfl:=sj h;exact ⟨nofun,(.inl ⟨_,V,V,U,(H.erase 0)⟩)⟩
  ·rintro x e σ (⟨a2,rfl,rfl,he,H⟩ | ⟨r',rfl,rfl,hE⟩)
   ·replace h:=jgo h;obtain ⟨e,rfl⟩:=he.ex;refine .tR 2 V H fun b10 σ H => (.aV V (.aV V (.nila H fun H => (.ret ?_))));obtain rfl:=sj h;exact Ends.eR V
   ·replace h:=jret h;obtain rfl:=sj h;exact hE
 refine .skip (.then (.tR 2 V H fun b11 σ H => (.mV V (.aV V (.nila H fun H => (.inBlock ?_))))));obtain ⟨y3,hj3,h⟩:=bs h;obtain ⟨n2,hj3⟩:=ZM.1 hj3;refine .mono (Runs.loopO hj3 (fun s2 e σ => Z6 e [(2,(vi by')),(3,(.ptr (b1 + 0) 4 0)),(10,(vi s2))]∧Hs σ [.blk (b1 + 0) 25 (vF f)]) (fun y3 x e σ => (∃ a3,y3 = (.go a3)∧x = .exit 2∧Z6 e []∧Hs σ [])∨(∃ r',y3 = (.ret r')∧x = .ret∧Ends CX Tryz.f107.results.toList (.tup [(vi r'.1),(vb r'.2)]) x e σ)) ⟨EI V,H⟩ ?_) ?_
 ·intro s2 e σ hI z h;obtain ⟨he,H⟩:=hI;obtain ⟨e,rfl⟩:=he.ex;unfold Zu.s1 at h;refine .then (.tR 2 V H fun b12 σ H => (.mV V (.cV (Z4s V) V (.nila H fun H => ?_))));refine .wh h V ?_ ?_ <;> intro h
  ·refine .skip (.then (.inBlock (.tR 3 V H fun b13 σ H => (.LV (vF f) H 0 V (.mV V ?_)))));obtain ⟨x5,q5,h⟩:=bs h;refine .cV (gran_some_fn q5) V (.nila H fun H => ?_);refine .wh h V ?_ ?_ <;> intro h
   ·refine .tR 3 V H fun b14 σ H => (.mV V (.aV V (.aV V (.nila H fun H => (.ret ?_)))));obtain rfl:=sj h;exact ⟨nofun,(.inr ⟨_,V,V,(Ends.H (xs:=[(vi s2),(vb true)]) (.inr V) H (.tmp (v:=(vi s2)) V (.tmp (v:=(vb true)) V .nil)) (.two (.cons (.c (.v _)) (.cons (.c (.v _)) .nil))))⟩)⟩
   refine .skip (.Z4 4 V H fun b15 σ H => (.mV V (.mV V (.iV V (.aV V (.nila H fun H => ?_))))));obtain rfl:=sj h;exact ⟨V,EI V,H⟩
  refine .exit ?_;obtain rfl:=sj h;exact ⟨nofun,(.inl ⟨_,V,V,U,(H.erase 0)⟩)⟩
 ·rintro x e σ (⟨a4,rfl,rfl,he,H⟩ | ⟨r',rfl,rfl,hE⟩)
  ·replace h:=jgo h;obtain ⟨e,rfl⟩:=he.ex;refine .tR 2 V H fun b16 σ H => (.aV V (.aV V (.nila H fun H => (.ret ?_))));obtain rfl:=sj h;exact Ends.eR V
  ·replace h:=jret h;obtain rfl:=sj h;exact hE
theorem ZCE {f:Form} {i:Int} {r:Int × Bool} (h:Z1n f i = some r):Fn CX 95 [(.agg (vs (Form.cs f))),(vi i)] (.tup [(vi r.1),(vb r.2)]):=by
 refine Fn.go Tryz.func95 V fun σ H => ?_;unfold Z1n at h;refine .tR 3 V H fun b1 σ H => (.boxH (cs:=(vF f)) H (by omega) (by omega) V V V fun σ H => (.aV V (.aV V (.nila H fun H => (.then (.tR 2 V H fun b2 σ H => (.mV V (.iV V ?_))))))));refine .nila H fun H => ?_;refine .wh h V ?_ ?_ <;> intro h
 ·refine .tR 2 V H fun b3 σ H => (.aV V (.aV V (.nila H fun H => (.ret ?_))));obtain rfl:=sj h;exact Ends.eR V
 refine .skip (.tR 9 V H fun b4 σ H => (.LV (vF f) H 0 V (.mV V (.iV V (.min2 V V V ?_)))));obtain ⟨x1,q1,h⟩:=bs h;refine .cV (Z9X q1) V (.xV V (.xV V (.aV V (.aV V (.nila H fun H => (.ret ?_))))));obtain rfl:=sj h;exact Ends.eR V
theorem ZCi {f:Form} {i:Int} {r:Int × Bool} (h:Z22 f i = some r):Fn CX 96 [(.agg (vs (Form.cs f))),(vi i)] (.tup [(vi r.1),(vb r.2)]):=by
 refine Fn.go Tryz.func96 V fun σ H => ?_;unfold Z22 at h;refine .tR 3 V H fun b1 σ H => (.boxH (cs:=(vF f)) H (by omega) (by omega) V V V fun σ H => (.aV V (.aV V (.nila H fun H => (.then (.tR 2 V H fun b2 σ H => (.mV V (.iV V ?_))))))));refine .nila H fun H => ?_;refine .wh h V ?_ ?_ <;> intro h
 ·refine .tR 2 V H fun b3 σ H => (.aV V (.aV V (.nila H fun H => (.ret ?_))));obtain rfl:=sj h;exact Ends.eR V
 refine .skip (.tR 9 V H fun b4 σ H => (.LV (vF f) H 0 V (.mV V (.iV V (.max2 V V V ?_)))));obtain ⟨x1,q1,h⟩:=bs h;refine .cV (Z9X q1) V (.xV V (.xV V (.aV V (.aV V (.nila H fun H => (.ret ?_))))));obtain rfl:=sj h;exact Ends.eR V
theorem Z5N {a:(List Span)} {b:(List Span)} {r:Bool} (h:Z0j a b = some r):Fn CX 97 [(vl Span.cs a),(vl Span.cs b)] (vb r):=by
 refine Fn.go Tryz.func97 V fun σ H => ?_;unfold Z0j at h;refine .tR 1 V H fun b1 σ H => (.aV V (.nila H fun H => (.then (.Zr 23 V (by kernel_rfl) H fun b2 σ H B2 => (.mV V (.nV V (.iV V (.mV V ?_))))))));refine .md H 4 [(12,(vb (((a.length:Int) == 0) || ((b.length:Int) == 0)))),(0,(vl Span.cs a)),(1,(vl Span.cs b))] [] rfl ?_ fun e σ H => ?_
 ·refine .split V V ?_ ?_ <;> intro hc1
  ·refine .ps 3 V (.kT V (.nil ?_));exact ⟨⟨or_T hc1,V,V,U⟩,H.wk (by omega)⟩
  ·refine .mV V (.nV V (.iV V (.kF V (.nil ?_))));exact ⟨⟨or_F hc1,V,V,U⟩,H.wk (by omega)⟩
 refine .mV V ?_;obtain ⟨y1,hj1,h⟩:=bs h;refine .md H 13 [(26,(vb y1))] [] V ?_ fun e σ H => ?_
 ·refine .sp hj1 V ?_ ?_ <;> intro h
  ·refine .ps 12 V (.kT V (.nil ?_));obtain rfl:=sj h;exact ⟨EI V,H.wk (by omega)⟩
  refine .mV V (.mV V (.nV V (.iV V (.wt V V ?_))));obtain ⟨x1,q1,h⟩:=bs h;refine .jV q1 V (.wt V V (.Z8 V V V V (.pV V (.mV V (.wt V V ?_)))));obtain ⟨x2,q2,h⟩:=bs h;refine .jV q2 V (.wt V V (.Z8 V V V V (.pV V (.iV V (.kF V (.nil ?_))))));obtain rfl:=sj h;exact ⟨EI V,H.wk (by omega)⟩
 refine .aV V (.nila H fun H => (.ret ?_));obtain rfl:=sj h;exact Ends.eR V
theorem ZBw {f:Form} {i:Int} {r:Bool} (h:Z25 f i = some r):Fn CX 76 [(.agg (vs (Form.cs f))),(vi i)] (vb r):=by
 refine Fn.go Tryz.func76 V fun σ H => ?_;unfold Z25 at h;refine .tR 2 V H fun b1 σ H => (.boxH (cs:=(vF f)) H (by omega) (by omega) V V V fun σ H => (.aV V (.nila H fun H => (.tR 8 V H fun b2 σ H => (.LV (vF f) H 0 V (.mV V ?_))))));obtain ⟨x1,q1,h⟩:=bs h;refine .cV (Z4Z q1) V (.m1 (.tup [(vl Span.cs x1.1),(vi x1.2)]) V V (.xV V (.xV V (.aV V (.aV V (.nila H fun H => (.then (.tR 2 V H fun b3 σ H => ?_))))))));refine .mV V (.iV V (.nila H fun H => ?_));refine .wh h V ?_ ?_ <;> intro h
 ·refine .tR 1 V H fun b4 σ H => (.aV V (.nila H fun H => (.ret ?_)));obtain rfl:=sj h;exact Ends.eR V
 refine .skip (.tR 8 V H fun b5 σ H => (.LV (vF f) H 0 V (.mV V ?_)));obtain ⟨x2,q2,h⟩:=bs h;refine .cV (ZCE q2) V (.m1 (.tup [(vi x2.1),(vb x2.2)]) V V (.xV V (.xV V (.aV V (.aV V (.nila H fun H => (.tR 8 V H fun b6 σ H => (.LV (vF f) H 0 V ?_))))))));refine .mV V ?_;obtain ⟨x3,q3,h⟩:=bs h;refine .cV (ZCi q3) V (.m1 (.tup [(vi x3.1),(vb x3.2)]) V V (.xV V (.xV V (.aV V (.aV V (.nila H fun H => (.tR 2 V H fun b7 σ H => (.a1 .nils V V ?_))))))));refine .a1 .nils V V (.nila H fun H => (.then ?_));obtain ⟨y1,hj1,h⟩:=bs h;refine .mono (Q:=fun x e σ => (∃ a1,∃ (w1:PV),RO w1 (a1.map Span.cs)∧y1 = (.go a1)∧x = .normal∧Z6 e [(2,(.ptr (b1 + 0) 4 0)),(5,(vl Span.cs x1.1)),(9,(vi x3.1)),(10,(vb x3.2)),(11,w1),(12,.nils)]∧Hs σ [.blk (b1 + 0) 25 (vF f)])∨(∃ r',y1 = (.ret r')∧x = .ret∧Ends CX Tryz.f76.results.toList (vb r') x e σ)) ?_ ?_
 ·replace h:=hj1;refine .tR 1 V H fun b8 σ H => (.mV V (.nila H fun H => ?_));refine .wh h V ?_ ?_ <;> intro h
  ·refine .tR 8 V H fun b9 σ H => (.LV (vF f) H 0 V (.mV V ?_));obtain ⟨x4,q4,h⟩:=bs h;refine .cV (Z4Z q4) V (.m1 (.tup [(vl Span.cs x4.1),(vi x4.2)]) V V (.xV V (.xV V (.aV V (.aV V (.nila H fun H => (.tR 2 V H fun b10 σ H => (.mV V ?_))))))));refine .iV V (.nila H fun H => ?_);refine .wh h V ?_ ?_ <;> intro h
   ·refine .tR 1 V H fun b11 σ H => (.aV V (.nila H fun H => (.ret ?_)));obtain rfl:=sj h;exact (.inr ⟨_,V,V,(Ends.H (xs:=[(vb false)]) (.inr V) H (.tmp (v:=(vb false)) V .nil) (.one (.c (.v _))))⟩)
   refine .skip ?_;obtain rfl:=sj h;exact (.inl ⟨_,(vl Span.cs x4.1),.inr V,V,V,EI V,H⟩)
  refine .skip ?_;obtain rfl:=sj h;exact (.inl ⟨_,.nils,.inl ⟨V,V⟩,V,V,EI V,H⟩)
 ·rintro x e σ (⟨a2,w2,hw2,rfl,rfl,he,H⟩ | ⟨r',rfl,rfl,hE⟩)
  ·replace h:=jgo h;obtain ⟨e,rfl⟩:=he.ex;refine .then ?_;obtain ⟨y2,hj2,h⟩:=bs h;refine .mono (Q:=fun x e σ => (∃ a3,∃ (w3:PV),RO w3 (a3.map Span.cs)∧y2 = (.go a3)∧x = .normal∧Z6 e [(5,(vl Span.cs x1.1)),(11,w2),(12,w3)]∧Hs σ [])∨(∃ r',y2 = (.ret r')∧x = .ret∧Ends CX Tryz.f76.results.toList (vb r') x e σ)) ?_ ?_
   ·replace h:=hj2;refine .tR 1 V H fun b12 σ H => (.mV V (.nila H fun H => ?_));refine .wh h V ?_ ?_ <;> intro h
    ·refine .tR 8 V H fun b13 σ H => (.LV (vF f) H 0 V (.mV V ?_));obtain ⟨x5,q5,h⟩:=bs h;refine .cV (Z4Z q5) V (.m1 (.tup [(vl Span.cs x5.1),(vi x5.2)]) V V (.xV V (.xV V (.aV V (.aV V (.nila H fun H => (.tR 2 V H fun b14 σ H => (.mV V ?_))))))));refine .iV V (.nila H fun H => ?_);refine .wh h V ?_ ?_ <;> intro h
     ·refine .tR 1 V H fun b15 σ H => (.aV V (.nila H fun H => (.ret ?_)));obtain rfl:=sj h;exact (.inr ⟨_,V,V,(Ends.H (xs:=[(vb false)]) (.inr V) H (.tmp (v:=(vb false)) V .nil) (.one (.c (.v _))))⟩)
     refine .skip ?_;obtain rfl:=sj h;exact (.inl ⟨_,(vl Span.cs x5.1),.inr V,V,V,EI V,(H.erase 0)⟩)
    refine .skip ?_;obtain rfl:=sj h;exact (.inl ⟨_,.nils,.inl ⟨V,V⟩,V,V,EI V,(H.erase 0)⟩)
   ·rintro x e σ (⟨a4,w4,hw4,rfl,rfl,he,H⟩ | ⟨r',rfl,rfl,hE⟩)
    ·replace h:=jgo h;obtain ⟨e,rfl⟩:=he.ex;refine .tR 14 V H fun b16 σ H => (.m1 w2 V V (.mV V ?_));obtain ⟨x6,q6,h⟩:=bs h;refine .Z50 (xs:=[w2,(vl Span.cs x1.1)]) (ys:=[(vl Span.cs a2),(vl Span.cs x1.1)]) H V (.cons (.c (.ro hw2)) (.cons (.c (.v _)) .nil)) (Z5N q6) V V nofun V fun σ H => (.mV V ?_);obtain ⟨y3,hj3,h⟩:=bs h;refine .md H 4 [(58,(vb y3)),(11,w2),(12,w4)] [] V ?_ fun e σ H => ?_
     ·refine .sp hj3 V ?_ ?_ <;> intro h
      ·refine .mV V (.m1 w4 V V (.wt V V ?_));obtain ⟨x7,q7,h⟩:=bs h;refine .Z50 (xs:=[(vl Span.cs x1.1),w4]) (ys:=[(vl Span.cs x1.1),(vl Span.cs a4)]) H V (.cons (.c (.v _)) (.cons (.c (.ro hw4)) .nil)) (Z5N q7) V V nofun V fun σ H => (.kT V (.nil ?_));obtain rfl:=sj h;exact ⟨EI V,H.wk (by omega)⟩
      refine .ps 3 V (.kF V (.nil ?_));obtain rfl:=sj h;exact ⟨EI V,H.wk (by omega)⟩
     refine .mV V ?_;obtain ⟨y4,hj4,h⟩:=bs h;refine .md H 4 [(63,(vb y4))] [] V ?_ fun e σ H => ?_
     ·refine .sp hj4 V ?_ ?_ <;> intro h
      ·refine .m1 w2 V V (.m1 w4 V V (.wt V V ?_));obtain ⟨x8,q8,h⟩:=bs h;refine .Z50 (xs:=[w2,w4]) (ys:=[(vl Span.cs a2),(vl Span.cs a4)]) H V (.cons (.c (.ro hw2)) (.cons (.c (.ro hw4)) .nil)) (Z5N q8) V V nofun V fun σ H => (.kT V (.nil ?_));obtain rfl:=sj h;exact ⟨EI V,H.wk (by omega)⟩
      refine .ps 3 V (.kF V (.nil ?_));obtain rfl:=sj h;exact ⟨EI V,H.wk (by omega)⟩
     refine .aV V (.nila H fun H => (.ret ?_));obtain rfl:=sj h;exact Ends.eR V
    ·replace h:=jret h;obtain rfl:=sj h;exact hE
  ·replace h:=jret h;obtain rfl:=sj h;exact hE
theorem Z8j {f:Form} {r:Int} (h:Zz f = some r):Fn CX 54 [(.agg (vs (Form.cs f)))] (vi r):=by
 refine Fn.go Tryz.func54 V fun σ H => ?_;unfold Zz at h;refine .tR 2 V H fun b1 σ H => (.boxH (cs:=(vF f)) H (by omega) (by omega) V V V fun σ H => (.aV V (.nila H fun H => (.then (.tR 15 V H fun b2 σ H => (.fV H 0 V (.lV H 0 V (.nV V ?_))))))));refine .iV V (.mV V ?_);refine .md H 5 [(14,(vb ((decide ((f.Core.length:Int) > 6000)) || (decide ((f.Odd.length:Int) > 6000))))),(1,(.ptr (b1 + 0) 4 0))] [.blk (b1 + 0) 25 (vF f)] rfl ?_ fun e σ H => ?_
 ·refine .split V V ?_ ?_ <;> intro hc1
  ·refine .ps 4 V (.kT V (.nil ?_));exact ⟨⟨or_T hc1,V,U⟩,H.wk (by omega)⟩
  ·refine .fV H 0 V (.lV H 0 V (.nV V (.iV V (.kF V (.nil ?_)))));exact ⟨⟨or_F hc1,V,U⟩,H.wk (by omega)⟩
 refine .mV V ?_;obtain ⟨y1,hj1,h⟩:=bs h;refine .md H 4 [(19,(vb y1)),(1,(.ptr (b1 + 0) 4 0))] [.blk (b1 + 0) 25 (vF f)] V ?_ fun e σ H => ?_
 ·refine .sp hj1 V ?_ ?_ <;> intro h
  ·refine .ps 3 V (.kT V (.nil ?_));obtain rfl:=sj h;exact ⟨EI V,H.wk (by omega)⟩
  refine .LV (vF f) H 0 V (.wt V V ?_);obtain ⟨x1,q1,h⟩:=bs h;refine .cV (Z9n q1) V (.iV V (.kF V (.nil ?_)));obtain rfl:=sj h;exact ⟨EI V,H.wk (by omega)⟩
 refine .nila H fun H => ?_;refine .wh h V ?_ ?_ <;> intro h
 ·refine .tR 1 V H fun b3 σ H => (.aV V (.nila H fun H => (.ret ?_)));obtain rfl:=sj h;exact Ends.eR V
 refine .skip (.then (.tR 8 V H fun b4 σ H => (.LV (vF f) H 0 V ?_)));obtain ⟨x2,q2,h⟩:=bs h;refine .cV (gran_shape_fn q2) V (.tV V (.mV V ?_));obtain ⟨y2,hj2,h⟩:=bs h;refine .md H 4 [(27,(vb y2)),(1,(.ptr (b1 + 0) 4 0))] [.blk (b1 + 0) 25 (vF f)] V ?_ fun e σ H => ?_
 ·refine .sp hj2 V ?_ ?_ <;> intro h
  ·refine .ps 3 V (.kT V (.nil ?_));obtain rfl:=sj h;exact ⟨EI V,H.wk (by omega)⟩
  refine .LV (vF f) H 0 V (.wt V V ?_);obtain ⟨x3,q3,h⟩:=bs h;refine .cV (gran_turns_fn q3) V (.tV V (.kF V (.nil ?_)));obtain rfl:=sj h;exact ⟨EI V,H.wk (by omega)⟩
 refine .nila H fun H => ?_;refine .wh h V ?_ ?_ <;> intro h
 ·refine .tR 1 V H fun b5 σ H => (.aV V (.nila H fun H => (.ret ?_)));obtain rfl:=sj h;exact Ends.eR V
 refine .skip (.then (.tR 4 V H fun b6 σ H => (.fV H 0 V (.lV H 0 V (.nV V (.mV V (.nila H fun H => (.inBlock ?_))))))));obtain ⟨y3,hj3,h⟩:=bs h;obtain ⟨n1,hj3⟩:=ZM.1 hj3;refine .mono (Runs.loopO hj3 (fun s1 e σ => Z6 e [(1,(.ptr (b1 + 0) 4 0)),(29,(vl Granule.cs f.Odd)),(30,(vi (f.Odd.length:Int))),(31,(vi s1))]∧Hs σ [.blk (b1 + 0) 25 (vF f)]) (fun y3 x e σ => (∃ a1,y3 = (.go a1)∧x = .exit 0∧Z6 e []∧Hs σ [])∨(∃ r',y3 = (.ret r')∧x = .ret∧Ends CX Tryz.f54.results.toList (vi r') x e σ)) ⟨EI V,H⟩ ?_) ?_
 ·intro s1 e σ hI z h;obtain ⟨he,H⟩:=hI;obtain ⟨e,rfl⟩:=he.ex;unfold Zz.s0 at h;refine .tR 1 V H fun b7 σ H => (.iV V (.nila H fun H => (.then ?_)));refine .wh h V ?_ ?_ <;> intro h
  ·refine .skip (.then (.inBlock (.tR 4 V H fun b8 σ H => ?_)));obtain ⟨x4,q4,h⟩:=bs h;refine .jV q4 V (.qV [(.int .i64 x4.Index),(.sl (x4.Ticks.map Span.cs))] V (.Za (cs:=[(vi 0),.nils]) H (by omega) (by omega) V V fun σ H => (.sV [(vi x4.Index),(vl Span.cs x4.Ticks)] H 0 V fun σ H => (.nila H fun H => (.tR 5 V H fun b9 σ H => (.LV (vF f) H 1 V (.fV H 0 V (.lV H 0 V ?_))))))));obtain ⟨x5,q5,h⟩:=bs h;refine .cV (ZBw q5) V (.tV V (.nila H fun H => ?_));refine .wh h V ?_ ?_ <;> intro h
   ·refine .tR 1 V H fun b10 σ H => (.aV V (.nila H fun H => (.ret ?_)));obtain rfl:=sj h;exact ⟨nofun,(.inr ⟨_,V,V,(Ends.H (xs:=[(vi 50)]) (.inr V) H (.tmp (v:=(vi 50)) V .nil) (.one (.c (.v _))))⟩)⟩
   refine .skip (.Z4 2 V H fun b11 σ H => (.iV V (.mV V (.nila H fun H => ?_))));obtain rfl:=sj h;exact ⟨V,EI V,(H.erase 0)⟩
  refine .exit ?_;obtain rfl:=sj h;exact ⟨nofun,(.inl ⟨_,V,V,U,(H.erase 0)⟩)⟩
 ·rintro x e σ (⟨a2,rfl,rfl,he,H⟩ | ⟨r',rfl,rfl,hE⟩)
  ·replace h:=jgo h;obtain ⟨e,rfl⟩:=he.ex;refine .tR 1 V H fun b12 σ H => (.aV V (.nila H fun H => (.ret ?_)));obtain rfl:=sj h;exact Ends.eR V
  ·replace h:=jret h;obtain rfl:=sj h;exact hE
theorem Z8P {f:Form} {r:Bool} (h:Z2N f = some r):Fn CX 34 [(.agg (vs (Form.cs f)))] (vb r):=by
 refine Fn.go Tryz.func34 V fun σ H => ?_;unfold Z2N at h;refine .tR 2 V H fun b1 σ H => (.boxH (cs:=(vF f)) H (by omega) (by omega) V V V fun σ H => (.aV V (.nila H fun H => (.tR 8 V H fun b2 σ H => (.LV (vF f) H 0 V ?_)))));obtain ⟨x1,q1,h⟩:=bs h;refine .cV (Z8S q1) V (.mV V ?_);obtain ⟨y1,hj1,h⟩:=bs h;refine .md H 4 [(9,(vb y1))] [] V ?_ fun e σ H => ?_
 ·refine .sp hj1 V ?_ ?_ <;> intro h
  ·refine .LV (vF f) H 0 V (.wt V V ?_);obtain ⟨x2,q2,h⟩:=bs h;refine .cV (Z8j q2) V (.iV V (.kT V (.nil ?_)));obtain rfl:=sj h;exact ⟨EI V,(H.erase 0).wk (by omega)⟩
  refine .ps 3 V (.kF V (.nil ?_));obtain rfl:=sj h;exact ⟨EI V,(H.erase 0).wk (by omega)⟩
 refine .aV V (.nila H fun H => (.ret ?_));obtain rfl:=sj h;exact Ends.eR V
theorem Z1S {l:(List Span)} {r:Span × Bool} (h:Z09 l = some r):Fn CX 18 [(vl Span.cs l)] (.tup [(.agg (vs (Span.cs r.1))),(vb r.2)]):=by
 refine Fn.go Tryz.func18 V fun σ H => ?_;unfold Z09 at h;refine .tR 2 V H fun b1 σ H => (.Za (cs:=[(vi 0),(vi 0)]) H (by omega) (by omega) V V fun σ H => (.aV V (.nila H fun H => (.then (.tR 3 V H fun b2 σ H => (.mV V (.nV V (.iV V ?_))))))));refine .nila H fun H => ?_;refine .wh h V ?_ ?_ <;> intro h
 ·refine .tR 3 V H fun b3 σ H => (.bV [(vi 0),(vi 0)] V (.sV [(vi 0),(vi 0)] H 0 V fun σ H => (.aV V (.nila H fun H => (.ret ?_)))));obtain rfl:=sj h;exact (Ends.H (xs:=[(.agg [(vi 0),(vi 0)]),(vb false)]) (.inr V) H (.agg (cs:=[(vi 0),(vi 0)]) 0 V V V V V V V (.tmp (v:=(vb false)) V .nil)) (.two (.cons (.p V) (.cons (.c (.v _)) .nil))))
 refine .skip (.then (.Zr 14 V (by kernel_rfl) H fun b4 σ H B4 => (.mV V ?_)));obtain ⟨x1,q1,h⟩:=bs h;refine .jV q1 V (.Z8 V V V V (.pV V (.mV V (.mV V (.nV V (.iV V ?_))))));obtain ⟨x2,q2,h⟩:=bs h;refine .jV q2 V (.Z8 V V V V (.pV V (.bV [(vi x1.From),(vi x2.To)] V (.Z4N (cells':=[(vi x1.From),(vi x2.To)]) H 0 V V V V V V V V V (fun _ => .inl ⟨B4 0 _ V _ V,(Z46 (by kernel_rfl))⟩) fun σ H => (.aV V (.nila H fun H => (.ret ?_)))))));obtain rfl:=sj h;exact (Ends.H (xs:=[(.agg [(vi x1.From),(vi x2.To)]),(vb true)]) (.inr V) H (.agg (cs:=[(vi x1.From),(vi x2.To)]) 0 V V V V V V V (.tmp (v:=(vb true)) V .nil)) (.two (.cons (.p V) (.cons (.c (.v _)) .nil))))
theorem Z8p {f:Form} {r:Bool} (h:Z06 f = some r):Fn CX 17 [(.agg (vs (Form.cs f)))] (vb r):=by
 refine Fn.go Tryz.func17 V fun σ H => ?_;unfold Z06 at h;refine .tR 2 V H fun b1 σ H => (.boxH (cs:=(vF f)) H (by omega) (by omega) V V V fun σ H => (.aV V (.nila H fun H => (.then (.tR 8 V H fun b2 σ H => (.LV (vF f) H 0 V ?_))))));obtain ⟨x1,q1,h⟩:=bs h;refine .cV (Z8P q1) V (.tV V (.mV V ?_));refine .md H 4 [(18,(vb ((!x1) || (decide (f.Period > 60))))),(1,(.ptr (b1 + 0) 4 0))] [.blk (b1 + 0) 25 (vF f)] rfl ?_ fun e σ H => ?_
 ·refine .split V V ?_ ?_ <;> intro hc1
  ·refine .ps 3 V (.kT V (.nil ?_));exact ⟨⟨or_T hc1,V,U⟩,H.wk (by omega)⟩
  ·refine .fV H 0 V (.lV H 0 V (.iV V (.kF V (.nil ?_))));exact ⟨⟨or_F hc1,V,U⟩,H.wk (by omega)⟩
 refine .nila H fun H => ?_;refine .wh h V ?_ ?_ <;> intro h
 ·refine .tR 1 V H fun b3 σ H => (.aV V (.nila H fun H => (.ret ?_)));obtain rfl:=sj h;exact Ends.eR V
 refine .skip (.then (.tR 4 V H fun b4 σ H => (.fV H 0 V (.lV H 0 V (.nV V (.mV V (.nila H fun H => (.inBlock ?_))))))));obtain ⟨y1,hj1,h⟩:=bs h;obtain ⟨n1,hj1⟩:=ZM.1 hj1;refine .mono (Runs.loopO hj1 (fun s1 e σ => Z6 e [(1,(.ptr (b1 + 0) 4 0)),(20,(vl (cL Span.cs) f.Core)),(21,(vi (f.Core.length:Int))),(22,(vi s1))]∧Hs σ [.blk (b1 + 0) 25 (vF f)]) (fun y1 x e σ => (∃ a1,y1 = (.go a1)∧x = .exit 0∧Z6 e [(1,(.ptr (b1 + 0) 4 0))]∧Hs σ [.blk (b1 + 0) 25 (vF f)])∨(∃ r',y1 = (.ret r')∧x = .ret∧Ends CX Tryz.f17.results.toList (vb r') x e σ)) ⟨EI V,H⟩ ?_) ?_
 ·intro s1 e σ hI z h;obtain ⟨he,H⟩:=hI;obtain ⟨e,rfl⟩:=he.ex;unfold Z06.s0 at h;refine .tR 1 V H fun b5 σ H => (.iV V (.nila H fun H => (.then ?_)));refine .wh h V ?_ ?_ <;> intro h
  ·refine .skip (.then (.inBlock (.tR 3 V H fun b6 σ H => ?_)));obtain ⟨x2,q2,h⟩:=bs h;refine .jV q2 V (.pV V (.aV V (.nila H fun H => (.tR 8 V H fun b7 σ H => (.mV V ?_)))));obtain ⟨x3,q3,h⟩:=bs h;refine .cV (Z1S q3) V (.m1 (.tup [(.agg [(vi x3.1.From),(vi x3.1.To)]),(vb x3.2)]) V V (.xV V (.xV V (.Za (cs:=[(vi 0),(vi 0)]) H (by omega) (by omega) V V fun σ H => (.sV [(vi x3.1.From),(vi x3.1.To)] H 0 V fun σ H => (.aV V (.nila H fun H => (.tR 11 V H fun b8 σ H => ?_))))))));refine .mV V (.mV V ?_);refine .md H 9 [(41,(vb (x3.2 && ((decide (x3.1.From < (-200))) || (decide (x3.1.To > 200)))))),(1,(.ptr (b1 + 0) 4 0)),(20,(vl (cL Span.cs) f.Core)),(21,(vi (f.Core.length:Int))),(22,(vi s1))] [.blk (b1 + 0) 25 (vF f)] rfl ?_ fun e σ H => ?_
   ·refine .split V V ?_ ?_ <;> intro hc4
    ·refine .fV H 0 V (.lV H 0 V (.iV V (.mV V ?_)));refine .md H 4 [(40,(vb ((decide (x3.1.From < (-200))) || (decide (x3.1.To > 200))))),(1,(.ptr (b1 + 0) 4 0)),(20,(vl (cL Span.cs) f.Core)),(21,(vi (f.Core.length:Int))),(22,(vi s1)),(32,(vb true))] [.blk (b1 + 0) 25 (vF f)] rfl ?_ fun e σ H => ?_
     ·refine .split V V ?_ ?_ <;> intro hc5
      ·refine .ps 3 V (.kT V (.nil ?_));exact ⟨⟨or_T hc5,V,V,V,V,V,U⟩,(H.erase 0).wk (by omega)⟩
      ·refine .fV H 0 V (.lV H 0 V (.iV V (.kF V (.nil ?_))));exact ⟨⟨or_F hc5,V,V,V,V,V,U⟩,(H.erase 0).wk (by omega)⟩
     refine .kT V (.nil ?_);exact ⟨⟨Z2V hc4,V,V,V,V,U⟩,H.wk (by omega)⟩
    ·refine .ps 8 V (.kF V (.nil ?_));exact ⟨⟨Z2S hc4,V,V,V,V,U⟩,(H.erase 0).wk (by omega)⟩
   refine .nila H fun H => ?_;refine .wh h V ?_ ?_ <;> intro h
   ·refine .tR 1 V H fun b9 σ H => (.aV V (.nila H fun H => (.ret ?_)));obtain rfl:=sj h;exact ⟨nofun,(.inr ⟨_,V,V,(Ends.H (xs:=[(vb false)]) (.inr V) H (.tmp (v:=(vb false)) V .nil) (.one (.c (.v _))))⟩)⟩
   refine .skip (.Z4 2 V H fun b10 σ H => (.iV V (.mV V (.nila H fun H => ?_))));obtain rfl:=sj h;exact ⟨V,EI V,H⟩
  refine .exit ?_;obtain rfl:=sj h;exact ⟨nofun,(.inl ⟨_,V,V,EI V,H⟩)⟩
 ·rintro x e σ (⟨a2,rfl,rfl,he,H⟩ | ⟨r',rfl,rfl,hE⟩)
  ·replace h:=jgo h;obtain ⟨e,rfl⟩:=he.ex;refine .then (.tR 4 V H fun b11 σ H => (.fV H 0 V (.lV H 0 V (.nV V (.mV V (.nila H fun H => (.inBlock ?_)))))));obtain ⟨y2,hj2,h⟩:=bs h;obtain ⟨n2,hj2⟩:=ZM.1 hj2;refine .mono (Runs.loopO hj2 (fun s2 e σ => Z6 e [(44,(vl Granule.cs f.Odd)),(45,(vi (f.Odd.length:Int))),(46,(vi s2))]∧Hs σ []) (fun y2 x e σ => (∃ a3,y2 = (.go a3)∧x = .exit 2∧Z6 e []∧Hs σ [])∨(∃ r',y2 = (.ret r')∧x = .ret∧Ends CX Tryz.f17.results.toList (vb r') x e σ)) ⟨EI V,(H.erase 0)⟩ ?_) ?_
   ·intro s2 e σ hI z h;obtain ⟨he,H⟩:=hI;obtain ⟨e,rfl⟩:=he.ex;unfold Z06.s1 at h;refine .tR 1 V H fun b12 σ H => (.iV V (.nila H fun H => (.then ?_)));refine .wh h V ?_ ?_ <;> intro h
    ·refine .skip (.then (.inBlock (.tR 4 V H fun b13 σ H => ?_)));obtain ⟨x4,q4,h⟩:=bs h;refine .jV q4 V (.qV [(.int .i64 x4.Index),(.sl (x4.Ticks.map Span.cs))] V (.Za (cs:=[(vi 0),.nils]) H (by omega) (by omega) V V fun σ H => (.sV [(vi x4.Index),(vl Span.cs x4.Ticks)] H 0 V fun σ H => (.nila H fun H => (.tR 9 V H fun b14 σ H => (.fV H 0 V (.lV H 0 V ?_)))))));obtain ⟨x5,q5,h⟩:=bs h;refine .cV (Z1S q5) V (.m1 (.tup [(.agg [(vi x5.1.From),(vi x5.1.To)]),(vb x5.2)]) V V (.xV V (.xV V (.Za (cs:=[(vi 0),(vi 0)]) H (by omega) (by omega) V V fun σ H => (.sV [(vi x5.1.From),(vi x5.1.To)] H 0 V fun σ H => (.aV V (.nila H fun H => (.tR 21 V H fun b15 σ H => ?_))))))));refine .fV H 1 V (.lV H 1 V (.iV V (.mV V ?_)));refine .md H 4 [(63,(vb ((decide (x4.Index < (-100))) || (decide (x4.Index > 100))))),(9,(.ptr (b14 + 6) 2 0)),(10,(vb x5.2)),(44,(vl Granule.cs f.Odd)),(45,(vi (f.Odd.length:Int))),(46,(vi s2))] [.blk (b14 + 6) 46 [(vi x5.1.From),(vi x5.1.To)]] rfl ?_ fun e σ H => ?_
     ·refine .split V V ?_ ?_ <;> intro hc8
      ·refine .ps 3 V (.kT V (.nil ?_));exact ⟨⟨or_T hc8,V,V,V,V,V,U⟩,(H.erase 1).wk (by omega)⟩
      ·refine .fV H 1 V (.lV H 1 V (.iV V (.kF V (.nil ?_))));exact ⟨⟨or_F hc8,V,V,V,V,V,U⟩,(H.erase 1).wk (by omega)⟩
     refine .mV V ?_;refine .md H 12 [(76,(vb (((decide (x4.Index < (-100))) || (decide (x4.Index > 100))) || (x5.2 && ((decide (x5.1.From < (-3000))) || (decide (x5.1.To > 3000))))))),(44,(vl Granule.cs f.Odd)),(45,(vi (f.Odd.length:Int))),(46,(vi s2))] [] rfl ?_ fun e σ H => ?_
     ·refine .split V V ?_ ?_ <;> intro hc9
      ·refine .ps 11 V (.kT V (.nil ?_));exact ⟨⟨or_T hc9,V,V,V,U⟩,(H.erase 0).wk (by omega)⟩
      ·refine .mV V (.mV V ?_);refine .md H 9 [(75,(vb (x5.2 && ((decide (x5.1.From < (-3000))) || (decide (x5.1.To > 3000)))))),(44,(vl Granule.cs f.Odd)),(45,(vi (f.Odd.length:Int))),(46,(vi s2)),(64,(vb false))] [] rfl ?_ fun e σ H => ?_
       ·refine .split V V ?_ ?_ <;> intro hc10
        ·refine .fV H 0 V (.lV H 0 V (.iV V (.mV V ?_)));refine .md H 4 [(74,(vb ((decide (x5.1.From < (-3000))) || (decide (x5.1.To > 3000))))),(44,(vl Granule.cs f.Odd)),(45,(vi (f.Odd.length:Int))),(46,(vi s2)),(64,(vb false)),(66,(vb true))] [] rfl ?_ fun e σ H => ?_
         ·refine .split V V ?_ ?_ <;> intro hc11
          ·refine .ps 3 V (.kT V (.nil ?_));exact ⟨⟨or_T hc11,V,V,V,V,V,U⟩,(H.erase 0).wk (by omega)⟩
          ·refine .fV H 0 V (.lV H 0 V (.iV V (.kF V (.nil ?_))));exact ⟨⟨or_F hc11,V,V,V,V,V,U⟩,(H.erase 0).wk (by omega)⟩
         refine .kT V (.nil ?_);exact ⟨⟨Z2V hc10,V,V,V,V,U⟩,H.wk (by omega)⟩
        ·refine .ps 8 V (.kF V (.nil ?_));exact ⟨⟨Z2S hc10,V,V,V,V,U⟩,(H.erase 0).wk (by omega)⟩
       refine .kF V (.nil ?_);exact ⟨⟨or_F hc9,V,V,V,U⟩,H.wk (by omega)⟩
     refine .nila H fun H => ?_;refine .wh h V ?_ ?_ <;> intro h
     ·refine .tR 1 V H fun b16 σ H => (.aV V (.nila H fun H => (.ret ?_)));obtain rfl:=sj h;exact ⟨nofun,(.inr ⟨_,V,V,(Ends.H (xs:=[(vb false)]) (.inr V) H (.tmp (v:=(vb false)) V .nil) (.one (.c (.v _))))⟩)⟩
     refine .skip (.Z4 2 V H fun b17 σ H => (.iV V (.mV V (.nila H fun H => ?_))));obtain rfl:=sj h;exact ⟨V,EI V,H⟩
    refine .exit ?_;obtain rfl:=sj h;exact ⟨nofun,(.inl ⟨_,V,V,U,H⟩)⟩
   ·rintro x e σ (⟨a4,rfl,rfl,he,H⟩ | ⟨r',rfl,rfl,hE⟩)
    ·replace h:=jgo h;obtain ⟨e,rfl⟩:=he.ex;refine .tR 1 V H fun b18 σ H => (.aV V (.nila H fun H => (.ret ?_)));obtain rfl:=sj h;exact Ends.eR V
    ·replace h:=jret h;obtain rfl:=sj h;exact hE
  ·replace h:=jret h;obtain rfl:=sj h;exact hE
end Go.Dn

namespace Go.Dn
open Go Go.Proofs
set_option maxRecDepth 100000
set_option maxHeartbeats 4000000
theorem Z8N {f:Form} {r:Bool} (h:Zt f = some r):Fn CX 4 [(.agg (vs (Form.cs f)))] (vb r):=by
 refine Fn.go Tryz.func4 V fun σ H => ?_;unfold Zt at h;refine .tR 2 V H fun b1 σ H => (.boxH (cs:=(vF f)) H (by omega) (by omega) V V V fun σ H => (.aV V (.nila H fun H => (.then (.tR 8 V H fun b2 σ H => (.LV (vF f) H 0 V ?_))))));obtain ⟨x1,q1,h⟩:=bs h;refine .cV (Z8p q1) V (.tV V (.mV V ?_));refine .md H 4 [(18,(vb ((!x1) || (decide (f.Period > 24))))),(1,(.ptr (b1 + 0) 4 0))] [.blk (b1 + 0) 25 (vF f)] rfl ?_ fun e σ H => ?_
 ·refine .split V V ?_ ?_ <;> intro hc1
  ·refine .ps 3 V (.kT V (.nil ?_));exact ⟨⟨or_T hc1,V,U⟩,H.wk (by omega)⟩
  ·refine .fV H 0 V (.lV H 0 V (.iV V (.kF V (.nil ?_))));exact ⟨⟨or_F hc1,V,U⟩,H.wk (by omega)⟩
 refine .nila H fun H => ?_;refine .wh h V ?_ ?_ <;> intro h
 ·refine .tR 1 V H fun b3 σ H => (.aV V (.nila H fun H => (.ret ?_)));obtain rfl:=sj h;exact Ends.eR V
 refine .skip (.then (.tR 4 V H fun b4 σ H => (.fV H 0 V (.lV H 0 V (.nV V (.mV V (.nila H fun H => (.inBlock ?_))))))));obtain ⟨y1,hj1,h⟩:=bs h;obtain ⟨n1,hj1⟩:=ZM.1 hj1;refine .mono (Runs.loopO hj1 (fun s1 e σ => Z6 e [(1,(.ptr (b1 + 0) 4 0)),(20,(vl (cL Span.cs) f.Core)),(21,(vi (f.Core.length:Int))),(22,(vi s1))]∧Hs σ [.blk (b1 + 0) 25 (vF f)]) (fun y1 x e σ => (∃ a1,y1 = (.go a1)∧x = .exit 0∧Z6 e [(1,(.ptr (b1 + 0) 4 0))]∧Hs σ [.blk (b1 + 0) 25 (vF f)])∨(∃ r',y1 = (.ret r')∧x = .ret∧Ends CX Tryz.f4.results.toList (vb r') x e σ)) ⟨EI V,H⟩ ?_) ?_
 ·intro s1 e σ hI z h;obtain ⟨he,H⟩:=hI;obtain ⟨e,rfl⟩:=he.ex;unfold Zt.s0 at h;refine .tR 1 V H fun b5 σ H => (.iV V (.nila H fun H => (.then ?_)));refine .wh h V ?_ ?_ <;> intro h
  ·refine .skip (.then (.inBlock (.tR 3 V H fun b6 σ H => ?_)));obtain ⟨x2,q2,h⟩:=bs h;refine .jV q2 V (.pV V (.aV V (.nila H fun H => (.tR 8 V H fun b7 σ H => (.mV V ?_)))));obtain ⟨x3,q3,h⟩:=bs h;refine .cV (Z1S q3) V (.m1 (.tup [(.agg [(vi x3.1.From),(vi x3.1.To)]),(vb x3.2)]) V V (.xV V (.xV V (.Za (cs:=[(vi 0),(vi 0)]) H (by omega) (by omega) V V fun σ H => (.sV [(vi x3.1.From),(vi x3.1.To)] H 0 V fun σ H => (.aV V (.nila H fun H => (.tR 11 V H fun b8 σ H => ?_))))))));refine .mV V (.mV V ?_);refine .md H 9 [(41,(vb (x3.2 && ((decide (x3.1.From < (-30))) || (decide (x3.1.To > 30)))))),(1,(.ptr (b1 + 0) 4 0)),(20,(vl (cL Span.cs) f.Core)),(21,(vi (f.Core.length:Int))),(22,(vi s1))] [.blk (b1 + 0) 25 (vF f)] rfl ?_ fun e σ H => ?_
   ·refine .split V V ?_ ?_ <;> intro hc4
    ·refine .fV H 0 V (.lV H 0 V (.iV V (.mV V ?_)));refine .md H 4 [(40,(vb ((decide (x3.1.From < (-30))) || (decide (x3.1.To > 30))))),(1,(.ptr (b1 + 0) 4 0)),(20,(vl (cL Span.cs) f.Core)),(21,(vi (f.Core.length:Int))),(22,(vi s1)),(32,(vb true))] [.blk (b1 + 0) 25 (vF f)] rfl ?_ fun e σ H => ?_
     ·refine .split V V ?_ ?_ <;> intro hc5
      ·refine .ps 3 V (.kT V (.nil ?_));exact ⟨⟨or_T hc5,V,V,V,V,V,U⟩,(H.erase 0).wk (by omega)⟩
      ·refine .fV H 0 V (.lV H 0 V (.iV V (.kF V (.nil ?_))));exact ⟨⟨or_F hc5,V,V,V,V,V,U⟩,(H.erase 0).wk (by omega)⟩
     refine .kT V (.nil ?_);exact ⟨⟨Z2V hc4,V,V,V,V,U⟩,H.wk (by omega)⟩
    ·refine .ps 8 V (.kF V (.nil ?_));exact ⟨⟨Z2S hc4,V,V,V,V,U⟩,(H.erase 0).wk (by omega)⟩
   refine .nila H fun H => ?_;refine .wh h V ?_ ?_ <;> intro h
   ·refine .tR 1 V H fun b9 σ H => (.aV V (.nila H fun H => (.ret ?_)));obtain rfl:=sj h;exact ⟨nofun,(.inr ⟨_,V,V,(Ends.H (xs:=[(vb false)]) (.inr V) H (.tmp (v:=(vb false)) V .nil) (.one (.c (.v _))))⟩)⟩
   refine .skip (.Z4 2 V H fun b10 σ H => (.iV V (.mV V (.nila H fun H => ?_))));obtain rfl:=sj h;exact ⟨V,EI V,H⟩
  refine .exit ?_;obtain rfl:=sj h;exact ⟨nofun,(.inl ⟨_,V,V,EI V,H⟩)⟩
 ·rintro x e σ (⟨a2,rfl,rfl,he,H⟩ | ⟨r',rfl,rfl,hE⟩)
  ·replace h:=jgo h;obtain ⟨e,rfl⟩:=he.ex;refine .then (.tR 4 V H fun b11 σ H => (.fV H 0 V (.lV H 0 V (.nV V (.mV V (.nila H fun H => (.inBlock ?_)))))));obtain ⟨y2,hj2,h⟩:=bs h;obtain ⟨n2,hj2⟩:=ZM.1 hj2;refine .mono (Runs.loopO hj2 (fun s2 e σ => Z6 e [(44,(vl Granule.cs f.Odd)),(45,(vi (f.Odd.length:Int))),(46,(vi s2))]∧Hs σ []) (fun y2 x e σ => (∃ a3,y2 = (.go a3)∧x = .exit 2∧Z6 e []∧Hs σ [])∨(∃ r',y2 = (.ret r')∧x = .ret∧Ends CX Tryz.f4.results.toList (vb r') x e σ)) ⟨EI V,(H.erase 0)⟩ ?_) ?_
   ·intro s2 e σ hI z h;obtain ⟨he,H⟩:=hI;obtain ⟨e,rfl⟩:=he.ex;unfold Zt.s1 at h;refine .tR 1 V H fun b12 σ H => (.iV V (.nila H fun H => (.then ?_)));refine .wh h V ?_ ?_ <;> intro h
    ·refine .skip (.then (.inBlock (.tR 4 V H fun b13 σ H => ?_)));obtain ⟨x4,q4,h⟩:=bs h;refine .jV q4 V (.qV [(.int .i64 x4.Index),(.sl (x4.Ticks.map Span.cs))] V (.Za (cs:=[(vi 0),.nils]) H (by omega) (by omega) V V fun σ H => (.sV [(vi x4.Index),(vl Span.cs x4.Ticks)] H 0 V fun σ H => (.nila H fun H => (.tR 9 V H fun b14 σ H => (.fV H 0 V (.lV H 0 V ?_)))))));obtain ⟨x5,q5,h⟩:=bs h;refine .cV (Z1S q5) V (.m1 (.tup [(.agg [(vi x5.1.From),(vi x5.1.To)]),(vb x5.2)]) V V (.xV V (.xV V (.Za (cs:=[(vi 0),(vi 0)]) H (by omega) (by omega) V V fun σ H => (.sV [(vi x5.1.From),(vi x5.1.To)] H 0 V fun σ H => (.aV V (.nila H fun H => (.tR 21 V H fun b15 σ H => ?_))))))));refine .fV H 1 V (.lV H 1 V (.iV V (.mV V ?_)));refine .md H 4 [(63,(vb ((decide (x4.Index < (-40))) || (decide (x4.Index > 40))))),(9,(.ptr (b14 + 6) 2 0)),(10,(vb x5.2)),(44,(vl Granule.cs f.Odd)),(45,(vi (f.Odd.length:Int))),(46,(vi s2))] [.blk (b14 + 6) 46 [(vi x5.1.From),(vi x5.1.To)]] rfl ?_ fun e σ H => ?_
     ·refine .split V V ?_ ?_ <;> intro hc8
      ·refine .ps 3 V (.kT V (.nil ?_));exact ⟨⟨or_T hc8,V,V,V,V,V,U⟩,(H.erase 1).wk (by omega)⟩
      ·refine .fV H 1 V (.lV H 1 V (.iV V (.kF V (.nil ?_))));exact ⟨⟨or_F hc8,V,V,V,V,V,U⟩,(H.erase 1).wk (by omega)⟩
     refine .mV V ?_;refine .md H 12 [(76,(vb (((decide (x4.Index < (-40))) || (decide (x4.Index > 40))) || (x5.2 && ((decide (x5.1.From < (-300))) || (decide (x5.1.To > 300))))))),(44,(vl Granule.cs f.Odd)),(45,(vi (f.Odd.length:Int))),(46,(vi s2))] [] rfl ?_ fun e σ H => ?_
     ·refine .split V V ?_ ?_ <;> intro hc9
      ·refine .ps 11 V (.kT V (.nil ?_));exact ⟨⟨or_T hc9,V,V,V,U⟩,(H.erase 0).wk (by omega)⟩
      ·refine .mV V (.mV V ?_);refine .md H 9 [(75,(vb (x5.2 && ((decide (x5.1.From < (-300))) || (decide (x5.1.To > 300)))))),(44,(vl Granule.cs f.Odd)),(45,(vi (f.Odd.length:Int))),(46,(vi s2)),(64,(vb false))] [] rfl ?_ fun e σ H => ?_
       ·refine .split V V ?_ ?_ <;> intro hc10
        ·refine .fV H 0 V (.lV H 0 V (.iV V (.mV V ?_)));refine .md H 4 [(74,(vb ((decide (x5.1.From < (-300))) || (decide (x5.1.To > 300))))),(44,(vl Granule.cs f.Odd)),(45,(vi (f.Odd.length:Int))),(46,(vi s2)),(64,(vb false)),(66,(vb true))] [] rfl ?_ fun e σ H => ?_
         ·refine .split V V ?_ ?_ <;> intro hc11
          ·refine .ps 3 V (.kT V (.nil ?_));exact ⟨⟨or_T hc11,V,V,V,V,V,U⟩,(H.erase 0).wk (by omega)⟩
          ·refine .fV H 0 V (.lV H 0 V (.iV V (.kF V (.nil ?_))));exact ⟨⟨or_F hc11,V,V,V,V,V,U⟩,(H.erase 0).wk (by omega)⟩
         refine .kT V (.nil ?_);exact ⟨⟨Z2V hc10,V,V,V,V,U⟩,H.wk (by omega)⟩
        ·refine .ps 8 V (.kF V (.nil ?_));exact ⟨⟨Z2S hc10,V,V,V,V,U⟩,(H.erase 0).wk (by omega)⟩
       refine .kF V (.nil ?_);exact ⟨⟨or_F hc9,V,V,V,U⟩,H.wk (by omega)⟩
     refine .nila H fun H => ?_;refine .wh h V ?_ ?_ <;> intro h
     ·refine .tR 1 V H fun b16 σ H => (.aV V (.nila H fun H => (.ret ?_)));obtain rfl:=sj h;exact ⟨nofun,(.inr ⟨_,V,V,(Ends.H (xs:=[(vb false)]) (.inr V) H (.tmp (v:=(vb false)) V .nil) (.one (.c (.v _))))⟩)⟩
     refine .skip (.Z4 2 V H fun b17 σ H => (.iV V (.mV V (.nila H fun H => ?_))));obtain rfl:=sj h;exact ⟨V,EI V,H⟩
    refine .exit ?_;obtain rfl:=sj h;exact ⟨nofun,(.inl ⟨_,V,V,U,H⟩)⟩
   ·rintro x e σ (⟨a4,rfl,rfl,he,H⟩ | ⟨r',rfl,rfl,hE⟩)
    ·replace h:=jgo h;obtain ⟨e,rfl⟩:=he.ex;refine .tR 1 V H fun b18 σ H => (.aV V (.nila H fun H => (.ret ?_)));obtain rfl:=sj h;exact Ends.eR V
    ·replace h:=jret h;obtain rfl:=sj h;exact hE
  ·replace h:=jret h;obtain rfl:=sj h;exact hE
theorem Z9L {r:Form} (h:Z3S = r):Fn CX 20 [] (.agg (vs (Form.cs r))):=by
 refine Fn.go Tryz.func20 V fun σ H => ?_;unfold Z3S at h;refine .tR 1 V H fun b1 σ H => (.Za (cs:=[(vi 0),(vi 0),.nils,.nils]) H (by omega) (by omega) V V fun σ H => (.nila H fun H => (.tR 5 V H fun b2 σ H => (.bV [(vi 0),(vi 0)] V (.Z0p (sz:=2) ([(Span.mk 0 0)].map Span.cs) H (by omega) (by omega) V V V V V V V V V fun σ H => (.buildSF (sz:=1) ([[(Span.mk 0 0)]].map (cL Span.cs)) H (by omega) (by omega) V V (.exp (.c (.s 0 V)) .nil) V V V V V V V nofun fun σ H => (.bV [(vi 1),(vi 1),(.buf (b2 + 2) 1 1),.nils] V (.sV [(vi 1),(vi 1),(.buf (b2 + 2) 1 1),.nils] H 2 V fun σ H => ?_))))))));refine .nila H fun H => (.ret ?_);subst h;exact (Ends.H (xs:=[(.agg [(vi 1),(vi 1),(.buf (b2 + 2) 1 1),.nils])]) (.inr V) H (.agg (cs:=[(vi 1),(vi 1),(.buf (b2 + 2) 1 1),.nils]) 2 V V V V V V V .nil) (.one (.a (.cons (.v _) (.cons (.v _) (.cons (.s 0 V) (.cons .n .nil)))))))
theorem safe_gcd_fn {a b r:Int} (h:gcd? a b = some r):Fn CX 98 [(vu a),(vu b)] (vu r):=by
 refine Fn.intr ?_ V V V;rw [cx_intr98];unfold gcd? at h;unfold gcdV
 dsimp only
 split at h
 ·rename_i h1;cases h;rw [if_pos h1]
 ·cases h
theorem safe_Lcm_fn {a:Int} {b:Int} {r:Int × Int} (h:safe_Lcm a b = some r):Fn CX 77 [(vi a),(vi b)] (.tup [(vi r.1),(vi r.2)]):=by
 refine Fn.go Tryz.func77 V fun σ H => ?_;unfold safe_Lcm at h;refine .tR 2 V H fun b1 σ H => (.aV V (.aV V (.nila H fun H => (.tR 6 V H fun b2 σ H => (.mV V (.cV (Z56 V) V (.mV V (.cV (Z56 V) V ?_))))))));refine .aV V (.aV V (.nila H fun H => (.then (.tR 6 V H fun b3 σ H => (.mV V (.iV V (.mV V ?_)))))));refine .md H 3 [(19,(vb (((Zg a) == 0) || ((Zg b) == 0)))),(6,(vu (Zg a))),(7,(vu (Zg b)))] [] rfl ?_ fun e σ H => ?_
 ·refine .split V V ?_ ?_ <;> intro hc1
  ·refine .ps 2 V (.kT V (.nil ?_));exact ⟨⟨or_T hc1,V,V,U⟩,H.wk (by omega)⟩
  ·refine .mV V (.iV V (.kF V (.nil ?_)));exact ⟨⟨or_F hc1,V,V,U⟩,H.wk (by omega)⟩
 refine .nila H fun H => ?_;refine .wh h V ?_ ?_ <;> intro h
 ·refine .tR 2 V H fun b4 σ H => (.aV V (.aV V (.nila H fun H => (.ret ?_))));obtain rfl:=sj h;exact Ends.eR V
 refine .skip (.tR 12 V H fun b5 σ H => (.mV V (.mV V (.mV V ?_))));obtain ⟨x1,q1,h⟩:=bs h;refine .cV (safe_gcd_fn q1) V ?_;obtain ⟨u1,q2,h⟩:=bs h;refine .quo (m:=(Zg a)) (m':=x1) V V (Z6i q2) V (.mV V (.cV (Z5F V) V (.m1 (.tup [(vu (Zw (IntKind.u64.wrap ((Zg a).tdiv x1)) (Zg b)).1),(vu (Zw (IntKind.u64.wrap ((Zg a).tdiv x1)) (Zg b)).2)]) V V (.xV V (.xV V (.aV V (.aV V (.nila H fun H => ?_))))))));refine .then (.tR 2 V H fun b6 σ H => (.mV V (.iV V (.nila H fun H => ?_))));refine .wh h V ?_ ?_ <;> intro h
 ·refine .tR 2 V H fun b7 σ H => (.aV V (.aV V (.nila H fun H => (.ret ?_))));obtain rfl:=sj h;exact Ends.eR V
 refine .skip (.tR 6 V H fun b8 σ H => (.mV V (.cV (Z87 V) V (.xV V (.xV V (.aV V (.aV V (.nila H fun H => ?_))))))));refine .ret ?_;obtain rfl:=sj h;exact Ends.eR V
theorem ZAZ {f:Form} {m:Int} {r:Int × Int} (h:Z4Y f m = some r):Fn CX 55 [(.agg (vs (Form.cs f))),(vi m)] (.tup [(vi r.1),(vi r.2)]):=by
 refine Fn.go Tryz.func55 V fun σ H => ?_;unfold Z4Y at h;refine .tR 3 V H fun b1 σ H => (.boxH (cs:=(vF f)) H (by omega) (by omega) V V V fun σ H => (.aV V (.aV V (.nila H fun H => (.then (.tR 3 V H fun b2 σ H => (.fV H 0 V (.lV H 0 V ?_))))))));refine .iV V (.nila H fun H => ?_);refine .wh h V ?_ ?_ <;> intro h
 ·refine .tR 2 V H fun b3 σ H => (.aV V (.aV V (.nila H fun H => (.ret ?_))));obtain rfl:=sj h;exact Ends.eR V
 refine .skip (.tR 9 V H fun b4 σ H => (.fV H 0 V (.lV H 0 V (.mV V ?_))));obtain ⟨x1,q1,h⟩:=bs h;refine .cV (safe_Lcm_fn q1) V (.m1 (.tup [(vi x1.1),(vi x1.2)]) V V (.xV V (.xV V (.aV V (.aV V (.nila H fun H => (.tR 6 V H fun b5 σ H => (.mV V ?_))))))));refine .mV V ?_;obtain ⟨u1,q2,h⟩:=bs h;refine .quo (m:=x1.1) (m':=m) V V (Z6i q2) V (.mV V (.aV V (.aV V (.nila H fun H => (.ret ?_)))));obtain rfl:=sj h;exact Ends.eR V
theorem ZAP {p1':Int} {p2':Int→Option ((List Span) × Int)} {p3':Int} {S:Type} {C:S→List Res→Prop} {yield:S→((List Span) × Int)→Option (S × Bool)} {yid:Nat} {id0':Nat} {cv0:PV} {C':List Res} (hf0:∀ z0 y,p2' z0 = some y→CloH CX cv0 [(vi z0)] (.tup [(vl Span.cs y.1),(vi y.2)]) C') {id1':Nat} {id2':Nat} (hy:YldH CX yid C (fun z => [(vl Span.cs z.1),(vi z.2)]) yield) (hcap:∀ s L,C s L→Sub (.blk id0' 3 [(vi p1')] :: .blk id1' 78 [cv0] :: .blk id2' 3 [(vi p3')] :: C') L) {st' r:S} (h:Z12 p1' p2' p3' yield st' = some r):ItF CX 81 [(.yld yid),(.ptr id0' 1 0),(.ptr id1' 1 0),(.ptr id2' 1 0)] C st' r:=by
 refine ItF.of Tryz.func81 V V V V V V V V ?_;intro σ L hC H;have hc0:=hcap _ _ hC;obtain ⟨k0',hk0',hc0⟩:=hc0.inv;obtain ⟨k1',hk1',hc0⟩:=hc0.inv;obtain ⟨k2',hk2',hc0⟩:=hc0.inv;unfold Z12 at h;refine .tR 2 V H fun b1 σ H => (.ld (vi p1') H k0' hk0' V V V V nofun V (.mV V (.nila H fun H => (.inBlock ?_))));obtain ⟨y1,hj1,h⟩:=bs h;obtain ⟨n1,hj1⟩:=ZM.1 hj1;refine .mono (Runs.loopO hj1 (fun s1 e σ => ∃ (L:List Res),C s1.2 L∧Z6 e [(0,(.yld yid)),(2,(.ptr id1' 1 0)),(3,(.ptr id2' 1 0)),(6,(vi p1')),(7,(vi s1.1))]∧Hs σ (L)) (fun y1 x e σ => (∃ a1,∃ (L:List Res),C a1 L∧y1 = (.go a1)∧x = .exit 0∧Z6 e []∧Hs σ (L))∨(∃ r',y1 = (.ret r')∧x = .ret∧EndsI C r' x e σ)) ⟨_,hC,EI V,H⟩ ?_) ?_
 ·intro s1 e σ hI z h;obtain ⟨L,hC,he,H⟩:=hI;obtain ⟨e,rfl⟩:=he.ex;have hc0:=hcap _ _ hC;obtain ⟨k0',hk0',hc0⟩:=hc0.inv;obtain ⟨k1',hk1',hc0⟩:=hc0.inv;obtain ⟨k2',hk2',hc0⟩:=hc0.inv;unfold Z12.s0 at h;refine .tR 1 V H fun b2 σ H => (.iV V (.nila H fun H => (.then ?_)));refine .wh h V ?_ ?_ <;> intro h
  ·refine .skip (.then (.inBlock (.tR 2 V H fun b3 σ H => (.mV V (.aV V (.nila H fun H => (.tR 10 V H fun b4 σ H => (.m1 (.yld yid) V V ?_))))))));refine .ld cv0 H k1' hk1' V V V V nofun V (.ld (vi p3') H k2' hk2' V V V V nofun V (.mV V (.iV V ?_)));obtain ⟨x1,q1,h⟩:=bs h;refine .callV (cv:=cv0) (ys:=[(vi (w64 (p3' + s1.1)))]) (r:=(.tup [(vl Span.cs x1.1),(vi x1.2)])) H V V (hf0 (w64 (p3' + s1.1)) _ q1) hc0 nofun V fun σ H => (.xV V (.xV V ?_));obtain ⟨x2,q2,h⟩:=bs h;refine .callY (z:=(x1.1,x1.2)) (s':=x2.1) (b:=x2.2) [] H hC V V hy q2 V V fun σ L hC H => ?_;have hc0:=hcap _ _ hC;obtain ⟨k0',hk0',hc0⟩:=hc0.inv;obtain ⟨k1',hk1',hc0⟩:=hc0.inv;obtain ⟨k2',hk2',hc0⟩:=hc0.inv;refine .tV V (.nila H fun H => ?_);refine .wh h V ?_ ?_ <;> intro h
   ·refine .ret ?_;obtain rfl:=sj h;exact ⟨nofun,(.inr ⟨_,V,V,(EndsI.H (.inr V) H 0 V hC)⟩)⟩
   refine .skip (.Z4 2 V H fun b5 σ H => (.iV V (.mV V (.nila H fun H => ?_))));obtain rfl:=sj h;exact ⟨V,_,hC,EI V,H⟩
  refine .exit ?_;obtain rfl:=sj h;exact ⟨nofun,(.inl ⟨_,_,hC,V,V,U,H⟩)⟩
 ·rintro x e σ (⟨a2,L,hC,rfl,rfl,he,H⟩ | ⟨r',rfl,rfl,hE⟩)
  ·replace h:=jgo h;obtain ⟨e,rfl⟩:=he.ex;have hc0:=hcap _ _ hC;obtain ⟨k0',hk0',hc0⟩:=hc0.inv;obtain ⟨k1',hk1',hc0⟩:=hc0.inv;obtain ⟨k2',hk2',hc0⟩:=hc0.inv;obtain rfl:=sj h;exact (EndsI.H (.inl V) H 0 V hC)
  ·replace h:=jret h;obtain rfl:=sj h;exact hE
theorem Z5S {tell:Int→Option ((List Span) × Int)} {from':Int} {many:Int} {C:List Res} {cv0:PV} (hs0:cv0.one = true) (hp0:cv0.pure = true→C = []) (hf0:∀ z0 y,tell z0 = some y→CloH CX cv0 [(vi z0)] (.tup [(vl Span.cs y.1),(vi y.2)]) C) {r:(List Span) × Int} (h:Z0T tell from' many = some r):FnH CX 37 [cv0,(vi from'),(vi many)] (.tup [(vl Span.cs r.1),(vi r.2)]) C:=by
 refine FnH.of Tryz.func37 V V V V (Z49 (Z4G hs0) (Z49 V (Z49 V all_nil))) V (fun h => hp0 (Z3A h 0 V)) ?_;intro σ L hC H;unfold Z0T at h;refine .tR 2 V H fun b1 σ H => (.Za (cs:=[.nils]) H (by omega) (by omega) V V fun σ H => (.Za (cs:=[(vi 0)]) H (by omega) (by omega) V V fun σ H => (.nila H fun H => (.tR 1 V H fun b2 σ H => (.Za (cs:=[.nils]) H (by omega) (by omega) V V fun σ H => (.nila H fun H => (.then (.tR 4 V H fun b3 σ H => ?_))))))));refine .m1 cv0 V V (.mV V (.mV V ?_));obtain ⟨y1,hj1,h⟩:=bs h;refine .Z6N (PostA:=fun r A => ∃ (id1:Nat) (id2:Nat) (id3:Nat),r = (.clo 81 [] [(.ptr id1 1 0),(.ptr id3 1 0),(.ptr id2 1 0)])∧A = [.blk id1 3 [(vi many)],.blk id2 3 [(vi from')],.blk id3 78 [cv0],.blk (b2 + 0) 44 [.nils],.blk (b1 + 1) 37 [(vi 0)],.blk (b1 + 0) 44 [.nils]]) (cv:=(.v (.fn 59))) (ys:=[cv0,(vi from'),(vi many)]) (L:=L) [.blk (b2 + 0) 44 [.nils],.blk (b1 + 1) 37 [(vi 0)],.blk (b1 + 0) 44 [.nils]] H V V (fun T1 hT H => Z2e Tryz.func59 V (fun _ => V) V V V V ?_) nofun V ?_
 ·replace h:=hj1;have hC:=hT _ hC;refine .tR 4 V H fun b4 σ H => (.boxH (cs:=[cv0]) H (by omega) (by omega) V (one_cells hs0) V fun σ H => (.boxH (cs:=[(vi from')]) H (by omega) (by omega) V V V fun σ H => (.boxH (cs:=[(vi many)]) H (by omega) (by omega) V V V fun σ H => (.aV V (.nila H fun H => (.tR 2 V H fun b5 σ H => (.Z3U (fs:=[]) (cs:=[(.ptr (b4 + 2) 1 0),(.ptr (b4 + 0) 1 0),(.ptr (b4 + 1) 1 0)]) V V V V (.a1 (.clo 81 [] [(.ptr (b4 + 2) 1 0),(.ptr (b4 + 0) 1 0),(.ptr (b4 + 1) 1 0)]) V V ?_))))))));refine .nila H fun H => (.ret ?_);obtain rfl:=sj h;exact ⟨.inr V,_,Z0Y H (.tmp (v:=(.clo 81 [] [(.ptr (b4 + 2) 1 0),(.ptr (b4 + 0) 1 0),(.ptr (b4 + 1) 1 0)])) V .nil),_,⟨(b4 + 2),(b4 + 1),(b4 + 0),V,V⟩,H⟩
 ·rintro _ _ σ ⟨id1,id2,id3,rfl,rfl⟩ H;refine .nila H fun H => (.inBlock ?_);replace H:=H.pushNil 46 2 true;obtain ⟨y2,hj2,h⟩:=bs h;refine .rangeH H rfl (fun s2 M => ∃ (w3:PV),M = (.sl w3 46 2 (s2.1.map Span.cs) true :: .blk id1 3 [(vi many)] :: .blk id2 3 [(vi from')] :: .blk id3 78 [cv0] :: .blk (b2 + 0) 44 [w3] :: .blk (b1 + 1) 37 [(vi s2.2)] :: .blk (b1 + 0) 44 [.nils] :: L)) (fun z2 => [(vl Span.cs z2.1),(vi z2.2)]) Z0T.b0 (fun p => if p = 0 then none else some .ret) rfl (fun p => by (repeat' split) <;> exact ⟨_,rfl⟩) (r:=y2) ⟨.nils,rfl⟩ (fun _ => rfl) (fun _ => rfl) ?_ (fun id hy => ZAP hf0 hy (fun s L hL => by obtain ⟨M,hM,rfl⟩:=hL;obtain ⟨_,rfl⟩:=hM;exact (.cons 2 rfl (.cons 4 rfl (.cons 3 rfl hC.push.push.push.push.push.push.push.push)))) hj2) ?_
  ·intro R0 R1 s2 z2 s' p h σ M O hM H;obtain ⟨w3,rfl⟩:=hM;unfold Z0T.b0 at h;have hC:=hC.more (M:=O);refine .env [(15,(vl Span.cs z2.1)),(16,(vi z2.2)),(6,(.ptr (b1 + 0) 1 0)),(7,(.ptr (b1 + 1) 1 0)),(8,(.ptr (b2 + 0) 1 0)),(14,(.clo 81 [] [(.ptr id1 1 0),(.ptr id3 1 0),(.ptr id2 1 0)]))] (EI V) fun e => (.tR 1 V H fun b6 σ H => (.aV V (.nila H fun H => (.Z4 1 V H fun b7 σ H => (.aV V (.nila H fun H => ?_))))));refine ⟨V,(.sl w3 46 2 (s2.1.map Span.cs) true :: .blk id1 3 [(vi many)] :: .blk id2 3 [(vi from')] :: .blk id3 78 [cv0] :: .blk (b2 + 0) 44 [w3] :: .blk (b1 + 1) 37 [(vi s2.2)] :: .blk (b1 + 0) 44 [.nils] :: L),H,?_⟩;intro σ H;obtain ⟨y3,hj3,h⟩:=bs h;refine .mono (Q:=fun x e σ => (∃ a1,∃ (w4:PV),y3 = (.go a1)∧x = .normal∧Z6 e []∧Hs σ (R1 :: .sl w4 46 2 (a1.map Span.cs) true :: .blk id1 3 [(vi many)] :: .blk id2 3 [(vi from')] :: .blk id3 78 [cv0] :: .blk (b2 + 0) 44 [w4] :: .blk (b1 + 1) 37 [(vi s2.2)] :: .blk (b1 + 0) 44 [.nils] :: (L ++ O)))∨(∃ a2,y3 = (.ret a2)∧x = .ret∧Z6 e [(6,(.ptr (b1 + 0) 1 0)),(7,(.ptr (b1 + 1) 1 0))]∧Hs σ (R1 :: .sl w3 46 2 (s2.1.map Span.cs) true :: .blk id1 3 [(vi many)] :: .blk id2 3 [(vi from')] :: .blk id3 78 [cv0] :: .blk (b2 + 0) 44 [w3] :: .blk (b1 + 1) 37 [(vi z2.2)] :: .blk (b1 + 0) 44 [.nils] :: (L ++ O)))) ?_ ?_
   ·replace h:=hj3;refine .inBlock ?_;obtain ⟨y4,hj4,h⟩:=bs h;refine .mono (Q:=fun x e σ => (∃ a3,∃ (w5:PV),y4 = (.go a3)∧x = .normal∧Z6 e []∧Hs σ (R1 :: .sl w5 46 2 (a3.map Span.cs) true :: .blk id1 3 [(vi many)] :: .blk id2 3 [(vi from')] :: .blk id3 78 [cv0] :: .blk (b2 + 0) 44 [w5] :: .blk (b1 + 1) 37 [(vi s2.2)] :: .blk (b1 + 0) 44 [.nils] :: (L ++ O)))∨(∃ a4,y4 = (.ret a4)∧x = .ret∧Z6 e [(6,(.ptr (b1 + 0) 1 0)),(7,(.ptr (b1 + 1) 1 0))]∧Hs σ (R1 :: .sl w3 46 2 (s2.1.map Span.cs) true :: .blk id1 3 [(vi many)] :: .blk id2 3 [(vi from')] :: .blk id3 78 [cv0] :: .blk (b2 + 0) 44 [w3] :: .blk (b1 + 1) 37 [(vi z2.2)] :: .blk (b1 + 0) 44 [.nils] :: (L ++ O)))) ?_ ?_
    ·replace h:=hj4;refine .then (.tR 2 V H fun b8 σ H => (.mV V (.iV V (.nila H fun H => ?_))));refine .wh h V ?_ ?_ <;> intro h
     ·refine .tR 3 V H fun b9 σ H => (.mV V (.sV [.nils] H 7 V fun σ H => (.sV [(vi z2.2)] H 6 V fun σ H => (.nila H fun H => (.ret ?_)))));obtain rfl:=sj h;exact (.inr ⟨_,V,V,EI V,H⟩)
     refine .skip (.then ?_);refine .jn h .normal (fun y5 => [(8,(.ptr (b2 + 0) 1 0)),(9,(vl Span.cs y5.1))]) (fun y5 => (R1 :: .sl w3 46 2 (y5.2.map Span.cs) true :: .blk id1 3 [(vi many)] :: .blk id2 3 [(vi from')] :: .blk id3 78 [cv0] :: .blk (b2 + 0) 44 [w3] :: .blk (b1 + 1) 37 [(vi s2.2)] :: .blk (b1 + 0) 44 [.nils] :: (L ++ O))) (fun y5 h => ?_) fun y5 e σ H h => ?_
     ·refine .then (.Zr 23 V (by kernel_rfl) H fun b10 σ H B10 => (.ld w3 H 5 V V V V V (fun _ => .inl ⟨B10 5 _ V _ V,nofun,(fun _ => by kernel_rfl)⟩) V (.Z48 (c:=Span.cs) (xs:=s2.1) H 1 V V V (fun _ id ho => .inl ⟨B10 1 _ V id ho,nofun,(fun _ => by kernel_rfl)⟩) V (.iV V (.mV V ?_)))));refine .md H 4 [(27,(vb ((decide ((s2.1.length:Int) > 0)) && (decide ((z2.1.length:Int) > 0))))),(8,(.ptr (b2 + 0) 1 0)),(9,(vl Span.cs z2.1))] (R1 :: .sl w3 46 2 (s2.1.map Span.cs) true :: .blk id1 3 [(vi many)] :: .blk id2 3 [(vi from')] :: .blk id3 78 [cv0] :: .blk (b2 + 0) 44 [w3] :: .blk (b1 + 1) 37 [(vi s2.2)] :: .blk (b1 + 0) 44 [.nils] :: (L ++ O)) V ?_ fun e σ H => ?_
      ·refine .split V V ?_ ?_ <;> intro hc2
       ·refine .mV V (.nV V (.iV V (.kT V (.nil ?_))));exact ⟨⟨Z2V hc2,V,V,U⟩,H.wk (by omega)⟩
       ·refine .ps 3 V (.kF V (.nil ?_));exact ⟨⟨Z2S hc2,V,V,U⟩,H.wk (by omega)⟩
      refine .mV V ?_;obtain ⟨y6,hj6,h⟩:=bs h;refine .md H 14 [(42,(vb y6)),(8,(.ptr (b2 + 0) 1 0)),(9,(vl Span.cs z2.1))] (R1 :: .sl w3 46 2 (s2.1.map Span.cs) true :: .blk id1 3 [(vi many)] :: .blk id2 3 [(vi from')] :: .blk id3 78 [cv0] :: .blk (b2 + 0) 44 [w3] :: .blk (b1 + 1) 37 [(vi s2.2)] :: .blk (b1 + 0) 44 [.nils] :: (L ++ O)) V ?_ fun e σ H => ?_
      ·refine .sp hj6 V ?_ ?_ <;> intro h
       ·refine .mV V (.wt V V ?_);obtain ⟨x1,q1,h⟩:=bs h;refine .jV q1 V (.wt V V (.Z8 V V V V (.pV V (.wt V V (.ld w3 H 5 V V V V V (fun _ => .inl ⟨B10 5 _ V _ V,nofun,(fun _ => by kernel_rfl)⟩) V (.wt V V (.ld w3 H 5 V V V V V (fun _ => .inl ⟨B10 5 _ V _ V,nofun,(fun _ => by kernel_rfl)⟩) V (.wt V V ?_))))))));refine .Z48 (c:=Span.cs) (xs:=s2.1) H 1 V V V (fun _ id ho => .inl ⟨B10 1 _ V id ho,nofun,(fun _ => by kernel_rfl)⟩) V (.iV V (.wt V V ?_));obtain ⟨x2,q2,h⟩:=bs h;refine .Z3h H 1 V V V (at?_map q2) V V (fun _ id ho => .inl ⟨B10 1 _ V id ho,nofun,(fun _ => by kernel_rfl)⟩) V ?_;intro id4 hv1;refine .wt V V (.Z5e (id:=id4) H 1 V hv1 (by simp) V V V (fun _ => .inl ⟨B10 1 _ V _ (by rw [(hv1:(w3:PV) = _)];rfl),nofun,(fun _ => by kernel_rfl)⟩) V (.wt V V ?_));refine .Z6j (id:=id4) (j:=1) (w:=(.int .i64 x2.To)) H 1 V hv1 (by simp) (at?_map q2) V (by simp) V V V (fun _ => .inl ⟨B10 1 _ V _ (by rw [(hv1:(w3:PV) = _)];rfl),nofun,(fun _ => by kernel_rfl)⟩) V ?_;refine .iV V (.iV V (.kT V (.nil ?_)));obtain rfl:=sj h;exact ⟨EI V,H.wk (by omega)⟩
       refine .ps 13 V (.kF V (.nil ?_));obtain rfl:=sj h;exact ⟨EI V,H.wk (by omega)⟩
      refine .nila H fun H => ?_;refine .wh h V ?_ ?_ <;> intro h
      ·refine .then (.Zr 11 V (by kernel_rfl) H fun b11 σ H B11 => (.ld w3 H 5 V V V V V (fun _ => .inl ⟨B11 5 _ V _ V,nofun,(fun _ => by kernel_rfl)⟩) V (.ld w3 H 5 V V V V V (fun _ => .inl ⟨B11 5 _ V _ V,nofun,(fun _ => by kernel_rfl)⟩) V (.Z48 (c:=Span.cs) (xs:=s2.1) H 1 V V V (fun _ id ho => .inl ⟨B11 1 _ V id ho,nofun,(fun _ => by kernel_rfl)⟩) V (.iV V (.mV V ?_))))));obtain ⟨x3,q3,h⟩:=bs h;refine .jV q3 V (.Z8 V V V V (.pV V ?_));obtain ⟨x4,q4,h⟩:=bs h;refine .Z3h H 1 V V V (at?_map q4) V V (fun _ id ho => .inl ⟨B11 1 _ V id ho,nofun,(fun _ => by kernel_rfl)⟩) V ?_;intro id5 hv2;refine .Z5e (id:=id5) H 1 V hv2 (by simp) V V V (fun _ => .inl ⟨B11 1 _ V _ (by rw [(hv2:(w3:PV) = _)];rfl),nofun,(fun _ => by kernel_rfl)⟩) V (.storeSt (id:=id5) (j:=1) (zs:=[(.int .i64 x3.To)]) (u:=x4) (u':=(Span.mk x4.From x3.To)) H 1 V hv2 (by simp) q4 V (by simp) V V V V V V (fun _ => .inl ⟨B11 1 _ V _ (by rw [(hv2:(w3:PV) = _)];rfl),(fun _ => by kernel_rfl),nofun⟩) fun σ H => (.nila H fun H => (.Z4 3 V H fun b12 σ H => (.mV V ?_))));obtain ⟨x5,q5,h⟩:=bs h;refine .sliceP10 (c:=Span.cs) q5 V V V V (fun _ => V) V (.aV V (.nila H fun H => ?_));obtain rfl:=sj h;exact ⟨V,EI V,H⟩
      refine .skip ?_;obtain rfl:=sj h;exact ⟨V,EI V,H⟩
     refine .Z4 4 V H fun b13 σ H => (.lV H 5 V (.mV V ?_));obtain ⟨x6,q6,h⟩:=bs h;refine .Z16 (c:=Span.cs) (v:=w3) (w:=(vl Span.cs y5.1)) (xs:=y5.2) (ys:=y5.1) H (by omega) (by omega) 1 V V V (.m (fun _ => V)) q6 V V V V V nofun V fun w6 σ H => (.Z4N (v:=w6) (ys:=[w6]) (cells':=[w6]) H 5 V V V V (H.slCells (k:=1) V) V V V V nofun fun σ H => (.nila H fun H => ?_));obtain rfl:=sj h;exact (.inl ⟨_,w6,V,V,U,H⟩)
    ·rintro x e σ (⟨a5,w7,rfl,rfl,he,H⟩ | ⟨a6,rfl,rfl,he,H⟩)
     ·replace h:=jgo h;obtain ⟨e,rfl⟩:=he.ex;obtain rfl:=sj h;exact (.inl ⟨_,w7,V,V,U,H⟩)
     ·replace h:=jret h;obtain ⟨e,rfl⟩:=he.ex;obtain rfl:=sj h;exact (.inr ⟨_,V,V,EI V,H⟩)
   ·rintro x e σ (⟨a7,w8,rfl,rfl,he,H⟩ | ⟨a8,rfl,rfl,he,H⟩)
    ·replace h:=jgo h;obtain ⟨e,rfl⟩:=he.ex;obtain ⟨rfl,rfl⟩:=Prod.mk.inj (Option.some.inj h);exact ⟨⟨V,(iff_of_true V V)⟩,_,⟨w8,V⟩,H⟩
    ·replace h:=jret h;obtain ⟨e,rfl⟩:=he.ex;obtain ⟨rfl,rfl⟩:=Prod.mk.inj (Option.some.inj h);exact ⟨⟨V,(iff_of_false nofun nofun)⟩,_,⟨w3,V⟩,H⟩
  ·intro x σ M hx hM H;obtain ⟨w9,rfl⟩:=hM;cases hc0_:(y2.2 == 0)
   ·replace h:=cond_F hc0_ h;have hx:x = .ret:=by simpa [ne_of_beq_false hc0_,Z6l] using hx.symm
    subst hx;obtain rfl:=sj h;exact (EndsH.H (xs:=[.nils,(vi y2.1.2)]) (.inr V) H (.cell (v:=.nils) 6 V V V V V (.cell (v:=(vi y2.1.2)) 5 V V V V V .nil)) (.two (.cons (.c .n) (.cons (.c (.v _)) .nil))) 7 V)
   ·replace h:=cond_T hc0_ h;have hx:x = .normal:=by rw [eq_of_beq hc0_] at hx;exact (Option.some.inj hx).symm
    subst hx;refine .tR 3 V H fun b14 σ H => (.lV H 4 V (.Z4N (v:=w9) (ys:=[w9]) (cells':=[w9]) H 6 V V V V (H.slCells (k:=0) V) V V V V nofun fun σ H => (.sV [(vi 0)] H 5 V fun σ H => (.nila H fun H => (.ret ?_)))));obtain rfl:=sj h;exact (EndsH.H (xs:=[w9,(vi 0)]) (.inr V) H (.cell (v:=w9) 6 V V V V V (.cell (v:=(vi 0)) 5 V V V V V .nil)) (.two (.cons (.c (.s 0 V)) (.cons (.c (.v _)) .nil))) 7 V)
theorem groups_Raw_fn {f:Form} {i:Int} {r:(List Span) × Int} (h:Z5R f i = some r):Fn CX 58 [(.agg (vs (Form.cs f))),(vi i)] (.tup [(vl Span.cs r.1),(vi r.2)]):=by
 refine Fn.go Tryz.func58 V fun σ H => ?_;unfold Z5R at h;refine .tR 3 V H fun b1 σ H => (.boxH (cs:=(vF f)) H (by omega) (by omega) V V V fun σ H => (.a1 .nils V V (.aV V (.nila H fun H => (.then (.tR 3 V H fun b2 σ H => (.fV H 0 V (.lV H 0 V ?_))))))));refine .iV V (.nila H fun H => ?_);refine .wh h V ?_ ?_ <;> intro h
 ·refine .tR 2 V H fun b3 σ H => (.a1 .nils V V (.aV V (.nila H fun H => (.ret ?_))));obtain rfl:=sj h;exact (Ends.H (xs:=[.nils,(vi 0)]) (.inr V) H (.tmp (v:=.nils) V (.tmp (v:=(vi 0)) V .nil)) (.two (.cons (.c .n) (.cons (.c (.v _)) .nil))))
 refine .skip (.tR 11 V H fun b4 σ H => (.mV V (.fV H 0 V (.lV H 0 V ?_))));obtain ⟨x1,q1,h⟩:=bs h;refine .cV (Z1m q1) V (.m1 (.tup [(vi x1.1),(vi x1.2.1),(vi x1.2.2)]) V V (.xV V (.xV V (.xV V (.aV V (.aV V (.aV V (.nila H fun H => ?_))))))));refine .tR 9 V H fun b5 σ H => (.mV V (.fV H 0 V (.lV H 0 V (.cV (Z5s V) V (.m1 (.tup [(vi (ZL x1.1 f.Period).1),(vi (ZL x1.1 f.Period).2)]) V V (.xV V (.xV V (.aV V ?_))))))));refine .aV V (.nila H fun H => (.then (.tR 7 V H fun b6 σ H => (.fV H 0 V (.lV H 0 V (.mV V ?_))))));obtain ⟨x2,q2,h⟩:=bs h;refine .jV q2 V (.pV V (.nV V (.iV V (.nila H fun H => ?_))));refine .wh h V ?_ ?_ <;> intro h
 ·refine .tR 2 V H fun b7 σ H => (.a1 .nils V V (.aV V (.nila H fun H => (.ret ?_))));obtain rfl:=sj h;exact (Ends.H (xs:=[.nils,(vi 0)]) (.inr V) H (.tmp (v:=.nils) V (.tmp (v:=(vi 0)) V .nil)) (.two (.cons (.c .n) (.cons (.c (.v _)) .nil))))
 refine .skip (.then (.tR 6 V H fun b8 σ H => (.mV V (.iV V (.mV V ?_)))));refine .md H 3 [(41,(vb ((x1.2.2 != 0) || (((ZL x1.1 f.Period).2) != 0)))),(2,(.ptr (b1 + 0) 4 0)),(7,(vi x1.2.1)),(9,(vi (ZL x1.1 f.Period).1))] [.blk (b1 + 0) 25 (vF f)] rfl ?_ fun e σ H => ?_
 ·refine .split V V ?_ ?_ <;> intro hc3
  ·refine .ps 2 V (.kT V (.nil ?_));exact ⟨⟨or_T hc3,V,V,V,U⟩,H.wk (by omega)⟩
  ·refine .mV V (.iV V (.kF V (.nil ?_)));exact ⟨⟨or_F hc3,V,V,V,U⟩,H.wk (by omega)⟩
 refine .nila H fun H => ?_;refine .wh h V ?_ ?_ <;> intro h
 ·refine .tR 2 V H fun b9 σ H => (.a1 .nils V V (.aV V (.nila H fun H => (.ret ?_))));obtain rfl:=sj h;exact (Ends.H (xs:=[.nils,(vi 20)]) (.inr V) H (.tmp (v:=.nils) V (.tmp (v:=(vi 20)) V .nil)) (.two (.cons (.c .n) (.cons (.c (.v _)) .nil))))
 refine .skip (.tR 11 V H fun b10 σ H => (.fV H 0 V (.lV H 0 V (.mV V ?_))));obtain ⟨x3,q3,h⟩:=bs h;refine .jV q3 V (.pV V (.mV V ?_));obtain ⟨x4,q4,h⟩:=bs h;refine .cV (Z8e q4) V (.xV V (.xV V (.aV V (.aV V (.nila H fun H => (.ret ?_))))));obtain rfl:=sj h;exact Ends.eR V
theorem ZA1 {i:Int} {p1':Form} {id0':Nat} {r:(List Span) × Int} (h:Z30 i p1' = some r):FnH CX 57 [(vi i),(.ptr id0' 4 0)] (.tup [(vl Span.cs r.1),(vi r.2)]) [.blk id0' 25 (vF p1')]:=by
 refine FnH.of Tryz.func57 V V V V V V (fun h => by have:=Z3A h 1 V;cases this) ?_;intro σ L hC H;have hC0:=hC;obtain ⟨k0',hk0',hC⟩:=hC.inv;unfold Z30 at h;refine .tR 2 V H fun b1 σ H => (.a1 .nils V V (.aV V (.nila H fun H => (.tR 7 V H fun b2 σ H => (.Z1f (cs:=(vF p1')) H k0' hk0' V V V V V V nofun V (.mV V ?_))))));obtain ⟨x1,q1,h⟩:=bs h;refine .cV (groups_Raw_fn q1) V (.xV V (.xV V (.aV V (.aV V (.nila H fun H => (.ret ?_))))));obtain rfl:=sj h;exact (EndsH.H (xs:=[(vl Span.cs x1.1),(vi x1.2)]) (.inr V) H (.tmp (v:=(vl Span.cs x1.1)) V (.tmp (v:=(vi x1.2)) V .nil)) (.two (.cons (.c (.v _)) (.cons (.c (.v _)) .nil))) 0 V)
theorem ZBl {f:Form} {m:Int} {r:Form × Int} (h:Z0W f m = some r):FnO CX 35 [(.agg (vs (Form.cs f))),(vi m)] (fun q A => ∃ (w7:PV),q = (.tup [(.agg [(vi r.1.Period),(vi r.1.Count),w7,.nils]),(vi r.2)])∧A = [.sl w7 44 1 (r.1.Core.map (cL Span.cs)) true]):=by
 refine FnO.of Tryz.func35 V V V V V V ?_;intro σ T H;unfold Z0W at h;refine .tR 3 V H fun b1 σ H => (.boxH (cs:=(vF f)) H (by omega) (by omega) V V V fun σ H => (.Za (cs:=[(vi 0),(vi 0),.nils,.nils]) H (by omega) (by omega) V V fun σ H => (.aV V (.nila H fun H => (.tR 8 V H fun b2 σ H => (.LV (vF f) H 1 V (.mV V ?_)))))));obtain ⟨x1,q1,h⟩:=bs h;refine .cV (ZAZ q1) V (.m1 (.tup [(vi x1.1),(vi x1.2)]) V V (.xV V (.xV V (.aV V (.aV V (.nila H fun H => (.then (.tR 2 V H fun b3 σ H => ?_))))))));refine .mV V (.iV V (.nila H fun H => ?_));refine .wh h V ?_ ?_ <;> intro h
 ·refine .tR 3 V H fun b4 σ H => (.bV [(vi 0),(vi 0),.nils,.nils] V (.sV [(vi 0),(vi 0),.nils,.nils] H 0 V fun σ H => (.aV V (.nila H fun H => (.ret ?_)))));replace H:=H.pushNil 44 1 true;obtain rfl:=sj h;exact ⟨.inr V,_,Z0Y H (.agg (cs:=[(vi 0),(vi 0),.nils,.nils]) 1 V V V V V V V (.tmp (v:=(vi 0)) V .nil)),_,⟨.nils,V,V⟩,((H.erase 2).erase 1)⟩
 refine .skip (.tR 1 V H fun b5 σ H => (.aV V (.nila H fun H => (.then (.tR 4 V H fun b6 σ H => (.fV H 1 V (.lV H 1 V (.nV V ?_))))))));refine .mV V (.nila H fun H => (.inBlock ?_));refine .lp h (fun s1 => [(1,(vi m)),(2,(.ptr (b1 + 0) 4 0)),(4,(.ptr (b1 + 1) 4 0)),(6,(vi x1.1)),(7,(vi x1.2)),(8,(vi s1.1)),(27,(vl (cL Span.cs) f.Core)),(28,(vi (f.Core.length:Int))),(29,(vi s1.2))]) (fun s1 => (.blk (b1 + 1) 25 [(vi 0),(vi 0),.nils,.nils] :: .blk (b1 + 0) 25 (vF f) :: T)) (.exit 0) (fun y1 => [(1,(vi m)),(2,(.ptr (b1 + 0) 4 0)),(4,(.ptr (b1 + 1) 4 0)),(6,(vi x1.1)),(7,(vi x1.2)),(8,(vi y1))]) (fun y1 => (.blk (b1 + 1) 25 [(vi 0),(vi 0),.nils,.nils] :: .blk (b1 + 0) 25 (vF f) :: T)) (EI V) H (fun s1 e σ H z h => ?_) fun y1 e σ H h => ?_
 ·unfold Z0W.s0 at h;refine .tR 1 V H fun b7 σ H => (.iV V (.nila H fun H => (.then ?_)));refine .wh h V ?_ ?_ <;> intro h
  ·refine .skip (.then (.inBlock (.tR 3 V H fun b8 σ H => ?_)));obtain ⟨x2,q2,h⟩:=bs h;refine .jV q2 V (.pV V (.aV V (.nila H fun H => (.Z4 5 V H fun b9 σ H => (.mV V (.mV V (.nV V (.iV V ?_))))))));refine .aV V (.nila H fun H => (.Z4 2 V H fun b10 σ H => (.iV V (.mV V (.nila H fun H => ?_)))));obtain rfl:=sj h;exact ⟨V,EI V,H⟩
  refine .exit ?_;obtain rfl:=sj h;exact ⟨nofun,⟨V,EI V,H⟩⟩
 refine .then (.tR 7 V H fun b11 σ H => (.mV V (.mV V (.fV H 1 V (.lV H 1 V ?_)))));obtain ⟨u1,q3,h⟩:=bs h;refine .quo (m:=x1.2) (m':=f.Count) V V (Z6i q3) V (.iV V (.iV V (.nila H fun H => ?_)));refine .wh h V ?_ ?_ <;> intro h
 ·refine .tR 3 V H fun b12 σ H => (.bV [(vi 0),(vi 0),.nils,.nils] V (.sV [(vi 0),(vi 0),.nils,.nils] H 0 V fun σ H => (.aV V (.nila H fun H => (.ret ?_)))));replace H:=H.pushNil 44 1 true;obtain rfl:=sj h;exact ⟨.inr V,_,Z0Y H (.agg (cs:=[(vi 0),(vi 0),.nils,.nils]) 1 V V V V V V V (.tmp (v:=(vi 3)) V .nil)),_,⟨.nils,V,V⟩,((H.erase 2).erase 1)⟩
 refine .skip (.tR 4 V H fun b13 σ H => (.mV V (.bV [(vi 0),(vi x1.1),.nils,.nils] V (.Za (cs:=[(vi 0),(vi 0),.nils,.nils]) H (by omega) (by omega) V V fun σ H => (.sV [(vi 0),(vi x1.1),.nils,.nils] H 0 V fun σ H => (.nila H fun H => (.then (.Zr 12 V (by kernel_rfl) H fun b14 σ H B14 => ?_))))))));refine .ZA H 2 V V V V V (fun _ => .inl ⟨B14 2 _ V _ V,nofun,(fun _ => by kernel_rfl)⟩) V (.ld (vi f.Period) H 2 V V V V V (fun _ => .inl ⟨B14 2 _ V _ V,nofun,(fun _ => by kernel_rfl)⟩) V (.mV V (.ZA H 2 V V V V V (fun _ => .inl ⟨B14 2 _ V _ V,nofun,(fun _ => by kernel_rfl)⟩) V (.ld (vi f.Count) H 2 V V V V V (fun _ => .inl ⟨B14 2 _ V _ V,nofun,(fun _ => by kernel_rfl)⟩) V ?_))));obtain ⟨u2,q4,h⟩:=bs h;refine .quo (m:=x1.2) (m':=f.Count) V V (Z6i q4) V (.cV (Z5s V) V (.m1 (.tup [(vi (ZL f.Period (w64 (x1.2.tdiv f.Count))).1),(vi (ZL f.Period (w64 (x1.2.tdiv f.Count))).2)]) V V (.xV V (.xV V (.aV V (.aV V (.nila H fun H => (.then ?_))))))));refine .tR 6 V H fun b15 σ H => (.mV V (.iV V (.mV V ?_)));refine .md H 3 [(63,(vb ((((ZL f.Period (w64 (x1.2.tdiv f.Count))).2) != 0) || (decide (((ZL f.Period (w64 (x1.2.tdiv f.Count))).1) > 1099511627776))))),(1,(vi m)),(2,(.ptr (b1 + 0) 4 0)),(4,(.ptr (b1 + 1) 4 0)),(6,(vi x1.1)),(11,(.ptr (b13 + 2) 4 0)),(12,(vi (ZL f.Period (w64 (x1.2.tdiv f.Count))).1))] (.blk (b13 + 2) 25 [(vi 0),(vi x1.1),.nils,.nils] :: .blk (b1 + 1) 25 [(vi 0),(vi 0),.nils,.nils] :: .blk (b1 + 0) 25 (vF f) :: T) rfl ?_ fun e σ H => ?_
 ·refine .split V V ?_ ?_ <;> intro hc4
  ·refine .ps 2 V (.kT V (.nil ?_));exact ⟨⟨or_T hc4,V,V,V,V,V,V,U⟩,H.wk (by omega)⟩
  ·refine .mV V (.iV V (.kF V (.nil ?_)));exact ⟨⟨or_F hc4,V,V,V,V,V,V,U⟩,H.wk (by omega)⟩
 refine .nila H fun H => ?_;refine .wh h V ?_ ?_ <;> intro h
 ·refine .tR 3 V H fun b16 σ H => (.bV [(vi 0),(vi 0),.nils,.nils] V (.sV [(vi 0),(vi 0),.nils,.nils] H 1 V fun σ H => (.aV V (.nila H fun H => (.ret ?_)))));replace H:=H.pushNil 44 1 true;obtain rfl:=sj h;exact ⟨.inr V,_,Z0Y H (.agg (cs:=[(vi 0),(vi 0),.nils,.nils]) 2 V V V V V V V (.tmp (v:=(vi 20)) V .nil)),_,⟨.nils,V,V⟩,(((H.erase 3).erase 2).erase 1)⟩
 refine .skip (.tR 3 V H fun b17 σ H => (.mV V (.fV H 0 V (.sV [(vi (ZL f.Period (w64 (x1.2.tdiv f.Count))).1),(vi x1.1),.nils,.nils] H 0 V fun σ H => (.nila H fun H => (.then (.tR 2 V H fun b18 σ H => (.mV V ?_))))))));refine .mV V (.nila H fun H => (.inBlock ?_));replace H:=H.pushNil 44 1 true;obtain ⟨y2,hj2,h⟩:=bs h;obtain ⟨n2,hj2⟩:=ZM.1 hj2;refine .mono (Runs.loopO hj2 (fun s3 e σ => ∃ (w3:PV),Z6 e [(1,(vi m)),(2,(.ptr (b1 + 0) 4 0)),(4,(.ptr (b1 + 1) 4 0)),(11,(.ptr (b13 + 2) 4 0)),(67,(vi x1.1)),(68,(vi s3.1))]∧Hs σ (.sl w3 44 1 (s3.2.map (cL Span.cs)) true :: .blk (b13 + 2) 25 [(vi (ZL f.Period (w64 (x1.2.tdiv f.Count))).1),(vi x1.1),w3,.nils] :: .blk (b1 + 1) 25 [(vi 0),(vi 0),.nils,.nils] :: .blk (b1 + 0) 25 (vF f) :: T)) (fun y2 x e σ => (∃ a1,∃ (w4:PV),y2 = (.go a1)∧x = .exit 2∧Z6 e [(4,(.ptr (b1 + 1) 4 0)),(11,(.ptr (b13 + 2) 4 0))]∧Hs σ (.sl w4 44 1 (a1.1.map (cL Span.cs)) true :: .blk (b13 + 2) 25 [(vi a1.2),(vi x1.1),w4,.nils] :: .blk (b1 + 1) 25 [(vi 0),(vi 0),.nils,.nils] :: T))∨(∃ a2,y2 = (.ret a2)∧x = .ret∧Z6 e [(4,(.ptr (b1 + 1) 4 0)),(5,(vi a2))]∧Hs σ (.blk (b1 + 1) 25 [(vi 0),(vi 0),.nils,.nils] :: T))) ⟨.nils,EI V,H⟩ ?_) ?_
 ·intro s3 e σ hI z h;obtain ⟨w3,he,H⟩:=hI;obtain ⟨e,rfl⟩:=he.ex;unfold Z0W.s1 at h;refine .tR 1 V H fun b19 σ H => (.iV V (.nila H fun H => (.then ?_)));refine .wh h V ?_ ?_ <;> intro h
  ·refine .skip (.then (.inBlock (.tR 2 V H fun b20 σ H => (.mV V (.aV V (.nila H fun H => (.tR 11 V H fun b21 σ H => (.Z3U (fs:=[]) (cs:=[(.ptr (b1 + 0) 4 0)]) V V V V ?_))))))));refine .mV V (.mV V (.iV V (.mV V ?_)));obtain ⟨x3,q5,h⟩:=bs h;refine .Z7Q (ys:=[(.clo 57 [] [(.ptr (b1 + 0) 4 0)]),(vi (w64 (s3.1 * m))),(vi m)]) (r:=(.tup [(vl Span.cs x3.1),(vi x3.2)])) H V (Z5S (C:=[.blk (b1 + 0) 25 (vF f)]) V (fun h => by simp [PV.pure] at h) (fun z0 y hz => (CloH.clo (ZA1 hz))) q5) (.cons 3 V .nil) nofun V fun σ H => (.m1 (.tup [(vl Span.cs x3.1),(vi x3.2)]) V V (.xV V (.xV V (.aV V (.aV V (.nila H fun H => (.then (.tR 2 V H fun b22 σ H => ?_))))))));refine .mV V (.iV V (.nila H fun H => ?_));refine .wh h V ?_ ?_ <;> intro h
   ·refine .tR 4 V H fun b23 σ H => (.bV [(vi 0),(vi 0),.nils,.nils] V (.mV V (.sV [(vi 0),(vi 0),.nils,.nils] H 2 V fun σ H => (.aV V (.nila H fun H => (.ret ?_))))));obtain rfl:=sj h;exact ⟨nofun,(.inr ⟨_,V,V,EI V,(((H.erase 3).erase 1).erase 0)⟩)⟩
   refine .skip (.Z4 7 V H fun b24 σ H => (.fV H 1 V (.lV H 1 V (.mV V (.Z0p (sz:=1) ([x3.1].map (cL Span.cs)) H (by omega) (by omega) V V V V V V V V V fun σ H => ?_)))));obtain ⟨x4,q6,h⟩:=bs h;refine .Z16 (c:=(cL Span.cs)) (v:=w3) (w:=(.buf (b24 + 3) 1 1)) (xs:=s3.2) (ys:=[x3.1]) H (by omega) (by omega) 1 V V V (.s 0 V) q6 V V V V V nofun V fun w5 σ H => (.fV H 2 V (.Z4N (v:=w5) (ys:=[w5]) (cells':=[(vi (ZL f.Period (w64 (x1.2.tdiv f.Count))).1),(vi x1.1),w5,.nils]) H 2 V V V V (H.slCells (k:=1) V) V V V V nofun fun σ H => (.nila H fun H => (.Z4 2 V H fun b25 σ H => (.iV V (.mV V (.nila H fun H => ?_)))))));obtain rfl:=sj h;exact ⟨V,w5,EI V,(H.erase 0)⟩
  refine .exit ?_;obtain rfl:=sj h;exact ⟨nofun,(.inl ⟨_,w3,V,V,EI V,(H.erase 3)⟩)⟩
 ·rintro x e σ (⟨a3,w6,rfl,rfl,he,H⟩ | ⟨a4,rfl,rfl,he,H⟩)
  ·replace h:=jgo h;obtain ⟨e,rfl⟩:=he.ex;refine .tR 3 V H fun b26 σ H => (.LV [(vi a3.2),(vi x1.1),w6,.nils] H 1 V (.sV [(vi a3.2),(vi x1.1),w6,.nils] H 2 V fun σ H => (.aV V (.nila H fun H => (.ret ?_)))));obtain rfl:=sj h;exact ⟨.inr V,_,Z0Y H (.agg (cs:=[(vi a3.2),(vi x1.1),w6,.nils]) 2 V V V V V V V (.tmp (v:=(vi 0)) V .nil)),_,⟨w6,V,V⟩,((H.erase 2).erase 1)⟩
  ·replace h:=jret h;obtain ⟨e,rfl⟩:=he.ex;replace H:=H.pushNil 44 1 true;obtain rfl:=sj h;exact ⟨.inr V,_,Z0Y H (.agg (cs:=[(vi 0),(vi 0),.nils,.nils]) 1 V V V V V V V (.tmp (v:=(vi a4)) V .nil)),_,⟨.nils,V,V⟩,(H.erase 1)⟩
theorem Z9Y {i:Int} {p1':Form} {id0':Nat} {r:(List Span) × Int} (h:Z33 i p1' = some r):FnH CX 38 [(vi i),(.ptr id0' 4 0)] (.tup [(vl Span.cs r.1),(vi r.2)]) [.blk id0' 25 (vF p1')]:=by
 refine FnH.of Tryz.func38 V V V V V V (fun h => by have:=Z3A h 1 V;cases this) ?_;intro σ L hC H;have hC0:=hC;obtain ⟨k0',hk0',hC⟩:=hC.inv;unfold Z33 at h;refine .tR 2 V H fun b1 σ H => (.a1 .nils V V (.aV V (.nila H fun H => (.tR 7 V H fun b2 σ H => (.Z1f (cs:=(vF p1')) H k0' hk0' V V V V V V nofun V (.mV V ?_))))));obtain ⟨x1,q1,h⟩:=bs h;refine .cV (Z4Z q1) V (.xV V (.xV V (.aV V (.aV V (.nila H fun H => (.ret ?_))))));obtain rfl:=sj h;exact (EndsH.H (xs:=[(vl Span.cs x1.1),(vi x1.2)]) (.inr V) H (.tmp (v:=(vl Span.cs x1.1)) V (.tmp (v:=(vi x1.2)) V .nil)) (.two (.cons (.c (.v _)) (.cons (.c (.v _)) .nil))) 0 V)
theorem ZBV {l:(List Span)} {r:Bool} (h:Z59 l = r):Fn CX 102 [(vl Span.cs l)] (vb r):=by
 refine Fn.go Tryz.func102 V fun σ H => ?_;unfold Z59 at h;refine .tR 1 V H fun b1 σ H => (.aV V (.nila H fun H => (.tR 4 V H fun b2 σ H => (.mV V (.nV V (.iV V (.aV V (.nila H fun H => ?_))))))));refine .ret ?_;subst h;exact Ends.eR V
theorem canon_bare_fn {f:Form} {r:Bool} (h:Z3i f = some r):Fn CX 87 [(.agg (vs (Form.cs f)))] (vb r):=by
 refine Fn.go Tryz.func87 V fun σ H => ?_;unfold Z3i at h;refine .tR 2 V H fun b1 σ H => (.boxH (cs:=(vF f)) H (by omega) (by omega) V V V fun σ H => (.aV V (.nila H fun H => (.tR 5 V H fun b2 σ H => (.fV H 0 V (.lV H 0 V ?_))))));obtain ⟨x1,q1,h⟩:=bs h;refine .Z7Q (ys:=[(vl (cL Span.cs) f.Core),(.v (.fn 102))]) (r:=(vb x1)) H V (Z1j (C:=[]) V (fun _ => V) (fun z0 y hz => (CloH.fn (Fn.toH (ZBV (Option.some.inj hz)) _))) q1) .nil nofun V fun σ H => (.tV V (.aV V (.nila H fun H => (.ret ?_))));obtain rfl:=sj h;exact Ends.eR V
theorem ZA6 {n:Int} {σ:Heap} {lo hi:Nat} {L:List Res} (H:Has σ lo hi L):∃ r σ',Z0M CX (.fn 88) [(vi n)] σ = some (r,σ')∧∃ i0':Nat,r = (.clo 103 [] [(.ptr i0' 1 0)])∧Hs σ' (.blk i0' 3 [(vi n)] :: L):=by
 refine callO_of (Post:=fun r σ' => ∃ i0':Nat,r = (.clo 103 [] [(.ptr i0' 1 0)])∧Hs σ' (.blk i0' 3 [(vi n)] :: L)) Tryz.func88 V V V V V V ?_;replace H:=H.all;refine .tR 2 V H fun b1 σ H => (.boxH (cs:=[(vi n)]) H (by omega) (by omega) V V V fun σ H => (.aV V (.nila H fun H => (.tR 2 V H fun b2 σ H => (.Z3U (fs:=[]) (cs:=[(.ptr (b1 + 0) 1 0)]) V V V V (.a1 (.clo 103 [] [(.ptr (b1 + 0) 1 0)]) V V (.nila H fun H => (.ret ?_))))))));exact ⟨.inr V,[(.clo 103 [] [(.ptr (b1 + 0) 1 0)])],Z0Y H (.tmp (v:=(.clo 103 [] [(.ptr (b1 + 0) 1 0)])) V .nil),(b1 + 0),V,H.all⟩
theorem Z8R {p1':Int} {S:Type} {C:S→List Res→Prop} {yield:S→Int→Option (S × Bool)} {yid:Nat} {id0':Nat} (hy:YldH CX yid C (fun z => [(vi z)]) yield) (hcap:∀ s L,C s L→Sub [.blk id0' 3 [(vi p1')]] L) {st' r:S} (h:Zs p1' yield st' = some r):ItF CX 103 [(.yld yid),(.ptr id0' 1 0)] C st' r:=by
 refine ItF.of Tryz.func103 V V V V V V V V ?_;intro σ L hC H;have hc0:=hcap _ _ hC;obtain ⟨k0',hk0',hc0⟩:=hc0.inv;unfold Zs at h;refine .tR 1 V H fun b1 σ H => (.aV V (.nila H fun H => (.inBlock ?_)));obtain ⟨y1,hj1,h⟩:=bs h;obtain ⟨n1,hj1⟩:=ZM.1 hj1;refine .mono (Runs.loopO hj1 (fun s1 e σ => ∃ (L:List Res),C s1.2 L∧Z6 e [(0,(.yld yid)),(1,(.ptr id0' 1 0)),(3,(vi s1.1))]∧Hs σ (L)) (fun y1 x e σ => (∃ a1,∃ (L:List Res),C a1 L∧y1 = (.go a1)∧x = .exit 0∧Z6 e []∧Hs σ (L))∨(∃ r',y1 = (.ret r')∧x = .ret∧EndsI C r' x e σ)) ⟨_,hC,EI V,H⟩ ?_) ?_
 ·intro s1 e σ hI z h;obtain ⟨L,hC,he,H⟩:=hI;obtain ⟨e,rfl⟩:=he.ex;have hc0:=hcap _ _ hC;obtain ⟨k0',hk0',hc0⟩:=hc0.inv;unfold Zs.s0 at h;refine .then (.tR 3 V H fun b2 σ H => (.mV V (.ld (vi p1') H k0' hk0' V V V V nofun V (.iV V (.nila H fun H => ?_)))));refine .wh h V ?_ ?_ <;> intro h
  ·refine .skip (.then (.inBlock (.tR 10 V H fun b3 σ H => (.ld (vi p1') H k0' hk0' V V V V nofun V (.mV V ?_)))));obtain ⟨u1,q1,h⟩:=bs h;refine .rem (m:=p1') (m':=s1.1) V V (Z6i q1) V (.iV V (.mV V ?_));obtain ⟨y2,hj2,h⟩:=bs h;refine .mid 5 (K1:=fun e σ => ∃ L,C y2.2 L∧Z6 e [(18,(vb y2.1)),(0,(.yld yid)),(1,(.ptr id0' 1 0)),(3,(vi s1.1))]∧Hs σ (L)) V ?_ ?_
   ·refine .sp hj2 V ?_ ?_ <;> intro h
    ·refine .m1 (.yld yid) V V (.mV V (.wt V V ?_));obtain ⟨x1,q2,h⟩:=bs h;refine .callY (z:=s1.1) (s':=x1.1) (b:=x1.2) [] H hC V V hy q2 V V fun σ L hC H => ?_;have hc0:=hcap _ _ hC;obtain ⟨k0',hk0',hc0⟩:=hc0.inv;refine .tV V (.kT V (.nil ?_));obtain rfl:=sj h;exact ⟨_,hC,EI V,H.all⟩
    refine .ps 4 V (.kF V (.nil ?_));obtain rfl:=sj h;exact ⟨_,hC,EI V,H.all⟩
   ·rintro e σ ⟨L,hC,he,H⟩;obtain ⟨e,rfl⟩:=he.ex;have hc0:=hcap _ _ hC;obtain ⟨k0',hk0',hc0⟩:=hc0.inv;refine .nila H fun H => ?_;refine .wh h V ?_ ?_ <;> intro h
    ·refine .ret ?_;obtain rfl:=sj h;exact ⟨nofun,(.inr ⟨_,V,V,(EndsI.H (.inr V) H 0 V hC)⟩)⟩
    refine .skip (.Z4 3 V H fun b4 σ H => (.mV V (.iV V (.aV V (.nila H fun H => ?_)))));obtain rfl:=sj h;exact ⟨V,_,hC,EI V,H⟩
  refine .exit ?_;obtain rfl:=sj h;exact ⟨nofun,(.inl ⟨_,_,hC,V,V,U,H⟩)⟩
 ·rintro x e σ (⟨a2,L,hC,rfl,rfl,he,H⟩ | ⟨r',rfl,rfl,hE⟩)
  ·replace h:=jgo h;obtain ⟨e,rfl⟩:=he.ex;have hc0:=hcap _ _ hC;obtain ⟨k0',hk0',hc0⟩:=hc0.inv;obtain rfl:=sj h;exact (EndsI.H (.inl V) H 0 V hC)
  ·replace h:=jret h;obtain rfl:=sj h;exact hE
theorem Z2d {s1':(List Span)} {s2':(List Span)} {eq:Span→Span→Option Bool} {C:List Res} {cv0:PV} (hs0:cv0.one = true) (hp0:cv0.pure = true→C = []) (hf0:∀ z0 z1 y,eq z0 z1 = some y→CloH CX cv0 [(.agg (vs (Span.cs z0))),(.agg (vs (Span.cs z1)))] (vb y) C) {r:Bool} (h:ZD s1' s2' eq = some r):FnH CX 109 [(vl Span.cs s1'),(vl Span.cs s2'),cv0] (vb r) C:=by
 refine FnH.of Tryz.func109 V V V V (Z49 V (Z49 V (Z49 (Z4G hs0) all_nil))) V (fun h => hp0 (Z3A h 2 V)) ?_;intro σ L hC H;unfold ZD at h;refine .tR 1 V H fun b1 σ H => (.aV V (.nila H fun H => (.then (.tR 5 V H fun b2 σ H => (.mV V (.nV V (.mV V (.nV V ?_))))))));refine .iV V (.nila H fun H => ?_);refine .wh h V ?_ ?_ <;> intro h
 ·refine .tR 1 V H fun b3 σ H => (.aV V (.nila H fun H => (.ret ?_)));obtain rfl:=sj h;exact (EndsH.H (xs:=[(vb false)]) (.inr V) H (.tmp (v:=(vb false)) V .nil) (.one (.c (.v _))) 0 V)
 refine .skip (.then (.tR 3 V H fun b4 σ H => (.mV V (.nV V (.mV V (.nila H fun H => (.inBlock ?_)))))));obtain ⟨y1,hj1,h⟩:=bs h;obtain ⟨n1,hj1⟩:=ZM.1 hj1;refine .mono (Runs.loopO hj1 (fun s1 e σ => Z6 e [(1,(vl Span.cs s2')),(2,cv0),(15,(vl Span.cs s1')),(16,(vi (s1'.length:Int))),(17,(vi s1))]∧Hs σ (L)) (fun y1 x e σ => (∃ a1,y1 = (.go a1)∧x = .exit 0∧Z6 e []∧Hs σ (L))∨(∃ r',y1 = (.ret r')∧x = .ret∧EndsH CX Tryz.f109.results.toList (vb r') L x e σ)) ⟨EI V,H⟩ ?_) ?_
 ·intro s1 e σ hI z h;obtain ⟨he,H⟩:=hI;obtain ⟨e,rfl⟩:=he.ex;unfold ZD.s0 at h;refine .tR 1 V H fun b5 σ H => (.iV V (.nila H fun H => (.then ?_)));refine .wh h V ?_ ?_ <;> intro h
  ·refine .skip (.then (.inBlock (.tR 6 V H fun b6 σ H => (.mV V ?_))));obtain ⟨x1,q1,h⟩:=bs h;refine .jV q1 V (.qV [(.int .i64 x1.From),(.int .i64 x1.To)] V (.Za (cs:=[(vi 0),(vi 0)]) H (by omega) (by omega) V V fun σ H => (.aV V (.sV [(vi x1.From),(vi x1.To)] H 0 V fun σ H => (.nila H fun H => (.tR 6 V H fun b7 σ H => (.mV V (.mV V ?_))))))));obtain ⟨x2,q2,h⟩:=bs h;refine .jV q2 V (.qV [(.int .i64 x2.From),(.int .i64 x2.To)] V (.Za (cs:=[(vi 0),(vi 0)]) H (by omega) (by omega) V V fun σ H => (.sV [(vi x2.From),(vi x2.To)] H 0 V fun σ H => (.nila H fun H => (.tR 5 V H fun b8 σ H => (.m1 cv0 V V (.LV [(vi x1.From),(vi x1.To)] H 1 V (.LV [(vi x2.From),(vi x2.To)] H 0 V ?_))))))));obtain ⟨x3,q3,h⟩:=bs h;refine .callV (cv:=cv0) (ys:=[(.agg (vs (Span.cs x1))),(.agg (vs (Span.cs x2)))]) (r:=(vb x3)) H V V (hf0 x1 x2 _ q3) hC.push.push nofun V fun σ H => (.tV V (.nila H fun H => ?_));refine .wh h V ?_ ?_ <;> intro h
   ·refine .tR 1 V H fun b9 σ H => (.aV V (.nila H fun H => (.ret ?_)));obtain rfl:=sj h;exact ⟨nofun,(.inr ⟨_,V,V,(EndsH.H (xs:=[(vb false)]) (.inr V) H (.tmp (v:=(vb false)) V .nil) (.one (.c (.v _))) 2 V)⟩)⟩
   refine .skip (.Z4 2 V H fun b10 σ H => (.iV V (.mV V (.nila H fun H => ?_))));obtain rfl:=sj h;exact ⟨V,EI V,((H.erase 1).erase 0)⟩
  refine .exit ?_;obtain rfl:=sj h;exact ⟨nofun,(.inl ⟨_,V,V,U,H⟩)⟩
 ·rintro x e σ (⟨a2,rfl,rfl,he,H⟩ | ⟨r',rfl,rfl,hE⟩)
  ·replace h:=jgo h;obtain ⟨e,rfl⟩:=he.ex;refine .tR 1 V H fun b11 σ H => (.aV V (.nila H fun H => (.ret ?_)));obtain rfl:=sj h;exact (EndsH.H (xs:=[(vb true)]) (.inr V) H (.tmp (v:=(vb true)) V .nil) (.one (.c (.v _))) 0 V)
  ·replace h:=jret h;obtain rfl:=sj h;exact hE
theorem Z9J {x':Span} {y:Span} {p2':Int} {id0':Nat} {r:Bool} (h:Z1d x' y p2' = r):FnH CX 110 [(.agg (vs (Span.cs x'))),(.agg (vs (Span.cs y))),(.ptr id0' 1 0)] (vb r) [.blk id0' 3 [(vi p2')]]:=by
 refine FnH.of Tryz.func110 V V V V V V (fun h => by have:=Z3A h 2 V;cases this) ?_;intro σ L hC H;have hC0:=hC;obtain ⟨k0',hk0',hC⟩:=hC.inv;unfold Z1d at h;refine .tR 3 V H fun b1 σ H => (.boxH (cs:=[(vi x'.From),(vi x'.To)]) H (by omega) (by omega) V V V fun σ H => (.boxH (cs:=[(vi y.From),(vi y.To)]) H (by omega) (by omega) V V V fun σ H => (.aV V (.nila H fun H => (.tR 17 V H fun b2 σ H => (.fV H 0 V (.lV H 0 V (.fV H 1 V ?_))))))));refine .lV H 1 V (.iV V (.ld (vi p2') H (k0' + 2) hk0' V V V V nofun V (.iV V (.mV V ?_))));refine .md H 8 [(21,(vb (((w64 (y.From - x'.From)) == p2') && ((w64 (y.To - x'.To)) == p2'))))] (L) V ?_ fun e σ H => ?_
 ·refine .split V V ?_ ?_ <;> intro hc1
  ·refine .fV H 0 V (.lV H 0 V (.fV H 1 V (.lV H 1 V (.iV V (.wt V V (.ld (vi p2') H (k0' + 2) hk0' V V V V nofun V (.iV V (.kT V ?_))))))));refine .nil ?_;exact ⟨⟨Z2V hc1,U⟩,((H.erase 1).erase 0).wk (by omega)⟩
  ·refine .ps 7 V (.kF V (.nil ?_));exact ⟨⟨Z2S hc1,U⟩,((H.erase 1).erase 0).wk (by omega)⟩
 refine .aV V (.nila H fun H => (.ret ?_));subst h;exact (EndsH.H (xs:=[(vb (((w64 (y.From - x'.From)) == p2') && ((w64 (y.To - x'.To)) == p2')))]) (.inr V) H (.tmp (v:=(vb (((w64 (y.From - x'.From)) == p2') && ((w64 (y.To - x'.To)) == p2')))) V .nil) (.one (.c (.v _))) 0 V)
theorem ZAp {a:(List Span)} {b:(List Span)} {by':Int} {r:Bool} (h:Z2E a b by' = some r):Fn CX 104 [(vl Span.cs a),(vl Span.cs b),(vi by')] (vb r):=by
 refine Fn.go Tryz.func104 V fun σ H => ?_;unfold Z2E at h;refine .tR 2 V H fun b1 σ H => (.boxH (cs:=[(vi by')]) H (by omega) (by omega) V V V fun σ H => (.aV V (.nila H fun H => (.tR 5 V H fun b2 σ H => (.mV V (.mV V (.Z3U (fs:=[]) (cs:=[(.ptr (b1 + 0) 1 0)]) V V V V ?_)))))));obtain ⟨x1,q1,h⟩:=bs h;refine .Z7Q (ys:=[(vl Span.cs a),(vl Span.cs b),(.clo 110 [] [(.ptr (b1 + 0) 1 0)])]) (r:=(vb x1)) H V (Z2d (C:=[.blk (b1 + 0) 3 [(vi by')]]) V (fun h => by simp [PV.pure] at h) (fun z0 z1 y hz => (CloH.clo (Z9J (Option.some.inj hz)))) q1) (.cons 0 V .nil) nofun V fun σ H => (.aV V (.nila H fun H => (.ret ?_)));obtain rfl:=sj h;exact Ends.eR V
theorem canon_turn_fn {f:Form} {d:Int} {by':Int} {r:Bool} (h:Z0u f d by' = some r):Fn CX 89 [(.agg (vs (Form.cs f))),(vi d),(vi by')] (vb r):=by
 refine Fn.go Tryz.func89 V fun σ H => ?_;unfold Z0u at h;refine .tR 2 V H fun b1 σ H => (.boxH (cs:=(vF f)) H (by omega) (by omega) V V V fun σ H => (.aV V (.nila H fun H => (.then (.tR 4 V H fun b2 σ H => (.fV H 0 V (.lV H 0 V (.nV V ?_))))))));refine .mV V (.nila H fun H => (.inBlock ?_));obtain ⟨y1,hj1,h⟩:=bs h;obtain ⟨n1,hj1⟩:=ZM.1 hj1;refine .mono (Runs.loopO hj1 (fun s1 e σ => Z6 e [(1,(vi d)),(2,(vi by')),(3,(.ptr (b1 + 0) 4 0)),(12,(vl (cL Span.cs) f.Core)),(13,(vi (f.Core.length:Int))),(14,(vi s1))]∧Hs σ [.blk (b1 + 0) 25 (vF f)]) (fun y1 x e σ => (∃ a1,y1 = (.go a1)∧x = .exit 0∧Z6 e []∧Hs σ [])∨(∃ r',y1 = (.ret r')∧x = .ret∧Ends CX Tryz.f89.results.toList (vb r') x e σ)) ⟨EI V,H⟩ ?_) ?_
 ·intro s1 e σ hI z h;obtain ⟨he,H⟩:=hI;obtain ⟨e,rfl⟩:=he.ex;unfold Z0u.s0 at h;refine .tR 1 V H fun b3 σ H => (.iV V (.nila H fun H => (.then ?_)));refine .wh h V ?_ ?_ <;> intro h
  ·refine .skip (.then ?_);obtain ⟨y2,hj2,h⟩:=bs h;refine .mono (Q:=fun x e σ => (∃ a2,y2 = (.go a2)∧x = .normal∧Z6 e [(1,(vi d)),(2,(vi by')),(3,(.ptr (b1 + 0) 4 0)),(12,(vl (cL Span.cs) f.Core)),(13,(vi (f.Core.length:Int))),(14,(vi s1))]∧Hs σ [.blk (b1 + 0) 25 (vF f)])∨(∃ r',y2 = (.ret r')∧x = .ret∧Ends CX Tryz.f89.results.toList (vb r') x e σ)) ?_ ?_
   ·replace h:=hj2;refine .inBlock ?_;obtain ⟨y3,hj3,h⟩:=bs h;refine .mono (Q:=fun x e σ => (∃ a3,y3 = (.go a3)∧x = .normal∧Z6 e [(1,(vi d)),(2,(vi by')),(3,(.ptr (b1 + 0) 4 0)),(12,(vl (cL Span.cs) f.Core)),(13,(vi (f.Core.length:Int))),(14,(vi s1))]∧Hs σ [.blk (b1 + 0) 25 (vF f)])∨(∃ r',y3 = (.ret r')∧x = .ret∧Ends CX Tryz.f89.results.toList (vb r') x e σ)) ?_ ?_
    ·replace h:=hj3;refine .tR 5 V H fun b4 σ H => (.mV V ?_);obtain ⟨x1,q1,h⟩:=bs h;refine .jV q1 V (.pV V (.aV V (.aV V (.nila H fun H => (.tR 4 V H fun b5 σ H => (.mV V (.mV V (.iV V ?_))))))));refine .aV V (.nila H fun H => (.tR 1 V H fun b6 σ H => (.aV V (.nila H fun H => (.then ?_)))));refine .jn h .normal (fun y4 => [(1,(vi d)),(2,(vi by')),(3,(.ptr (b1 + 0) 4 0)),(8,(vl Span.cs x1)),(9,(vi y4.1)),(10,(vi y4.2)),(12,(vl (cL Span.cs) f.Core)),(13,(vi (f.Core.length:Int))),(14,(vi s1))]) (fun y4 => [.blk (b1 + 0) 25 (vF f)]) (fun y4 h => ?_) fun y4 e σ H h => ?_
     ·refine .tR 4 V H fun b7 σ H => (.mV V (.fV H 0 V (.lV H 0 V (.iV V (.nila H fun H => ?_)))));refine .wh h V ?_ ?_ <;> intro h
      ·refine .Zr 8 V (by kernel_rfl) H fun b8 σ H B8 => (.mV V (.ZA H 0 V V V V V (fun _ => .inl ⟨B8 0 _ V _ V,nofun,(fun _ => by kernel_rfl)⟩) V (.ld (vi f.Count) H 0 V V V V V (fun _ => .inl ⟨B8 0 _ V _ V,nofun,(fun _ => by kernel_rfl)⟩) V (.iV V (.ZA H 0 V V V V V (fun _ => .inl ⟨B8 0 _ V _ V,nofun,(fun _ => by kernel_rfl)⟩) V (.ld (vi f.Period) H 0 V V V V V (fun _ => .inl ⟨B8 0 _ V _ V,nofun,(fun _ => by kernel_rfl)⟩) V (.aV V (.aV V ?_))))))));refine .nila H fun H => ?_;obtain rfl:=sj h;exact ⟨V,EI V,H⟩
      refine .skip ?_;obtain rfl:=sj h;exact ⟨V,EI V,H⟩
     refine .tR 11 V H fun b9 σ H => (.mV V (.fV H 0 V (.lV H 0 V (.mV V ?_))));obtain ⟨x2,q2,h⟩:=bs h;refine .jV q2 V (.pV V (.mV V (.mV V (.iV V ?_))));obtain ⟨x3,q3,h⟩:=bs h;refine .cV (ZAp q3) V (.tV V (.nila H fun H => ?_));refine .wh h V ?_ ?_ <;> intro h
     ·refine .tR 1 V H fun b10 σ H => (.aV V (.nila H fun H => (.ret ?_)));obtain rfl:=sj h;exact (.inr ⟨_,V,V,(Ends.H (xs:=[(vb false)]) (.inr V) H (.tmp (v:=(vb false)) V .nil) (.one (.c (.v _))))⟩)
     refine .skip ?_;obtain rfl:=sj h;exact (.inl ⟨_,V,V,EI V,H⟩)
    ·rintro x e σ (⟨a4,rfl,rfl,he,H⟩ | ⟨r',rfl,rfl,hE⟩)
     ·replace h:=jgo h;obtain ⟨e,rfl⟩:=he.ex;obtain rfl:=sj h;exact (.inl ⟨_,V,V,EI V,H⟩)
     ·replace h:=jret h;obtain rfl:=sj h;exact (.inr ⟨_,V,V,hE⟩)
   ·rintro x e σ (⟨a5,rfl,rfl,he,H⟩ | ⟨r',rfl,rfl,hE⟩)
    ·replace h:=jgo h;obtain ⟨e,rfl⟩:=he.ex;refine .Z4 2 V H fun b11 σ H => (.iV V (.mV V (.nila H fun H => ?_)));obtain rfl:=sj h;exact ⟨V,EI V,H⟩
    ·replace h:=jret h;obtain rfl:=sj h;exact ⟨nofun,(.inr ⟨_,V,V,hE⟩)⟩
  refine .exit ?_;obtain rfl:=sj h;exact ⟨nofun,(.inl ⟨_,V,V,U,(H.erase 0)⟩)⟩
 ·rintro x e σ (⟨a6,rfl,rfl,he,H⟩ | ⟨r',rfl,rfl,hE⟩)
  ·replace h:=jgo h;obtain ⟨e,rfl⟩:=he.ex;refine .tR 1 V H fun b12 σ H => (.aV V (.nila H fun H => (.ret ?_)));obtain rfl:=sj h;exact Ends.eR V
  ·replace h:=jret h;obtain rfl:=sj h;exact hE
theorem Z2s {l:List Span} {r:List Span} (h:clone? 16 l = some r):Fn CX 66 [(vl Span.cs l)] (vl Span.cs r):=by
 obtain ⟨h1,rfl⟩:=clone_some h;refine Fn.intr ?_ V V V;rw [cx_intr66];unfold cloneV
 dsimp only
 rw [if_pos ⟨by simp [Span.cs],by simpa using h1⟩]
end Go.Dn

namespace Go.Dn
open Go Go.Proofs
set_option maxRecDepth 100000
set_option maxHeartbeats 4000000
theorem canon_core_fn {f:Form} {r:Form} (h:Zp f = some r):Fn CX 64 [(.agg (vs (Form.cs f)))] (.agg (vs (Form.cs r))):=by
 refine Fn.go Tryz.func64 V fun σ H => ?_;unfold Zp at h;refine .tR 2 V H fun b1 σ H => (.boxH (cs:=(vF f)) H (by omega) (by omega) V V V fun σ H => (.Za (cs:=[(vi 0),(vi 0),.nils,.nils]) H (by omega) (by omega) V V fun σ H => (.nila H fun H => (.scope (.tR 3 V H fun b2 σ H => (.bV [(vi 0),(vi 0),.nils,.nils] V (.Za (cs:=[(vi 0),(vi 0),.nils,.nils]) H (by omega) (by omega) V V fun σ H => (.sV [(vi 0),(vi 0),.nils,.nils] H 0 V fun σ H => ?_))))))));refine .nila H fun H => (.then (.tR 2 V H fun b3 σ H => (.LV (vF f) H 2 V ?_)));obtain ⟨x1,q1,h⟩:=bs h;refine .cV (canon_bare_fn q1) V (.nila H fun H => ?_);refine .wh h V ?_ ?_ <;> intro h
 ·refine .tR 2 V H fun b4 σ H => (.LV [(vi 0),(vi 0),.nils,.nils] H 0 V (.sV [(vi 0),(vi 0),.nils,.nils] H 1 V fun σ H => (.nila H fun H => (.ret ?_))));obtain rfl:=sj h;exact (Ends.H (xs:=[(.agg [(vi 0),(vi 0),.nils,.nils])]) (.inr V) H (.agg (cs:=[(vi 0),(vi 0),.nils,.nils]) 1 V V V V V V V .nil) (.one (.a (.cons (.v _) (.cons (.v _) (.cons .n (.cons .n .nil)))))))
 refine .skip (.then (.label (.then ?_)));obtain ⟨y1,hj1,h⟩:=bs h;refine .mono (Q:=fun x e σ => ∃ (w1:PV),x = .normal∧Z6 e [(2,(.ptr (b1 + 1) 4 0)),(3,(.ptr (b2 + 1) 4 0))]∧Hs σ [.sl w1 44 1 (y1.1.map (cL Span.cs)) true,.blk (b2 + 1) 25 [(vi y1.2.1),(vi y1.2.2),w1,.nils],.blk (b1 + 1) 25 [(vi 0),(vi 0),.nils,.nils]]) ?_ ?_
 ·replace h:=hj1;refine .tR 3 V H fun b5 σ H => (.fV H 2 V (.lV H 2 V ?_));refine .callO (ys:=[(vi f.Count)]) rfl (ZA6 H) nofun rfl ?_;rintro _ σ ⟨id1,rfl,H⟩;refine .nila H fun H => (.inBlock ?_);replace H:=H.pushNil 44 1 true;obtain ⟨y2,hj2,h⟩:=bs h;refine .rangeH H rfl (fun s2 M => ∃ (w4:PV),M = [.sl w4 44 1 (s2.1.map (cL Span.cs)) true,.blk id1 3 [(vi f.Count)],.blk (b2 + 1) 25 [(vi s2.2.1),(vi s2.2.2),w4,.nils],.blk (b1 + 1) 25 [(vi 0),(vi 0),.nils,.nils],.blk (b1 + 0) 25 (vF f)]) (fun z2 => [(vi z2)]) (Zp.b0 f) (fun p => if p = 0 then none else some (.exit 0)) rfl (fun p => by (repeat' split) <;> exact ⟨_,rfl⟩) (r:=y2) ⟨.nils,rfl⟩ (fun _ => rfl) (fun _ => rfl) ?_ (fun id hy => Z8R hy (fun s L hL => by obtain ⟨M,hM,rfl⟩:=hL;obtain ⟨_,rfl⟩:=hM;exact (.cons 2 rfl .nil)) hj2) ?_
  ·intro R0 R1 s2 z2 s' p h σ M O hM H;obtain ⟨w4,rfl⟩:=hM;unfold Zp.b0 at h;refine .env [(17,(vi z2)),(1,(.ptr (b1 + 0) 4 0)),(2,(.ptr (b1 + 1) 4 0)),(3,(.ptr (b2 + 1) 4 0)),(16,(.clo 103 [] [(.ptr id1 1 0)]))] (EI V) fun e => (.Z4 1 V H fun b6 σ H => (.aV V (.nila H fun H => ?_)));refine ⟨V,[.sl w4 44 1 (s2.1.map (cL Span.cs)) true,.blk id1 3 [(vi f.Count)],.blk (b2 + 1) 25 [(vi s2.2.1),(vi s2.2.2),w4,.nils],.blk (b1 + 1) 25 [(vi 0),(vi 0),.nils,.nils],.blk (b1 + 0) 25 (vF f)],H,?_⟩;intro σ H;refine .inBlock (.then (.Zr 14 V (by kernel_rfl) H fun b7 σ H B7 => (.ZA H 5 V V V V V (fun _ => .inl ⟨B7 5 _ V _ V,nofun,(fun _ => by kernel_rfl)⟩) V (.ld (vi f.Period) H 5 V V V V V (fun _ => .inl ⟨B7 5 _ V _ V,nofun,(fun _ => by kernel_rfl)⟩) V (.ZA H 5 V V V V V (fun _ => .inl ⟨B7 5 _ V _ V,nofun,(fun _ => by kernel_rfl)⟩) V (.ld (vi f.Count) H 5 V V V V V (fun _ => .inl ⟨B7 5 _ V _ V,nofun,(fun _ => by kernel_rfl)⟩) V (.mV V ?_)))))));obtain ⟨u1,q2,h⟩:=bs h;refine .quo (m:=f.Count) (m':=z2) V V (Z6i q2) V ?_;obtain ⟨x2,q3,h⟩:=bs h;refine .cV (Z1m q3) V (.m1 (.tup [(vi x2.1),(vi x2.2.1),(vi x2.2.2)]) V V (.xV V (.xV V (.xV V (.aV V (.aV V (.aV V (.nila H fun H => ?_))))))));refine .then (.tR 9 V H fun b8 σ H => (.mV V (.iV V (.mV V ?_))));obtain ⟨y3,hj3,h⟩:=bs h;refine .md H 6 [(37,(vb y3)),(1,(.ptr (b1 + 0) 4 0)),(2,(.ptr (b1 + 1) 4 0)),(3,(.ptr (b2 + 1) 4 0)),(4,(vi z2)),(5,(vi x2.1))] (R1 :: .sl w4 44 1 (s2.1.map (cL Span.cs)) true :: .blk id1 3 [(vi f.Count)] :: .blk (b2 + 1) 25 [(vi s2.2.1),(vi s2.2.2),w4,.nils] :: .blk (b1 + 1) 25 [(vi 0),(vi 0),.nils,.nils] :: .blk (b1 + 0) 25 (vF f) :: O) V ?_ fun e σ H => ?_
   ·refine .sp hj3 V ?_ ?_ <;> intro h
    ·refine .ps 5 V (.kT V (.nil ?_));obtain rfl:=sj h;exact ⟨EI V,H.wk (by omega)⟩
    refine .LV (vF f) H 5 V (.mV V (.mV V (.wt V V ?_)));obtain ⟨x3,q4,h⟩:=bs h;refine .cV (canon_turn_fn q4) V (.tV V (.kF V (.nil ?_)));obtain rfl:=sj h;exact ⟨EI V,H.wk (by omega)⟩
   refine .nila H fun H => ?_;refine .wh h V ?_ ?_ <;> intro h
   ·refine .exit ?_;obtain ⟨rfl,rfl⟩:=Prod.mk.inj (Option.some.inj h);exact ⟨⟨V,(iff_of_true V V)⟩,_,⟨w4,V⟩,H⟩
   refine .skip (.tR 6 V H fun b9 σ H => (.mV V (.mV V (.fV H 3 V (.sV [(vi x2.1),(vi s2.2.2),w4,.nils] H 3 V fun σ H => (.fV H 3 V (.sV [(vi x2.1),(vi z2),w4,.nils] H 3 V fun σ H => (.nila H fun H => ?_))))))));refine .then (.tR 6 V H fun b10 σ H => (.fV H 5 V (.lV H 5 V (.mV V ?_))));obtain ⟨x4,q5,h⟩:=bs h;refine .sliceP01 (c:=(cL Span.cs)) q5 V V V V (fun _ => V) V (.nV V (.mV V (.nila H fun H => (.inBlock ?_))));obtain ⟨y4,hj4,h⟩:=bs h;obtain ⟨n1,hj4⟩:=ZM.1 hj4;refine .mono (Runs.loopO hj4 (fun s3 e σ => ∃ (w7:PV),Z6 e [(2,(.ptr (b1 + 1) 4 0)),(3,(.ptr (b2 + 1) 4 0)),(45,(vl (cL Span.cs) x4)),(46,(vi (x4.length:Int))),(47,(vi s3.1))]∧Hs σ (R1 :: .sl w7 44 1 (s3.2.map (cL Span.cs)) true :: .blk id1 3 [(vi f.Count)] :: .blk (b2 + 1) 25 [(vi x2.1),(vi z2),w7,.nils] :: .blk (b1 + 1) 25 [(vi 0),(vi 0),.nils,.nils] :: .blk (b1 + 0) 25 (vF f) :: O)) (fun y4 x e σ => ∃ (w8:PV),x = .exit 2∧Z6 e [(2,(.ptr (b1 + 1) 4 0)),(3,(.ptr (b2 + 1) 4 0))]∧Hs σ (R1 :: .sl w8 44 1 (y4.map (cL Span.cs)) true :: .blk id1 3 [(vi f.Count)] :: .blk (b2 + 1) 25 [(vi x2.1),(vi z2),w8,.nils] :: .blk (b1 + 1) 25 [(vi 0),(vi 0),.nils,.nils] :: .blk (b1 + 0) 25 (vF f) :: O)) ⟨w4,EI V,H⟩ ?_) ?_
   ·intro s3 e σ hI z h;obtain ⟨w7,he,H⟩:=hI;obtain ⟨e,rfl⟩:=he.ex;unfold Zp.s1 at h;refine .tR 1 V H fun b11 σ H => (.iV V (.nila H fun H => (.then ?_)));refine .wh h V ?_ ?_ <;> intro h
    ·refine .skip (.then (.inBlock (.tR 3 V H fun b12 σ H => ?_)));obtain ⟨x5,q6,h⟩:=bs h;refine .jV q6 V (.pV V (.aV V (.nila H fun H => (.Zr 8 V (by kernel_rfl) H fun b13 σ H B13 => (.ZA H 3 V V V V V (fun _ => .inl ⟨B13 3 _ V _ V,nofun,(fun _ => by kernel_rfl)⟩) V (.ld w7 H 3 V V V V V (fun _ => .inl ⟨B13 3 _ V _ V,nofun,(fun _ => by kernel_rfl)⟩) V (.mV V ?_)))))));obtain ⟨x6,q7,h⟩:=bs h;refine .cV (Z2s q7) V (.Z0p (sz:=1) ([x6].map (cL Span.cs)) H (by omega) (by omega) V V V V V V V V V fun σ H => ?_);obtain ⟨x7,q8,h⟩:=bs h;refine .Z16 (c:=(cL Span.cs)) (v:=w7) (w:=(.buf (b13 + 4) 1 1)) (xs:=s3.2) (ys:=[x6]) H (by omega) (by omega) 2 V V V (.s 0 V) q8 V V V V V (fun h => ⟨(fun id ho => .inl ⟨B13 1 _ V id ho,(fun _ => by kernel_rfl),nofun⟩),(fun id ho => .inr ⟨4,(by cases ho;rfl),(fun h => nomatch h),by kernel_rfl,by decide⟩)⟩) V fun w9 σ H => (.ZA H 4 V V V V V (fun _ => .inl ⟨B13 3 _ V _ V,nofun,(fun _ => by kernel_rfl)⟩) V (.Z4N (v:=w9) (ys:=[w9]) (cells':=[(vi x2.1),(vi z2),w9,.nils]) H 4 V V V V (H.slCells (k:=2) V) V V V V (fun _ => .inl ⟨B13 3 _ V _ V,(Z46 (by kernel_rfl))⟩) fun σ H => (.nila H fun H => (.Z4 2 V H fun b14 σ H => (.iV V (.mV V (.nila H fun H => ?_)))))));obtain rfl:=sj h;exact ⟨V,w9,EI V,(H.erase 0)⟩
    refine .exit ?_;obtain rfl:=sj h;exact ⟨nofun,⟨w7,V,EI V,H⟩⟩
   ·rintro x e σ ⟨w10,rfl,he,H⟩;obtain ⟨e,rfl⟩:=he.ex;refine .exit ?_;obtain ⟨rfl,rfl⟩:=Prod.mk.inj (Option.some.inj h);exact ⟨⟨V,(iff_of_false nofun nofun)⟩,_,⟨w10,V⟩,H⟩
  ·intro x σ M hx hM H;obtain ⟨w11,rfl⟩:=hM;cases hc0_:(y2.2 == 0)
   ·replace h:=cond_F hc0_ h;have hx:x = .exit 0:=by simpa [ne_of_beq_false hc0_,Z6l] using hx.symm
    subst hx;obtain rfl:=sj h;exact ⟨w11,V,EI V,((H.erase 4).erase 1)⟩
   ·replace h:=cond_T hc0_ h;have hx:x = .normal:=by rw [eq_of_beq hc0_] at hx;exact (Option.some.inj hx).symm
    subst hx;obtain rfl:=sj h;exact ⟨w11,V,EI V,((H.erase 4).erase 1)⟩
 ·rintro x e σ ⟨w12,rfl,he,H⟩;obtain ⟨e,rfl⟩:=he.ex;refine .tR 2 V H fun b15 σ H => (.LV [(vi y1.2.1),(vi y1.2.2),w12,.nils] H 1 V (.sV [(vi y1.2.1),(vi y1.2.2),w12,.nils] H 2 V fun σ H => (.nila H fun H => (.ret ?_))));obtain rfl:=sj h;exact (Ends.H (xs:=[(.agg [(vi y1.2.1),(vi y1.2.2),w12,.nils])]) (.inr V) H (.agg (cs:=[(vi y1.2.1),(vi y1.2.2),w12,.nils]) 2 V V V V V V V .nil) (.one (.a (.cons (.v _) (.cons (.v _) (.cons (.s 0 V) (.cons .n .nil)))))))
theorem Z5W {s1':(List Span)} {s2':(List Span)} {r:Bool} (h:ZV s1' s2' = some r):Fn CX 105 [(vl Span.cs s1'),(vl Span.cs s2')] (vb r):=by
 refine Fn.go Tryz.func105 V fun σ H => ?_;unfold ZV at h;refine .tR 1 V H fun b1 σ H => (.aV V (.nila H fun H => (.then (.tR 5 V H fun b2 σ H => (.mV V (.nV V (.mV V (.nV V ?_))))))));refine .iV V (.nila H fun H => ?_);refine .wh h V ?_ ?_ <;> intro h
 ·refine .tR 1 V H fun b3 σ H => (.aV V (.nila H fun H => (.ret ?_)));obtain rfl:=sj h;exact Ends.eR V
 refine .skip (.then (.tR 3 V H fun b4 σ H => (.mV V (.nV V (.mV V (.nila H fun H => (.inBlock ?_)))))));obtain ⟨y1,hj1,h⟩:=bs h;obtain ⟨n1,hj1⟩:=ZM.1 hj1;refine .mono (Runs.loopO hj1 (fun s1 e σ => Z6 e [(0,(vl Span.cs s1')),(1,(vl Span.cs s2')),(12,(vi (s1'.length:Int))),(13,(vi s1))]∧Hs σ []) (fun y1 x e σ => (∃ a1,y1 = (.go a1)∧x = .exit 0∧Z6 e []∧Hs σ [])∨(∃ r',y1 = (.ret r')∧x = .ret∧Ends CX Tryz.f105.results.toList (vb r') x e σ)) ⟨EI V,H⟩ ?_) ?_
 ·intro s1 e σ hI z h;obtain ⟨he,H⟩:=hI;obtain ⟨e,rfl⟩:=he.ex;unfold ZV.s0 at h;refine .tR 1 V H fun b5 σ H => (.iV V (.nila H fun H => (.then ?_)));refine .wh h V ?_ ?_ <;> intro h
  ·refine .skip (.then (.inBlock (.tR 2 V H fun b6 σ H => (.mV V (.aV V (.nila H fun H => (.then (.Zr 9 V (by kernel_rfl) H fun b7 σ H B7 => ?_))))))));refine .mV V (.mV V ?_);obtain ⟨x1,q1,h⟩:=bs h;refine .jV q1 V (.qV [(.int .i64 x1.From),(.int .i64 x1.To)] V (.mV V (.mV V ?_)));obtain ⟨x2,q2,h⟩:=bs h;refine .jV q2 V (.qV [(.int .i64 x2.From),(.int .i64 x2.To)] V (.binA (u:=(.agg [(vi x1.From),(vi x1.To)])) (w:=(.agg [(vi x2.From),(vi x2.To)])) (r:=.bool (!((x1.From == x2.From) && ((x1.To == x2.To) && true)))) V V (by kernel_rfl) (fun _ => ask_eqA V V V V) V (.nila H fun H => ?_)));refine .wh h V ?_ ?_ <;> intro h
   ·refine .tR 1 V H fun b8 σ H => (.aV V (.nila H fun H => (.ret ?_)));obtain rfl:=sj h;exact ⟨nofun,(.inr ⟨_,V,V,(Ends.H (xs:=[(vb false)]) (.inr V) H (.tmp (v:=(vb false)) V .nil) (.one (.c (.v _))))⟩)⟩
   refine .skip (.Z4 2 V H fun b9 σ H => (.iV V (.mV V (.nila H fun H => ?_))));obtain rfl:=sj h;exact ⟨V,EI V,H⟩
  refine .exit ?_;obtain rfl:=sj h;exact ⟨nofun,(.inl ⟨_,V,V,U,H⟩)⟩
 ·rintro x e σ (⟨a2,rfl,rfl,he,H⟩ | ⟨r',rfl,rfl,hE⟩)
  ·replace h:=jgo h;obtain ⟨e,rfl⟩:=he.ex;refine .tR 1 V H fun b10 σ H => (.aV V (.nila H fun H => (.ret ?_)));obtain rfl:=sj h;exact Ends.eR V
  ·replace h:=jret h;obtain rfl:=sj h;exact hE
theorem spans_Same_fn {a:(List Span)} {b:(List Span)} {r:Bool} (h:Z1J a b = some r):Fn CX 90 [(vl Span.cs a),(vl Span.cs b)] (vb r):=by
 refine Fn.go Tryz.func90 V fun σ H => ?_;unfold Z1J at h;refine .tR 1 V H fun b1 σ H => (.aV V (.nila H fun H => (.tR 4 V H fun b2 σ H => (.mV V (.mV V ?_)))));obtain ⟨x1,q1,h⟩:=bs h;refine .cV (Z5W q1) V (.aV V (.nila H fun H => (.ret ?_)));obtain rfl:=sj h;exact Ends.eR V
theorem ZCX {f:Form} {g:Granule} {r:Bool} (h:Z2z f g = some r):Fn CX 65 [(.agg (vs (Form.cs f))),(.agg (vs (Granule.cs g)))] (vb r):=by
 refine Fn.go Tryz.func65 V fun σ H => ?_;unfold Z2z at h;refine .tR 3 V H fun b1 σ H => (.boxH (cs:=(vF f)) H (by omega) (by omega) V V V fun σ H => (.boxH (cs:=[(vi g.Index),(vl Span.cs g.Ticks)]) H (by omega) (by omega) V V V fun σ H => (.aV V (.nila H fun H => (.tR 9 V H fun b2 σ H => (.LV (vF f) H 1 V (.fV H 0 V (.lV H 0 V ?_))))))));obtain ⟨x1,q1,h⟩:=bs h;refine .cV (Z4Z q1) V (.m1 (.tup [(vl Span.cs x1.1),(vi x1.2)]) V V (.xV V (.xV V (.aV V (.aV V (.nila H fun H => (.tR 9 V H fun b3 σ H => (.mV V ?_))))))));refine .iV V (.mV V ?_);obtain ⟨y1,hj1,h⟩:=bs h;refine .md H 5 [(21,(vb y1))] [] V ?_ fun e σ H => ?_
 ·refine .sp hj1 V ?_ ?_ <;> intro h
  ·refine .mV V (.fV H 0 V (.lV H 0 V (.wt V V ?_)));obtain ⟨x2,q2,h⟩:=bs h;refine .cV (spans_Same_fn q2) V (.kT V (.nil ?_));obtain rfl:=sj h;exact ⟨EI V,((H.erase 1).erase 0).wk (by omega)⟩
  refine .ps 4 V (.kF V (.nil ?_));obtain rfl:=sj h;exact ⟨EI V,((H.erase 1).erase 0).wk (by omega)⟩
 refine .aV V (.nila H fun H => (.ret ?_));obtain rfl:=sj h;exact Ends.eR V
theorem Z8h {f:Form} {r:Form} (h:Zi f = some r):Fn CX 46 [(.agg (vs (Form.cs f)))] (.agg (vs (Form.cs r))):=by
 refine Fn.go Tryz.func46 V fun σ H => ?_;unfold Zi at h;refine .tR 2 V H fun b1 σ H => (.boxH (cs:=(vF f)) H (by omega) (by omega) V V V fun σ H => (.Za (cs:=[(vi 0),(vi 0),.nils,.nils]) H (by omega) (by omega) V V fun σ H => (.nila H fun H => (.tR 4 V H fun b2 σ H => (.LV (vF f) H 1 V ?_)))));obtain ⟨x1,q1,h⟩:=bs h;refine .cV (canon_core_fn q1) V (.Za (cs:=[(vi 0),(vi 0),.nils,.nils]) H (by omega) (by omega) V V fun σ H => (.sV (vF x1) H 0 V fun σ H => (.nila H fun H => (.tR 1 V H fun b3 σ H => (.a1 .nils V V (.nila H fun H => (.then (.tR 4 V H fun b4 σ H => ?_))))))));refine .fV H 2 V (.lV H 2 V (.nV V (.mV V (.nila H fun H => (.inBlock ?_)))));replace H:=H.pushNil 50 2 true;obtain ⟨y1,hj1,h⟩:=bs h;obtain ⟨n1,hj1⟩:=ZM.1 hj1;refine .mono (Runs.loopO hj1 (fun s2 e σ => ∃ (w3:PV),Z6 e [(2,(.ptr (b1 + 1) 4 0)),(3,(.ptr (b2 + 2) 4 0)),(4,w3),(10,(vl Granule.cs f.Odd)),(11,(vi (f.Odd.length:Int))),(12,(vi s2.1))]∧Hs σ [.sl w3 50 2 (s2.2.map Granule.cs) true,.blk (b2 + 2) 25 (vF x1),.blk (b1 + 1) 25 [(vi 0),(vi 0),.nils,.nils]]) (fun y1 x e σ => ∃ (w4:PV),x = .exit 0∧Z6 e [(2,(.ptr (b1 + 1) 4 0)),(3,(.ptr (b2 + 2) 4 0)),(4,w4)]∧Hs σ [.sl w4 50 2 (y1.map Granule.cs) true,.blk (b2 + 2) 25 (vF x1),.blk (b1 + 1) 25 [(vi 0),(vi 0),.nils,.nils]]) ⟨.nils,EI V,(H.erase 3)⟩ ?_) ?_
 ·intro s2 e σ hI z h;obtain ⟨w3,he,H⟩:=hI;obtain ⟨e,rfl⟩:=he.ex;unfold Zi.s0 at h;refine .tR 1 V H fun b5 σ H => (.iV V (.nila H fun H => (.then ?_)));refine .wh h V ?_ ?_ <;> intro h
  ·refine .skip (.then ?_);obtain ⟨y2,hj2,h⟩:=bs h;refine .mono (Q:=fun x e σ => ∃ (w5:PV),x = .normal∧Z6 e [(2,(.ptr (b1 + 1) 4 0)),(3,(.ptr (b2 + 2) 4 0)),(4,w5),(10,(vl Granule.cs f.Odd)),(11,(vi (f.Odd.length:Int))),(12,(vi s2.1))]∧Hs σ [.sl w5 50 2 (y2.map Granule.cs) true,.blk (b2 + 2) 25 (vF x1),.blk (b1 + 1) 25 [(vi 0),(vi 0),.nils,.nils]]) ?_ ?_
   ·replace h:=hj2;refine .inBlock ?_;obtain ⟨y3,hj3,h⟩:=bs h;refine .mono (Q:=fun x e σ => ∃ (w6:PV),x = .normal∧Z6 e [(2,(.ptr (b1 + 1) 4 0)),(3,(.ptr (b2 + 2) 4 0)),(4,w6),(10,(vl Granule.cs f.Odd)),(11,(vi (f.Odd.length:Int))),(12,(vi s2.1))]∧Hs σ [.sl w6 50 2 (y3.map Granule.cs) true,.blk (b2 + 2) 25 (vF x1),.blk (b1 + 1) 25 [(vi 0),(vi 0),.nils,.nils]]) ?_ ?_
    ·replace h:=hj3;refine .tR 4 V H fun b6 σ H => ?_;obtain ⟨x2,q2,h⟩:=bs h;refine .jV q2 V (.qV [(.int .i64 x2.Index),(.sl (x2.Ticks.map Span.cs))] V (.Za (cs:=[(vi 0),.nils]) H (by omega) (by omega) V V fun σ H => (.sV [(vi x2.Index),(vl Span.cs x2.Ticks)] H 0 V fun σ H => (.nila H fun H => (.tR 4 V H fun b7 σ H => (.LV (vF x1) H 2 V (.LV [(vi x2.Index),(vl Span.cs x2.Ticks)] H 0 V ?_)))))));obtain ⟨x3,q3,h⟩:=bs h;refine .cV (ZCX q3) V (.tV V (.nila H fun H => ?_));refine .wh h V ?_ ?_ <;> intro h
     ·refine .Zr 10 V (by kernel_rfl) H fun b8 σ H B8 => (.m1 w3 V V (.ZA H 0 V V V V V (fun _ => .inl ⟨B8 0 _ V _ V,nofun,(fun _ => by kernel_rfl)⟩) V (.ld (vi x2.Index) H 0 V V V V V (fun _ => .inl ⟨B8 0 _ V _ V,nofun,(fun _ => by kernel_rfl)⟩) V (.ZA H 0 V V V V V (fun _ => .inl ⟨B8 0 _ V _ V,nofun,(fun _ => by kernel_rfl)⟩) V (.ld (vl Span.cs x2.Ticks) H 0 V V V V V (fun _ => .inl ⟨B8 0 _ V _ V,nofun,(fun _ => by kernel_rfl)⟩) V ?_)))));obtain ⟨x4,q4,h⟩:=bs h;refine .cV (Z2s q4) V (.bV [(vi x2.Index),(vl Span.cs x4)] V (.Z0p (sz:=2) ([(Granule.mk x2.Index x4)].map Granule.cs) H (by omega) (by omega) V V V V V V V V V fun σ H => ?_));obtain ⟨x5,q5,h⟩:=bs h;refine .Z16 (c:=Granule.cs) (v:=w3) (w:=(.buf (b8 + 7) 1 2)) (xs:=s2.2) (ys:=[(Granule.mk x2.Index x4)]) H (by omega) (by omega) 2 V V V (.s 0 V) q5 V V V V V (fun h => ⟨(fun id ho => .inl ⟨B8 1 _ V id ho,(fun _ => by kernel_rfl),nofun⟩),(fun id ho => .inr ⟨7,(by cases ho;rfl),(fun h => nomatch h),by kernel_rfl,by decide⟩)⟩) V fun w7 σ H => (.a1 w7 V V (.nila H fun H => ?_));obtain rfl:=sj h;exact ⟨w7,V,EI V,((H.erase 1).erase 0)⟩
     refine .skip ?_;obtain rfl:=sj h;exact ⟨w3,V,EI V,(H.erase 0)⟩
    ·rintro x e σ ⟨w8,rfl,he,H⟩;obtain ⟨e,rfl⟩:=he.ex;obtain rfl:=sj h;exact ⟨w8,V,EI V,H⟩
   ·rintro x e σ ⟨w9,rfl,he,H⟩;obtain ⟨e,rfl⟩:=he.ex;refine .Z4 2 V H fun b9 σ H => (.iV V (.mV V (.nila H fun H => ?_)));obtain rfl:=sj h;exact ⟨V,w9,EI V,H⟩
  refine .exit ?_;obtain rfl:=sj h;exact ⟨nofun,⟨w3,V,EI V,H⟩⟩
 ·rintro x e σ ⟨w10,rfl,he,H⟩;obtain ⟨e,rfl⟩:=he.ex;refine .tR 3 V H fun b10 σ H => (.m1 w10 V V (.fV H 1 V (.Z4N (v:=w10) (ys:=[w10]) (cells':=[(vi x1.Period),(vi x1.Count),(vl (cL Span.cs) x1.Core),w10]) H 1 V V V V (H.slCells (k:=0) V) V V V V nofun fun σ H => (.nila H fun H => (.tR 2 V H fun b11 σ H => (.LV [(vi x1.Period),(vi x1.Count),(vl (cL Span.cs) x1.Core),w10] H 1 V (.sV [(vi x1.Period),(vi x1.Count),(vl (cL Span.cs) x1.Core),w10] H 2 V fun σ H => (.nila H fun H => ?_))))))));refine .ret ?_;obtain rfl:=sj h;exact (Ends.H (xs:=[(.agg [(vi x1.Period),(vi x1.Count),(vl (cL Span.cs) x1.Core),w10])]) (.inr V) H (.agg (cs:=[(vi x1.Period),(vi x1.Count),(vl (cL Span.cs) x1.Core),w10]) 2 V V V V V V V .nil) (.one (.a (.cons (.v _) (.cons (.v _) (.cons (.v _) (.cons (.s 0 V) .nil)))))))
theorem ZBr {f:Form} {r:Form × Int} (h:Z4e f = some r):Fn CX 40 [(.agg (vs (Form.cs f)))] (.tup [(.agg (vs (Form.cs r.1))),(vi r.2)]):=by
 refine Fn.go Tryz.func40 V fun σ H => ?_;unfold Z4e at h;refine .tR 3 V H fun b1 σ H => (.boxH (cs:=(vF f)) H (by omega) (by omega) V V V fun σ H => (.Za (cs:=[(vi 0),(vi 0),.nils,.nils]) H (by omega) (by omega) V V fun σ H => (.aV V (.nila H fun H => (.then (.tR 2 V H fun b2 σ H => (.LV (vF f) H 1 V ?_)))))));obtain ⟨x1,q1,h⟩:=bs h;refine .cV (Z8j q1) V (.nila H fun H => (.inBlock (.tR 2 V H fun b3 σ H => (.iV V (.aV V (.nila H fun H => ?_))))));refine .wh h V ?_ ?_ <;> intro h
 ·refine .tR 4 V H fun b4 σ H => (.LV (vF f) H 1 V ?_);obtain ⟨x2,q2,h⟩:=bs h;refine .cV (Z8h q2) V (.sV (vF x2) H 0 V fun σ H => (.aV V (.nila H fun H => (.ret ?_))));obtain rfl:=sj h;exact (Ends.H (xs:=[(.agg (vF x2)),(vi 0)]) (.inr V) H (.agg (cs:=(vF x2)) 0 V V V V V V V (.tmp (v:=(vi 0)) V .nil)) (.two (.cons (.p V) (.cons (.c (.v _)) .nil))))
 refine .tR 2 V H fun b5 σ H => (.iV V (.aV V (.nila H fun H => ?_)));refine .wh h V ?_ ?_ <;> intro h
 ·refine .tR 3 V H fun b6 σ H => (.bV [(vi 0),(vi 0),.nils,.nils] V (.sV [(vi 0),(vi 0),.nils,.nils] H 0 V fun σ H => (.aV V (.nila H fun H => (.ret ?_)))));obtain rfl:=sj h;exact (Ends.H (xs:=[(.agg [(vi 0),(vi 0),.nils,.nils]),(vi 3)]) (.inr V) H (.agg (cs:=[(vi 0),(vi 0),.nils,.nils]) 0 V V V V V V V (.tmp (v:=(vi 3)) V .nil)) (.two (.cons (.a (.cons (.v _) (.cons (.v _) (.cons .n (.cons .n .nil))))) (.cons (.c (.v _)) .nil))))
 refine .skip (.tR 3 V H fun b7 σ H => (.bV [(vi 0),(vi 0),.nils,.nils] V (.sV [(vi 0),(vi 0),.nils,.nils] H 0 V fun σ H => (.aV V (.nila H fun H => (.ret ?_))))));obtain rfl:=sj h;exact (Ends.H (xs:=[(.agg [(vi 0),(vi 0),.nils,.nils]),(vi 20)]) (.inr V) H (.agg (cs:=[(vi 0),(vi 0),.nils,.nils]) 0 V V V V V V V (.tmp (v:=(vi 20)) V .nil)) (.two (.cons (.a (.cons (.v _) (.cons (.v _) (.cons .n (.cons .n .nil))))) (.cons (.c (.v _)) .nil))))
theorem ZBb {f:Form} {m:Int} {r:Form × Int} (h:Z1R f m = some r):Fn CX 19 [(.agg (vs (Form.cs f))),(vi m)] (.tup [(.agg (vs (Form.cs r.1))),(vi r.2)]):=by
 refine Fn.go Tryz.func19 V fun σ H => ?_;unfold Z1R at h;refine .tR 3 V H fun b1 σ H => (.boxH (cs:=(vF f)) H (by omega) (by omega) V V V fun σ H => (.Za (cs:=[(vi 0),(vi 0),.nils,.nils]) H (by omega) (by omega) V V fun σ H => (.aV V (.nila H fun H => (.then (.tR 6 V H fun b2 σ H => (.mV V (.iV V ?_))))))));refine .mV V ?_;refine .md H 3 [(21,(vb ((decide (m < 1)) || (decide (m > 6000))))),(1,(vi m)),(2,(.ptr (b1 + 0) 4 0)),(4,(.ptr (b1 + 1) 4 0))] [.blk (b1 + 1) 25 [(vi 0),(vi 0),.nils,.nils],.blk (b1 + 0) 25 (vF f)] rfl ?_ fun e σ H => ?_
 ·refine .split V V ?_ ?_ <;> intro hc1
  ·refine .ps 2 V (.kT V (.nil ?_));exact ⟨⟨or_T hc1,V,V,V,U⟩,H.wk (by omega)⟩
  ·refine .mV V (.iV V (.kF V (.nil ?_)));exact ⟨⟨or_F hc1,V,V,V,U⟩,H.wk (by omega)⟩
 refine .nila H fun H => ?_;refine .wh h V ?_ ?_ <;> intro h
 ·refine .tR 3 V H fun b3 σ H => (.bV [(vi 0),(vi 0),.nils,.nils] V (.sV [(vi 0),(vi 0),.nils,.nils] H 0 V fun σ H => (.aV V (.nila H fun H => (.ret ?_)))));obtain rfl:=sj h;exact (Ends.H (xs:=[(.agg [(vi 0),(vi 0),.nils,.nils]),(vi 2)]) (.inr V) H (.agg (cs:=[(vi 0),(vi 0),.nils,.nils]) 0 V V V V V V V (.tmp (v:=(vi 2)) V .nil)) (.two (.cons (.a (.cons (.v _) (.cons (.v _) (.cons .n (.cons .n .nil))))) (.cons (.c (.v _)) .nil))))
 refine .skip (.tR 9 V H fun b4 σ H => (.LV (vF f) H 1 V (.mV V ?_)));obtain ⟨x1,q1,h⟩:=bs h;refine .callFO (ys:=[(.agg (vs (Form.cs f))),(vi m)]) H rfl (ZBl q1) nofun rfl ?_;rintro _ _ σ ⟨w1,rfl,rfl⟩ H;refine .m1 (.tup [(.agg [(vi x1.1.Period),(vi x1.1.Count),w1,.nils]),(vi x1.2)]) V V (.xV V (.xV V (.Za (cs:=[(vi 0),(vi 0),.nils,.nils]) H (by omega) (by omega) V V fun σ H => (.sV [(vi x1.1.Period),(vi x1.1.Count),w1,.nils] H 0 V fun σ H => (.aV V (.nila H fun H => (.then (.tR 2 V H fun b5 σ H => ?_))))))));refine .mV V (.iV V (.nila H fun H => ?_));refine .wh h V ?_ ?_ <;> intro h
 ·refine .tR 4 V H fun b6 σ H => (.bV [(vi 0),(vi 0),.nils,.nils] V (.mV V (.sV [(vi 0),(vi 0),.nils,.nils] H 2 V fun σ H => (.aV V (.nila H fun H => (.ret ?_))))));obtain rfl:=sj h;exact (Ends.H (xs:=[(.agg [(vi 0),(vi 0),.nils,.nils]),(vi x1.2)]) (.inr V) H (.agg (cs:=[(vi 0),(vi 0),.nils,.nils]) 2 V V V V V V V (.tmp (v:=(vi x1.2)) V .nil)) (.two (.cons (.a (.cons (.v _) (.cons (.v _) (.cons .n (.cons .n .nil))))) (.cons (.c (.v _)) .nil))))
 refine .skip (.then (.tR 4 V H fun b7 σ H => (.fV H 3 V (.lV H 3 V (.nV V (.mV V (.nila H fun H => (.inBlock ?_))))))));replace H:=H.pushNil 50 2 true;obtain ⟨y1,hj1,h⟩:=bs h;obtain ⟨n1,hj1⟩:=ZM.1 hj1;refine .mono (Runs.loopO hj1 (fun s2 e σ => ∃ (w4:PV),Z6 e [(1,(vi m)),(2,(.ptr (b1 + 0) 4 0)),(4,(.ptr (b1 + 1) 4 0)),(6,(.ptr (b4 + 6) 4 0)),(34,(vl Granule.cs f.Odd)),(35,(vi (f.Odd.length:Int))),(36,(vi s2.1))]∧Hs σ [.sl w4 50 2 (s2.2.map Granule.cs) true,.blk (b4 + 6) 25 [(vi x1.1.Period),(vi x1.1.Count),w1,w4],.sl w1 44 1 (x1.1.Core.map (cL Span.cs)) true,.blk (b1 + 1) 25 [(vi 0),(vi 0),.nils,.nils],.blk (b1 + 0) 25 (vF f)]) (fun y1 x e σ => (∃ a1,∃ (w5:PV),y1 = (.go a1)∧x = .exit 0∧Z6 e [(4,(.ptr (b1 + 1) 4 0)),(6,(.ptr (b4 + 6) 4 0))]∧Hs σ [.sl w5 50 2 (a1.map Granule.cs) true,.blk (b4 + 6) 25 [(vi x1.1.Period),(vi x1.1.Count),w1,w5],.sl w1 44 1 (x1.1.Core.map (cL Span.cs)) true,.blk (b1 + 1) 25 [(vi 0),(vi 0),.nils,.nils]])∨(∃ r',y1 = (.ret r')∧x = .ret∧Ends CX Tryz.f19.results.toList (.tup [(.agg (vs (Form.cs r'.1))),(vi r'.2)]) x e σ)) ⟨.nils,EI V,H⟩ ?_) ?_
 ·intro s2 e σ hI z h;obtain ⟨w4,he,H⟩:=hI;obtain ⟨e,rfl⟩:=he.ex;unfold Z1R.s0 at h;refine .tR 1 V H fun b8 σ H => (.iV V (.nila H fun H => (.then ?_)));refine .wh h V ?_ ?_ <;> intro h
  ·refine .skip (.then ?_);obtain ⟨y2,hj2,h⟩:=bs h;refine .mono (Q:=fun x e σ => (∃ a2,∃ (w6:PV),y2 = (.go a2)∧x = .normal∧Z6 e [(1,(vi m)),(2,(.ptr (b1 + 0) 4 0)),(4,(.ptr (b1 + 1) 4 0)),(6,(.ptr (b4 + 6) 4 0)),(34,(vl Granule.cs f.Odd)),(35,(vi (f.Odd.length:Int))),(36,(vi s2.1))]∧Hs σ [.sl w6 50 2 (a2.map Granule.cs) true,.blk (b4 + 6) 25 [(vi x1.1.Period),(vi x1.1.Count),w1,w6],.sl w1 44 1 (x1.1.Core.map (cL Span.cs)) true,.blk (b1 + 1) 25 [(vi 0),(vi 0),.nils,.nils],.blk (b1 + 0) 25 (vF f)])∨(∃ r',y2 = (.ret r')∧x = .ret∧Ends CX Tryz.f19.results.toList (.tup [(.agg (vs (Form.cs r'.1))),(vi r'.2)]) x e σ)) ?_ ?_
   ·replace h:=hj2;refine .inBlock (.tR 4 V H fun b9 σ H => ?_);obtain ⟨x2,q2,h⟩:=bs h;refine .jV q2 V (.qV [(.int .i64 x2.Index),(.sl (x2.Ticks.map Span.cs))] V (.Za (cs:=[(vi 0),.nils]) H (by omega) (by omega) V V fun σ H => (.sV [(vi x2.Index),(vl Span.cs x2.Ticks)] H 0 V fun σ H => (.nila H fun H => (.tR 11 V H fun b10 σ H => (.fV H 0 V (.lV H 0 V (.mV V ?_))))))));obtain ⟨x3,q3,h⟩:=bs h;refine .cV (Z1m q3) V (.m1 (.tup [(vi x3.1),(vi x3.2.1),(vi x3.2.2)]) V V (.xV V (.xV V (.xV V (.aV V (.aV V (.aV V (.nila H fun H => ?_))))))));refine .then (.tR 4 V H fun b11 σ H => (.fV H 2 V (.lV H 2 V (.Z48 (c:=Granule.cs) (xs:=s2.2) H 1 V V V nofun V (.aV V (.nila H fun H => (.tR 13 V H fun b12 σ H => (.mV V ?_))))))));refine .iV V (.mV V ?_);obtain ⟨y3,hj3,h⟩:=bs h;refine .md H 10 [(63,(vb y3)),(1,(vi m)),(2,(.ptr (b1 + 0) 4 0)),(4,(.ptr (b1 + 1) 4 0)),(6,(.ptr (b4 + 6) 4 0)),(10,(vi x3.1)),(34,(vl Granule.cs f.Odd)),(35,(vi (f.Odd.length:Int))),(36,(vi s2.1))] [.sl w4 50 2 (s2.2.map Granule.cs) true,.blk (b4 + 6) 25 [(vi x1.1.Period),(vi x1.1.Count),w1,w4],.sl w1 44 1 (x1.1.Core.map (cL Span.cs)) true,.blk (b1 + 1) 25 [(vi 0),(vi 0),.nils,.nils],.blk (b1 + 0) 25 (vF f)] V ?_ fun e σ H => ?_
    ·refine .sp hj3 V ?_ ?_ <;> intro h
     ·refine .fV H 2 V (.lV H 2 V (.mV V (.iV V (.wt V V ?_))));obtain ⟨x4,q4,h⟩:=bs h;refine .Z3h H 1 V V V (at?_map q4) V V nofun V ?_;intro id1 hv1;refine .wt V V (.Z5e (id:=id1) H 1 V hv1 (by simp) V V V nofun V (.wt V V ?_));refine .Z6j (id:=id1) (j:=0) (w:=(.int .i64 x4.Index)) H 1 V hv1 (by simp) (at?_map q4) V (by simp) V V V nofun V ?_;refine .mV V (.iV V (.kT V (.nil ?_)));obtain rfl:=sj h;exact ⟨EI V,(H.erase 0).wk (by omega)⟩
     refine .ps 9 V (.kF V (.nil ?_));obtain rfl:=sj h;exact ⟨EI V,(H.erase 0).wk (by omega)⟩
    refine .nila H fun H => ?_;refine .wh h V ?_ ?_ <;> intro h
    ·refine .exit ?_;obtain rfl:=sj h;exact (.inl ⟨_,w4,V,V,EI V,H⟩)
    refine .skip (.tR 11 V H fun b13 σ H => (.Z3U (fs:=[]) (cs:=[(.ptr (b1 + 0) 4 0)]) V V V V (.mV V (.mV V (.iV V (.mV V ?_))))));obtain ⟨x5,q5,h⟩:=bs h;refine .Z7Q (ys:=[(.clo 38 [] [(.ptr (b1 + 0) 4 0)]),(vi (w64 (x3.1 * m))),(vi m)]) (r:=(.tup [(vl Span.cs x5.1),(vi x5.2)])) H V (Z5S (C:=[.blk (b1 + 0) 25 (vF f)]) V (fun h => by simp [PV.pure] at h) (fun z0 y hz => (CloH.clo (Z9Y hz))) q5) (.cons 4 V .nil) nofun V fun σ H => (.m1 (.tup [(vl Span.cs x5.1),(vi x5.2)]) V V (.xV V (.xV V (.aV V (.aV V (.nila H fun H => (.then (.tR 2 V H fun b14 σ H => ?_))))))));refine .mV V (.iV V (.nila H fun H => ?_));refine .wh h V ?_ ?_ <;> intro h
    ·refine .tR 3 V H fun b15 σ H => (.bV [(vi 0),(vi 0),.nils,.nils] V (.sV [(vi 0),(vi 0),.nils,.nils] H 3 V fun σ H => (.aV V (.nila H fun H => (.ret ?_)))));obtain rfl:=sj h;exact (.inr ⟨_,V,V,(Ends.H (xs:=[(.agg [(vi 0),(vi 0),.nils,.nils]),(vi 20)]) (.inr V) H (.agg (cs:=[(vi 0),(vi 0),.nils,.nils]) 3 V V V V V V V (.tmp (v:=(vi 20)) V .nil)) (.two (.cons (.a (.cons (.v _) (.cons (.v _) (.cons .n (.cons .n .nil))))) (.cons (.c (.v _)) .nil))))⟩)
    refine .skip (.Z4 9 V H fun b16 σ H => (.fV H 1 V (.lV H 1 V (.mV V (.mV V (.bV [(vi x3.1),(vl Span.cs x5.1)] V (.Z0p (sz:=2) ([(Granule.mk x3.1 x5.1)].map Granule.cs) H (by omega) (by omega) V V V V V V V V V fun σ H => ?_)))))));obtain ⟨x6,q6,h⟩:=bs h;refine .Z16 (c:=Granule.cs) (v:=w4) (w:=(.buf (b16 + 5) 1 2)) (xs:=s2.2) (ys:=[(Granule.mk x3.1 x5.1)]) H (by omega) (by omega) 1 V V V (.s 0 V) q6 V V V V V nofun V fun w7 σ H => (.fV H 2 V (.Z4N (v:=w7) (ys:=[w7]) (cells':=[(vi x1.1.Period),(vi x1.1.Count),w1,w7]) H 2 V V V V (H.slCells (k:=1) V) V V V V nofun fun σ H => (.nila H fun H => ?_)));obtain rfl:=sj h;exact (.inl ⟨_,w7,V,V,EI V,(H.erase 0)⟩)
   ·rintro x e σ (⟨a3,w8,rfl,rfl,he,H⟩ | ⟨r',rfl,rfl,hE⟩)
    ·replace h:=jgo h;obtain ⟨e,rfl⟩:=he.ex;refine .Z4 2 V H fun b17 σ H => (.iV V (.mV V (.nila H fun H => ?_)));obtain rfl:=sj h;exact ⟨V,w8,EI V,H⟩
    ·replace h:=jret h;obtain rfl:=sj h;exact ⟨nofun,(.inr ⟨_,V,V,hE⟩)⟩
  refine .exit ?_;obtain rfl:=sj h;exact ⟨nofun,(.inl ⟨_,w4,V,V,EI V,(H.erase 4)⟩)⟩
 ·rintro x e σ (⟨a4,w9,rfl,rfl,he,H⟩ | ⟨r',rfl,rfl,hE⟩)
  ·replace h:=jgo h;obtain ⟨e,rfl⟩:=he.ex;refine .tR 6 V H fun b18 σ H => (.LV [(vi x1.1.Period),(vi x1.1.Count),w1,w9] H 1 V ?_);obtain ⟨x7,q7,h⟩:=bs h;refine .Z50 (xs:=[(.agg [(vi x1.1.Period),(vi x1.1.Count),w1,w9])]) (ys:=[(.agg (vs (Form.cs (Form.mk x1.1.Period x1.1.Count x1.1.Core a4))))]) H V (.cons (.a (.cons (.v _) (.cons (.v _) (.cons (.s 2 V) (.cons (.s 0 V) .nil))))) .nil) (ZBr q7) V V nofun V fun σ H => (.xV V (.xV V (.sV (vF x7.1) H 3 V fun σ H => (.aV V (.nila H fun H => (.ret ?_))))));obtain rfl:=sj h;exact (Ends.H (xs:=[(.agg (vF x7.1)),(vi x7.2)]) (.inr V) H (.agg (cs:=(vF x7.1)) 3 V V V V V V V (.tmp (v:=(vi x7.2)) V .nil)) (.two (.cons (.p V) (.cons (.c (.v _)) .nil))))
  ·replace h:=jret h;obtain rfl:=sj h;exact hE
theorem Z4r {k:Int} {r:Bool} (h:Z0r k = r):Fn CX 26 [(vi k)] (vb r):=by
 refine Fn.go Tryz.func26 V fun σ H => ?_;unfold Z0r at h;refine .tR 1 V H fun b1 σ H => (.aV V (.nila H fun H => (.tR 7 V H fun b2 σ H => (.mV V (.iV V (.mV V ?_))))));refine .md H 3 [(8,(vb ((decide (k ≥ (-1099511627776))) && (decide (k≤1099511627776)))))] [] V ?_ fun e σ H => ?_
 ·refine .split V V ?_ ?_ <;> intro hc1
  ·refine .mV V (.iV V (.kT V (.nil ?_)));exact ⟨⟨Z2V hc1,U⟩,H.wk (by omega)⟩
  ·refine .ps 2 V (.kF V (.nil ?_));exact ⟨⟨Z2S hc1,U⟩,H.wk (by omega)⟩
 refine .aV V (.nila H fun H => (.ret ?_));subst h;exact Ends.eR V
theorem Z74 {f:Form} {r:size_form} (h:Z1M f = some r):Fn CX 27 [(.agg (vs (Form.cs f)))] (.agg (vs (size_form.cs r))):=by
 refine Fn.go Tryz.func27 V fun σ H => ?_;unfold Z1M at h;refine .tR 2 V H fun b1 σ H => (.boxH (cs:=(vF f)) H (by omega) (by omega) V V V fun σ H => (.Za (cs:=[(vi 0),(vi 0),.nils,.nils,.nils]) H (by omega) (by omega) V V fun σ H => (.nila H fun H => (.tR 5 V H fun b2 σ H => (.LV (vF f) H 1 V ?_)))));obtain ⟨x1,q1,h⟩:=bs h;refine .cV (Z8h q1) V (.bV [(vi x1.Period),(vi x1.Count),(vl (cL Span.cs) x1.Core),(vl Granule.cs x1.Odd),.nils] V (.Za (cs:=[(vi 0),(vi 0),.nils,.nils,.nils]) H (by omega) (by omega) V V fun σ H => (.sV [(vi x1.Period),(vi x1.Count),(vl (cL Span.cs) x1.Core),(vl Granule.cs x1.Odd),.nils] H 0 V fun σ H => (.nila H fun H => (.then (.tR 5 V H fun b3 σ H => (.fV H 0 V (.fV H 0 V ?_))))))));refine .lV H 0 V (.nV V (.mV V (.nila H fun H => (.inBlock ?_))));replace H:=H.pushNil 88 3 true;obtain ⟨y1,hj1,h⟩:=bs h;obtain ⟨n1,hj1⟩:=ZM.1 hj1;refine .mono (Runs.loopO hj1 (fun s2 e σ => ∃ (w3:PV),Z6 e [(2,(.ptr (b1 + 1) 5 0)),(3,(.ptr (b2 + 3) 5 0)),(13,(vl (cL Span.cs) x1.Core)),(14,(vi (x1.Core.length:Int))),(15,(vi s2.1))]∧Hs σ [.sl w3 88 3 (s2.2.map size_spot.cs) true,.blk (b2 + 3) 65 [(vi x1.Period),(vi x1.Count),(vl (cL Span.cs) x1.Core),(vl Granule.cs x1.Odd),w3],.blk (b1 + 1) 65 [(vi 0),(vi 0),.nils,.nils,.nils]]) (fun y1 x e σ => ∃ (w4:PV),x = .exit 0∧Z6 e [(2,(.ptr (b1 + 1) 5 0)),(3,(.ptr (b2 + 3) 5 0))]∧Hs σ [.sl w4 88 3 (y1.map size_spot.cs) true,.blk (b2 + 3) 65 [(vi x1.Period),(vi x1.Count),(vl (cL Span.cs) x1.Core),(vl Granule.cs x1.Odd),w4],.blk (b1 + 1) 65 [(vi 0),(vi 0),.nils,.nils,.nils]]) ⟨.nils,EI V,(H.erase 3)⟩ ?_) ?_
 ·intro s2 e σ hI z h;obtain ⟨w3,he,H⟩:=hI;obtain ⟨e,rfl⟩:=he.ex;unfold Z1M.s0 at h;refine .tR 1 V H fun b4 σ H => (.iV V (.nila H fun H => (.then ?_)));refine .wh h V ?_ ?_ <;> intro h
  ·refine .skip (.then ?_);obtain ⟨y2,hj2,h⟩:=bs h;refine .mono (Q:=fun x e σ => ∃ (w5:PV),x = .normal∧Z6 e [(2,(.ptr (b1 + 1) 5 0)),(3,(.ptr (b2 + 3) 5 0)),(13,(vl (cL Span.cs) x1.Core)),(14,(vi (x1.Core.length:Int))),(15,(vi s2.1))]∧Hs σ [.sl w5 88 3 (y2.map size_spot.cs) true,.blk (b2 + 3) 65 [(vi x1.Period),(vi x1.Count),(vl (cL Span.cs) x1.Core),(vl Granule.cs x1.Odd),w5],.blk (b1 + 1) 65 [(vi 0),(vi 0),.nils,.nils,.nils]]) ?_ ?_
   ·replace h:=hj2;refine .inBlock ?_;obtain ⟨y3,hj3,h⟩:=bs h;refine .mono (Q:=fun x e σ => ∃ (w6:PV),x = .normal∧Z6 e [(2,(.ptr (b1 + 1) 5 0)),(3,(.ptr (b2 + 3) 5 0)),(13,(vl (cL Span.cs) x1.Core)),(14,(vi (x1.Core.length:Int))),(15,(vi s2.1))]∧Hs σ [.sl w6 88 3 (y3.map size_spot.cs) true,.blk (b2 + 3) 65 [(vi x1.Period),(vi x1.Count),(vl (cL Span.cs) x1.Core),(vl Granule.cs x1.Odd),w6],.blk (b1 + 1) 65 [(vi 0),(vi 0),.nils,.nils,.nils]]) ?_ ?_
    ·replace h:=hj3;refine .tR 5 V H fun b5 σ H => (.mV V ?_);obtain ⟨x2,q2,h⟩:=bs h;refine .jV q2 V (.pV V (.aV V (.aV V (.nila H fun H => (.tR 8 V H fun b6 σ H => (.mV V ?_))))));obtain ⟨x3,q3,h⟩:=bs h;refine .cV (Z1S q3) V (.m1 (.tup [(.agg [(vi x3.1.From),(vi x3.1.To)]),(vb x3.2)]) V V (.xV V (.xV V (.Za (cs:=[(vi 0),(vi 0)]) H (by omega) (by omega) V V fun σ H => (.sV [(vi x3.1.From),(vi x3.1.To)] H 0 V fun σ H => (.aV V (.nila H fun H => (.tR 1 V H fun b7 σ H => ?_))))))));refine .mV V (.nila H fun H => ?_);refine .wh h V ?_ ?_ <;> intro h
     ·refine .Z4 13 V H fun b8 σ H => (.fV H 2 V (.lV H 2 V (.mV V (.fV H 0 V (.lV H 0 V (.fV H 0 V (.lV H 0 V (.bV [(vi x3.1.From),(vi x3.1.To)] V ?_))))))));refine .bV [(vi s2.1),(vi x3.1.From),(vi x3.1.To)] V (.Z0p (sz:=3) ([(size_spot.mk s2.1 (size_place.mk x3.1.From x3.1.To))].map size_spot.cs) H (by omega) (by omega) V V V V V V V V V fun σ H => ?_);obtain ⟨x4,q4,h⟩:=bs h;refine .Z16 (c:=size_spot.cs) (v:=w3) (w:=(.buf (b8 + 9) 1 3)) (xs:=s2.2) (ys:=[(size_spot.mk s2.1 (size_place.mk x3.1.From x3.1.To))]) H (by omega) (by omega) 2 V V V (.s 0 V) q4 V V V V V nofun V fun w7 σ H => (.fV H 3 V (.Z4N (v:=w7) (ys:=[w7]) (cells':=[(vi x1.Period),(vi x1.Count),(vl (cL Span.cs) x1.Core),(vl Granule.cs x1.Odd),w7]) H 3 V V V V (H.slCells (k:=2) V) V V V V nofun fun σ H => (.nila H fun H => ?_)));obtain rfl:=sj h;exact ⟨w7,V,EI V,((H.erase 1).erase 0)⟩
     refine .skip ?_;obtain rfl:=sj h;exact ⟨w3,V,EI V,(H.erase 0)⟩
    ·rintro x e σ ⟨w8,rfl,he,H⟩;obtain ⟨e,rfl⟩:=he.ex;obtain rfl:=sj h;exact ⟨w8,V,EI V,H⟩
   ·rintro x e σ ⟨w9,rfl,he,H⟩;obtain ⟨e,rfl⟩:=he.ex;refine .Z4 2 V H fun b9 σ H => (.iV V (.mV V (.nila H fun H => ?_)));obtain rfl:=sj h;exact ⟨V,w9,EI V,H⟩
  refine .exit ?_;obtain rfl:=sj h;exact ⟨nofun,⟨w3,V,EI V,H⟩⟩
 ·rintro x e σ ⟨w10,rfl,he,H⟩;obtain ⟨e,rfl⟩:=he.ex;refine .tR 2 V H fun b10 σ H => (.LV [(vi x1.Period),(vi x1.Count),(vl (cL Span.cs) x1.Core),(vl Granule.cs x1.Odd),w10] H 1 V (.sV [(vi x1.Period),(vi x1.Count),(vl (cL Span.cs) x1.Core),(vl Granule.cs x1.Odd),w10] H 2 V fun σ H => (.nila H fun H => (.ret ?_))));obtain rfl:=sj h;exact (Ends.H (xs:=[(.agg [(vi x1.Period),(vi x1.Count),(vl (cL Span.cs) x1.Core),(vl Granule.cs x1.Odd),w10])]) (.inr V) H (.agg (cs:=[(vi x1.Period),(vi x1.Count),(vl (cL Span.cs) x1.Core),(vl Granule.cs x1.Odd),w10]) 2 V V V V V V V .nil) (.one (.a (.cons (.v _) (.cons (.v _) (.cons (.v _) (.cons (.v _) (.cons (.s 0 V) .nil))))))))
theorem Z3j {f:size_form} {i:Int} {r:size_place × Bool × Int} (h:Zx f i = some r):Fn CX 49 [(.agg (vs (size_form.cs f))),(vi i)] (.tup [(.agg (vs (size_place.cs r.1))),(vb r.2.1),(vi r.2.2)]):=by
 refine Fn.go Tryz.func49 V fun σ H => ?_;unfold Zx at h;refine .tR 4 V H fun b1 σ H => (.boxH (cs:=(vG f)) H (by omega) (by omega) V V V fun σ H => (.Za (cs:=[(vi 0),(vi 0)]) H (by omega) (by omega) V V fun σ H => (.aV V (.aV V (.nila H fun H => (.then (.tR 4 V H fun b2 σ H => (.fV H 1 V ?_))))))));refine .fV H 1 V (.lV H 1 V (.iV V (.nila H fun H => ?_)));refine .wh h V ?_ ?_ <;> intro h
 ·refine .tR 4 V H fun b3 σ H => (.bV [(vi 0),(vi 0)] V (.sV [(vi 0),(vi 0)] H 0 V fun σ H => (.aV V (.aV V (.nila H fun H => (.ret ?_))))));obtain rfl:=sj h;exact (Ends.H (xs:=[(.agg [(vi 0),(vi 0)]),(vb false),(vi 0)]) (.inr V) H (.agg (cs:=[(vi 0),(vi 0)]) 0 V V V V V V V (.tmp (v:=(vb false)) V (.tmp (v:=(vi 0)) V .nil))) (.two (.cons (.p V) (.cons (.c (.v _)) (.cons (.c (.v _)) .nil)))))
 refine .skip (.tR 12 V H fun b4 σ H => (.mV V (.fV H 1 V (.fV H 1 V (.lV H 1 V ?_)))));obtain ⟨x1,q1,h⟩:=bs h;refine .cV (Z1m q1) V (.m1 (.tup [(vi x1.1),(vi x1.2.1),(vi x1.2.2)]) V V (.xV V (.xV V (.xV V (.aV V (.aV V (.aV V (.nila H fun H => ?_))))))));refine .tR 13 V H fun b5 σ H => (.fV H 1 V (.fV H 1 V (.lV H 1 V (.mV V ?_))));obtain ⟨x2,q2,h⟩:=bs h;refine .jV q2 V (.pV V ?_);obtain ⟨x3,q3,h⟩:=bs h;refine .cV (Z1S q3) V (.m1 (.tup [(.agg [(vi x3.1.From),(vi x3.1.To)]),(vb x3.2)]) V V (.xV V (.xV V (.Za (cs:=[(vi 0),(vi 0)]) H (by omega) (by omega) V V fun σ H => (.sV [(vi x3.1.From),(vi x3.1.To)] H 0 V fun σ H => (.aV V (.nila H fun H => (.then ?_))))))));refine .tR 2 V H fun b6 σ H => (.mV V (.tV V (.nila H fun H => ?_)));refine .wh h V ?_ ?_ <;> intro h
 ·refine .tR 4 V H fun b7 σ H => (.bV [(vi 0),(vi 0)] V (.sV [(vi 0),(vi 0)] H 1 V fun σ H => (.aV V (.aV V (.nila H fun H => (.ret ?_))))));obtain rfl:=sj h;exact (Ends.H (xs:=[(.agg [(vi 0),(vi 0)]),(vb false),(vi 0)]) (.inr V) H (.agg (cs:=[(vi 0),(vi 0)]) 1 V V V V V V V (.tmp (v:=(vb false)) V (.tmp (v:=(vi 0)) V .nil))) (.two (.cons (.p V) (.cons (.c (.v _)) (.cons (.c (.v _)) .nil)))))
 refine .skip (.tR 10 V H fun b8 σ H => (.mV V (.fV H 2 V (.fV H 2 V (.lV H 2 V (.cV (Z5s V) V (.m1 (.tup [(vi (ZL x1.1 f.Form.Period).1),(vi (ZL x1.1 f.Form.Period).2)]) V V (.xV V ?_))))))));refine .xV V (.aV V (.aV V (.nila H fun H => (.tR 9 V H fun b9 σ H => (.fV H 0 V (.lV H 0 V (.mV V (.cV (Z64 V) V ?_))))))));refine .m1 (.tup [(vi (ZN x3.1.From ((ZL x1.1 f.Form.Period).1)).1),(vi (ZN x3.1.From ((ZL x1.1 f.Form.Period).1)).2)]) V V (.xV V (.xV V (.aV V (.aV V (.nila H fun H => (.tR 9 V H fun b10 σ H => (.fV H 0 V (.lV H 0 V ?_))))))));refine .mV V (.cV (Z64 V) V (.m1 (.tup [(vi (ZN x3.1.To ((ZL x1.1 f.Form.Period).1)).1),(vi (ZN x3.1.To ((ZL x1.1 f.Form.Period).1)).2)]) V V (.xV V (.xV V (.aV V (.aV V (.nila H fun H => (.then ?_))))))));refine .tR 10 V H fun b11 σ H => (.mV V (.iV V (.mV V ?_)));refine .md H 3 [(72,(vb ((((ZL x1.1 f.Form.Period).2) != 0) || (((ZN x3.1.From ((ZL x1.1 f.Form.Period).1)).2) != 0)))),(4,(.ptr (b1 + 1) 2 0)),(14,(vi (ZN x3.1.From ((ZL x1.1 f.Form.Period).1)).1)),(16,(vi (ZN x3.1.To ((ZL x1.1 f.Form.Period).1)).1)),(17,(vi (ZN x3.1.To ((ZL x1.1 f.Form.Period).1)).2))] [.blk (b1 + 1) 69 [(vi 0),(vi 0)]] rfl ?_ fun e σ H => ?_
 ·refine .split V V ?_ ?_ <;> intro hc3
  ·refine .ps 2 V (.kT V (.nil ?_));exact ⟨⟨or_T hc3,V,V,V,V,U⟩,((H.erase 2).erase 0).wk (by omega)⟩
  ·refine .mV V (.iV V (.kF V (.nil ?_)));exact ⟨⟨or_F hc3,V,V,V,V,U⟩,((H.erase 2).erase 0).wk (by omega)⟩
 refine .mV V ?_;refine .md H 3 [(76,(vb (((((ZL x1.1 f.Form.Period).2) != 0) || (((ZN x3.1.From ((ZL x1.1 f.Form.Period).1)).2) != 0)) || (((ZN x3.1.To ((ZL x1.1 f.Form.Period).1)).2) != 0)))),(4,(.ptr (b1 + 1) 2 0)),(14,(vi (ZN x3.1.From ((ZL x1.1 f.Form.Period).1)).1)),(16,(vi (ZN x3.1.To ((ZL x1.1 f.Form.Period).1)).1))] [.blk (b1 + 1) 69 [(vi 0),(vi 0)]] rfl ?_ fun e σ H => ?_
 ·refine .split V V ?_ ?_ <;> intro hc4
  ·refine .ps 2 V (.kT V (.nil ?_));exact ⟨⟨or_T hc4,V,V,V,U⟩,H.wk (by omega)⟩
  ·refine .mV V (.iV V (.kF V (.nil ?_)));exact ⟨⟨or_F hc4,V,V,V,U⟩,H.wk (by omega)⟩
 refine .nila H fun H => ?_;refine .wh h V ?_ ?_ <;> intro h
 ·refine .tR 4 V H fun b12 σ H => (.bV [(vi 0),(vi 0)] V (.sV [(vi 0),(vi 0)] H 0 V fun σ H => (.aV V (.aV V (.nila H fun H => (.ret ?_))))));obtain rfl:=sj h;exact (Ends.H (xs:=[(.agg [(vi 0),(vi 0)]),(vb false),(vi 10)]) (.inr V) H (.agg (cs:=[(vi 0),(vi 0)]) 0 V V V V V V V (.tmp (v:=(vb false)) V (.tmp (v:=(vi 10)) V .nil))) (.two (.cons (.p V) (.cons (.c (.v _)) (.cons (.c (.v _)) .nil)))))
 refine .skip (.tR 6 V H fun b13 σ H => (.mV V (.mV V (.bV [(vi (ZN x3.1.From ((ZL x1.1 f.Form.Period).1)).1),(vi (ZN x3.1.To ((ZL x1.1 f.Form.Period).1)).1)] V (.sV [(vi (ZN x3.1.From ((ZL x1.1 f.Form.Period).1)).1),(vi (ZN x3.1.To ((ZL x1.1 f.Form.Period).1)).1)] H 0 V fun σ H => (.aV V (.aV V (.nila H fun H => ?_))))))));refine .ret ?_;obtain rfl:=sj h;exact (Ends.H (xs:=[(.agg [(vi (ZN x3.1.From ((ZL x1.1 f.Form.Period).1)).1),(vi (ZN x3.1.To ((ZL x1.1 f.Form.Period).1)).1)]),(vb true),(vi 0)]) (.inr V) H (.agg (cs:=[(vi (ZN x3.1.From ((ZL x1.1 f.Form.Period).1)).1),(vi (ZN x3.1.To ((ZL x1.1 f.Form.Period).1)).1)]) 0 V V V V V V V (.tmp (v:=(vb true)) V (.tmp (v:=(vi 0)) V .nil))) (.two (.cons (.p V) (.cons (.c (.v _)) (.cons (.c (.v _)) .nil)))))
theorem Z99 {g:Granule} {i:Int} {r:Int} (h:Z1z g i = r):Fn CX 92 [(.agg (vs (Granule.cs g))),(vi i)] (vi r):=by
 refine Fn.go Tryz.func92 V fun σ H => ?_;unfold Z1z at h;refine .tR 2 V H fun b1 σ H => (.boxH (cs:=[(vi g.Index),(vl Span.cs g.Ticks)]) H (by omega) (by omega) V V V fun σ H => (.aV V (.nila H fun H => (.tR 5 V H fun b2 σ H => (.fV H 0 V (.lV H 0 V (.mV V (.cV (Z5X V) V ?_))))))));refine .aV V (.nila H fun H => (.ret ?_));subst h;exact Ends.eR V
theorem Z6O {f:size_form} {i:Int} {r:Int} (h:Z1Q f i = some r):Fn CX 68 [(.agg (vs (size_form.cs f))),(vi i)] (vi r):=by
 refine Fn.go Tryz.func68 V fun σ H => ?_;unfold Z1Q at h;refine .tR 2 V H fun b1 σ H => (.boxH (cs:=(vG f)) H (by omega) (by omega) V V V fun σ H => (.aV V (.nila H fun H => (.tR 10 V H fun b2 σ H => (.fV H 0 V (.fV H 0 V (.lV H 0 V (.mV V ?_))))))));obtain ⟨x1,q1,h⟩:=bs h;refine .Z7Q (ys:=[(vl Granule.cs f.Form.Odd),(vi i),(.v (.fn 92))]) (r:=(.tup [(vi x1.1),(vb x1.2)])) H V (Z0i (C:=[]) V (fun _ => V) (fun z0 z1 y hz => (CloH.fn (Fn.toH (Z99 (Option.some.inj hz)) _))) q1) .nil nofun V fun σ H => (.m1 (.tup [(vi x1.1),(vb x1.2)]) V V (.xV V (.xV V (.aV V (.aV V (.nila H fun H => (.then (.tR 2 V H fun b3 σ H => ?_))))))));refine .mV V (.tV V (.nila H fun H => ?_));refine .wh h V ?_ ?_ <;> intro h
 ·refine .tR 1 V H fun b4 σ H => (.aV V (.nila H fun H => (.ret ?_)));obtain rfl:=sj h;exact Ends.eR V
 refine .skip (.tR 2 V H fun b5 σ H => (.mV V (.aV V (.nila H fun H => (.ret ?_)))));obtain rfl:=sj h;exact Ends.eR V
theorem Z3b {f:size_form} {i:Int} {r:size_place × Bool × Int} (h:Z01 f i = some r):Fn CX 50 [(.agg (vs (size_form.cs f))),(vi i)] (.tup [(.agg (vs (size_place.cs r.1))),(vb r.2.1),(vi r.2.2)]):=by
 refine Fn.go Tryz.func50 V fun σ H => ?_;unfold Z01 at h;refine .tR 4 V H fun b1 σ H => (.boxH (cs:=(vG f)) H (by omega) (by omega) V V V fun σ H => (.Za (cs:=[(vi 0),(vi 0)]) H (by omega) (by omega) V V fun σ H => (.aV V (.aV V (.nila H fun H => (.then (.tR 4 V H fun b2 σ H => (.LV (vG f) H 1 V ?_))))))));refine .mV V ?_;obtain ⟨x1,q1,h⟩:=bs h;refine .cV (Z6O q1) V (.aV V (.nila H fun H => (.tR 2 V H fun b3 σ H => (.mV V (.iV V (.nila H fun H => ?_))))));refine .wh h V ?_ ?_ <;> intro h
 ·refine .tR 14 V H fun b4 σ H => (.fV H 1 V (.fV H 1 V (.lV H 1 V (.mV V ?_))));obtain ⟨x2,q2,h⟩:=bs h;refine .jV q2 V (.Z8 V V V V (.pV V ?_));obtain ⟨x3,q3,h⟩:=bs h;refine .cV (Z1S q3) V (.m1 (.tup [(.agg [(vi x3.1.From),(vi x3.1.To)]),(vb x3.2)]) V V (.xV V (.xV V (.Za (cs:=[(vi 0),(vi 0)]) H (by omega) (by omega) V V fun σ H => (.sV [(vi x3.1.From),(vi x3.1.To)] H 0 V fun σ H => (.aV V (.nila H fun H => (.tR 9 V H fun b5 σ H => ?_))))))));refine .fV H 0 V (.lV H 0 V (.fV H 0 V (.lV H 0 V (.bV [(vi x3.1.From),(vi x3.1.To)] V (.mV V (.sV [(vi x3.1.From),(vi x3.1.To)] H 1 V fun σ H => (.aV V (.aV V ?_))))))));refine .nila H fun H => (.ret ?_);obtain rfl:=sj h;exact (Ends.H (xs:=[(.agg [(vi x3.1.From),(vi x3.1.To)]),(vb x3.2),(vi 0)]) (.inr V) H (.agg (cs:=[(vi x3.1.From),(vi x3.1.To)]) 1 V V V V V V V (.tmp (v:=(vb x3.2)) V (.tmp (v:=(vi 0)) V .nil))) (.two (.cons (.p V) (.cons (.c (.v _)) (.cons (.c (.v _)) .nil)))))
 refine .skip (.tR 9 V H fun b6 σ H => (.LV (vG f) H 1 V (.mV V ?_)));obtain ⟨x4,q4,h⟩:=bs h;refine .cV (Z3j q4) V (.xV V (.xV V (.xV V (.sV [(vi x4.1.first),(vi x4.1.last)] H 0 V fun σ H => (.aV V (.aV V (.nila H fun H => (.ret ?_))))))));obtain rfl:=sj h;exact (Ends.H (xs:=[(.agg [(vi x4.1.first),(vi x4.1.last)]),(vb x4.2.1),(vi x4.2.2)]) (.inr V) H (.agg (cs:=[(vi x4.1.first),(vi x4.1.last)]) 0 V V V V V V V (.tmp (v:=(vb x4.2.1)) V (.tmp (v:=(vi x4.2.2)) V .nil))) (.two (.cons (.p V) (.cons (.c (.v _)) (.cons (.c (.v _)) .nil)))))
end Go.Dn
