/- Part 3 of what the row stands on. -/
import Derived.KernelRfl
import Derived.Test.YtobglidemkpmaaaGreatM2
set_option linter.unusedVariables false
set_option linter.unusedSimpArgs false
namespace Go.Dn
open Go
noncomputable section
def Le {α:Type} (a b:Option α):Prop:=∀ r,a=some r->b=some r
theorem Le.refl {α:Type} (a:Option α):Le a a:=λ_ h=>h
theorem Le.bind {α β:Type} {a b:Option α} {f g:α->Option β} (h:Le a b) (hf:∀ x,Le (f x) (g x)):Le (a.bind f) (b.bind g):=λr hr=>by
 cases ha:a with
 | none=>rw [ha] at hr;cases hr
 | some x=>rw [ha] at hr;rw [h x ha];exact hf x r hr
theorem Le.cond {α:Type} {c:Bool} {a b a' b':Option α} (h:Le a a') (h':Le b b'):Le (bif c then a else b) (bif c then a' else b'):=by
 cases c
 ·exact h'
 ·exact h
theorem Le.elim {A B C:Type} {y:Jx A B} {f f':B->Option C} {g g':A->Option C} (h:∀ r,Le (f r) (f' r)) (h':∀ a,Le (g a) (g' a)):Le (y.elim f g) (y.elim f' g'):=by
 cases y
 ·exact h' _
 ·exact h _
theorem Le.Z4Q {S T:Type} {f g:S->T->Option (S×Nat)} (h:∀ s t,Le (f s t) (g s t)) (s:S×Nat) (t:T):Le (Z4Q f s t) (Z4Q g s t):=λr hr=>by
 unfold Go.Dn.Z4Q at hr ⊢
 split at hr
 ·rename_i h0;rw [if_pos h0];cases ha:f s.1 t with
  | none=>rw [ha] at hr;cases hr
  | some x=>rw [ha] at hr;rw [h _ _ x ha];exact hr
 ·cases hr
def Z0r {S R:Type} (step:S->Option (S⊕R)) (s:S):Option R:=Z50 step 1000000 s
theorem iterO_le {S R:Type} {step step':S->Option (S⊕R)} (h:∀ s,Le (step s) (step' s)):∀ (n:Nat) (s:S),Le (Z50 step n s) (Z50 step' n s)
 | 0,s=>λr hr=>by cases hr
 | n+1,s=>λr hr=>by
  simp only [Z50] at hr ⊢;cases hs:step s with
  | none=>rw [hs] at hr;cases hr
  | some x=>
   rw [hs] at hr;rw [h s x hs];cases x with
   | inl s'=>exact iterO_le h n s' r hr
   | inr r'=>exact hr
theorem Le.loop {S R:Type} {step step':S->Option (S⊕R)} {s:S} (h:∀ s,Le (step s) (step' s)):Le (Z0r step s) (loopO step' s):=λr hr=>ZG.2 ⟨1000000,iterO_le h _ s r hr⟩
def Z89 (f:Form):Option (Int) :=
 (Z0r (Z0a.s0 f) (0,0)).bind λ(y1:Int)=>
 (Z0r (Z0a.s1 f) (y1,0)).bind λ(y2:Int)=>
 some y2
theorem ZDH {f:Form}:Le (Z89 f) (Z0a f):=by
 unfold Z89 Z0a
 repeat' (with_reducible (first|exact Le.refl _|apply Le.bind|apply Le.loop|intro _))
def Z4q (l:(List Span)):Option (Bool) :=
 (Z0r (Z0e.s0 l) 0).bind λ(y1:Jx (Unit) (Bool))=>
 y1.elim (λr'=>
   some r') λa2=>
 some true
theorem Z7j {l:(List Span)}:Le (Z4q l) (Z0e l):=by
 unfold Z4q Z0e
 repeat' (with_reducible (first|exact Le.refl _|apply Le.bind|apply Le.elim|apply Le.loop|intro _))
def Z17.s0 (f:Form) (s1:Int):Option ((Int)⊕(Jx (Unit) (Bool))) :=
 (bif (decide (s1<(f.Core.length:Int))) then
  (at? f.Core s1).bind λx1=>
  (Z4q x1).bind λx2=>
  (bif (!x2) then
   some (.inr (.ret false))
  else
   some (.inl (w64 (s1+1))))
 else
  some (.inr (.go ())))
theorem ZAQ {f:Form} {s1:Int}:Le (Z17.s0 f s1) (Zq.s0 f s1):=by
 unfold Z17.s0 Zq.s0
 repeat' (with_reducible (first|exact Le.refl _|apply Le.bind|apply Le.cond|apply Z7j|intro _))
def Z17.s1 (f:Form) (s2:Int):Option ((Int)⊕(Jx (Unit) (Bool))) :=
 (bif (decide (s2<(f.Odd.length:Int))) then
  (at? f.Odd s2).bind λx3=>
  (Z4q x3.Ticks).bind λx4=>
  (
   (bif ((!x4)||(!(Z1P x3.Index))) then
    some true
   else
    (
     (bif (decide (s2>0)) then
      (at? f.Odd (w64 (s2-1))).bind λx5=>
      some (decide (x3.Index<=x5.Index))
     else
      some false)).bind λ(y4:Bool)=>
    some y4)).bind λ(y3:Bool)=>
  (bif y3 then
   some (.inr (.ret false))
  else
   some (.inl (w64 (s2+1))))
 else
  some (.inr (.go ())))
theorem Z9p {f:Form} {s2:Int}:Le (Z17.s1 f s2) (Zq.s1 f s2):=by
 unfold Z17.s1 Zq.s1
 repeat' (with_reducible (first|exact Le.refl _|apply Le.bind|apply Le.cond|apply Z7j|intro _))
def Z17 (f:Form):Option (Bool) :=
 (bif ((((f.Count != (f.Core.length:Int))||((f.Count==0) != (f.Period==0)))||(decide (f.Period<0)))||(decide (f.Period>1099511627776))) then
  some false
 else
  (Z0r (Z17.s0 f) 0).bind λ(y1:Jx (Unit) (Bool))=>
  y1.elim (λr'=>
    some r') λa2=>
  (Z0r (Z17.s1 f) 0).bind λ(y2:Jx (Unit) (Bool))=>
  y2.elim (λr'=>
    some r') λa4=>
  some true)
theorem ZCc {f:Form}:Le (Z17 f) (Zq f):=by
 unfold Z17 Zq
 repeat' (with_reducible (first|exact Le.refl _|apply Le.bind|apply Le.cond|apply Le.elim|apply Le.loop|apply ZAQ|apply Z9p|intro _))
def Z7L (f:Form):Option (Bool) :=
 (Z0r (Z0S.s0 f) (0,[])).bind λ(y1:(List (List Span)))=>
 (Z0r (Z0S.s1 f y1) 0).bind λ(y4:Jx (Unit) (Bool))=>
 y4.elim (λr'=>
   some r') λa6=>
 some true
theorem ZCe {f:Form}:Le (Z7L f) (Z0S f):=by
 unfold Z7L Z0S
 repeat' (with_reducible (first|exact Le.refl _|apply Le.bind|apply Le.elim|apply Le.loop|intro _))
def ZF.s0 (x':(List Granule)) (target:Int) (cmp:Granule->Int->Option Int) (s1:Int×Int):Option ((Int×Int)⊕(Int)) :=
 (bif (decide (s1.1<s1.2)) then
  (
   (at? x' (w64 ((IntKind.u64.wrap (w64 (s1.1+s1.2))).fdiv (2 ^ 1)))).bind λx1=>
   (cmp x1 target).bind λx2=>
   (bif (decide (x2<0)) then
    some ((w64 ((w64 ((IntKind.u64.wrap (w64 (s1.1+s1.2))).fdiv (2 ^ 1)))+1)),s1.2)
   else
    some (s1.1,(w64 ((IntKind.u64.wrap (w64 (s1.1+s1.2))).fdiv (2 ^ 1)))))).bind λ(y2:Int×Int)=>
  some (.inl (y2.1,y2.2))
 else
  some (.inr s1.1))
theorem Z22 {x':(List Granule)} {target:Int} {cmp cmp_:Granule->Int->Option Int} {s1:Int×Int} (h_cmp:∀ z0 z1,Le (cmp z0 z1) (cmp_ z0 z1)):Le (ZF.s0 x' target cmp s1) (Z2.s0 x' target cmp_ s1):=by
 unfold ZF.s0 Z2.s0
 repeat' (with_reducible (first|exact Le.refl _|exact h_cmp _ _|exact h_cmp|apply Le.bind|apply Le.cond|intro _))
def ZF (x':(List Granule)) (target:Int) (cmp:Granule->Int->Option Int):Option (Int×Bool) :=
 (Z0r (ZF.s0 x' target cmp) (0,(x'.length:Int))).bind λ(y1:Int)=>
 (
  (bif (decide (y1<(x'.length:Int))) then
   (at? x' y1).bind λx3=>
   (cmp x3 target).bind λx4=>
   some (x4==0)
  else
   some false)).bind λ(y3:Bool)=>
 some (y1,y3)
theorem Z0t {x':(List Granule)} {target:Int} {cmp cmp_:Granule->Int->Option Int} (h_cmp:∀ z0 z1,Le (cmp z0 z1) (cmp_ z0 z1)):Le (ZF x' target cmp) (Z2 x' target cmp_):=by
 unfold ZF Z2
 repeat' (with_reducible (first|exact Le.refl _|exact h_cmp _ _|exact h_cmp|apply Le.bind|apply Le.cond|apply Le.loop|apply Z22|intro _))
def Z6w (f:Form) (i:Int):Option (Int×Bool) :=
 (ZF f.Odd i (λz0 z1=>some (Z4R z0 z1))).bind λx1=>
 some (x1.1,x1.2)
theorem Z9j {f:Form} {i:Int}:Le (Z6w f i) (Z5X f i):=by
 unfold Z6w Z5X
 repeat' (with_reducible (first|exact Le.refl _|apply Le.bind|apply Z0t|intro _))
def Z64 (f:Form) (i:Int):Option ((List Span)×Int×Int) :=
 (Z6w f i).bind λx1=>
 (bif x1.2 then
  (at? f.Odd x1.1).bind λx2=>
  some (x2.Ticks,0,0)
 else
  (bif (f.Count==0) then
   some ([],0,0)
  else
   (Z1D i f.Count).bind λx3=>
   (at? f.Core x3.2.1).bind λx4=>
   some (x4,(Z4A x3.1 f.Period).1,(Z4A x3.1 f.Period).2)))
theorem Z8i {f:Form} {i:Int}:Le (Z64 f i) (Z3R f i):=by
 unfold Z64 Z3R
 repeat' (with_reducible (first|exact Le.refl _|apply Le.bind|apply Le.cond|apply Z9j|intro _))
def Z76 (l:(List Span)) (by':Int):Option ((List Span)×Int) :=
 (Z0r (Z0h.s0 l by') (0,[])).bind λ(y1:Jx ((List Span)) ((List Span)×Int))=>
 y1.elim (λr'=>
   some r') λa2=>
 some (a2,0)
theorem ZCj {l:(List Span)} {by':Int}:Le (Z76 l by') (Z0h l by'):=by
 unfold Z76 Z0h
 repeat' (with_reducible (first|exact Le.refl _|apply Le.bind|apply Le.elim|apply Le.loop|intro _))
def Z4d (f:Form) (i:Int):Option ((List Span)×Int) :=
 (bif (!(Z1P i)) then
  some ([],20)
 else
  (Z64 f i).bind λx1=>
  (bif ((x1.1.length:Int)==0) then
   some ([],0)
  else
   (bif (x1.2.2 != 0) then
    some ([],20)
   else
    (Z76 x1.1 x1.2.1).bind λx2=>
    some (x2.1,x2.2))))
theorem Z9i {f:Form} {i:Int}:Le (Z4d f i) (Z2b f i):=by
 unfold Z4d Z2b
 repeat' (with_reducible (first|exact Le.refl _|apply Le.bind|apply Le.cond|apply Z8i|apply ZCj|intro _))
def Zm.s0 (s:(List (List Span))) (f:(List Span)->Option Bool) (s1:Int):Option ((Int)⊕(Jx (Unit) (Int))) :=
 (bif (decide (s1<(s.length:Int))) then
  (at? s s1).bind λx1=>
  (f x1).bind λx2=>
  (bif x2 then
   some (.inr (.ret s1))
  else
   some (.inl (w64 (s1+1))))
 else
  some (.inr (.go ())))
theorem Z3r {s:(List (List Span))} {f f_:(List Span)->Option Bool} {s1:Int} (h_f:∀ z0,Le (f z0) (f_ z0)):Le (Zm.s0 s f s1) (ZD.s0 s f_ s1):=by
 unfold Zm.s0 ZD.s0
 repeat' (with_reducible (first|exact Le.refl _|exact h_f _|exact h_f|apply Le.bind|apply Le.cond|intro _))
def Zm (s:(List (List Span))) (f:(List Span)->Option Bool):Option (Int) :=
 (Z0r (Zm.s0 s f) 0).bind λ(y1:Jx (Unit) (Int))=>
 y1.elim (λr'=>
   some r') λa2=>
 some (-1)
theorem Z4M {s:(List (List Span))} {f f_:(List Span)->Option Bool} (h_f:∀ z0,Le (f z0) (f_ z0)):Le (Zm s f) (ZD s f_):=by
 unfold Zm ZD
 repeat' (with_reducible (first|exact Le.refl _|exact h_f _|exact h_f|apply Le.bind|apply Le.elim|apply Le.loop|apply Z3r|intro _))
def Z0W (s:(List (List Span))) (f:(List Span)->Option Bool):Option (Bool) :=
 (Zm s f).bind λx1=>
 some (decide (x1>=0))
theorem Z1o {s:(List (List Span))} {f f_:(List Span)->Option Bool} (h_f:∀ z0,Le (f z0) (f_ z0)):Le (Z0W s f) (Ze s f_):=by
 unfold Z0W Ze
 repeat' (with_reducible (first|exact Le.refl _|exact h_f _|exact h_f|apply Le.bind|apply Z4M|intro _))
def Z8J (f:Form):Option (Bool) :=
 (Z0W f.Core (λz0=>some (Z5S z0))).bind λx1=>
 some (!x1)
theorem ZDS {f:Form}:Le (Z8J f) (Z3v f):=by
 unfold Z8J Z3v
 repeat' (with_reducible (first|exact Le.refl _|apply Le.bind|apply Z1o|intro _))
def Z8K (f:Form) (i:Int):Option (Bool) :=
 (Z64 f i).bind λx1=>
 some (decide ((x1.1.length:Int)>0))
theorem ZD2 {f:Form} {i:Int}:Le (Z8K f i) (Z5E f i):=by
 unfold Z8K Z5E
 repeat' (with_reducible (first|exact Le.refl _|apply Le.bind|apply Z8i|intro _))
def Z2e.s1 (f:Form) (by':Int) (s2:Int):Option ((Int)⊕(Jx (Unit) (Int×Bool))) :=
 (bif (Z1P s2) then
  (Z8K f s2).bind λx5=>
  (bif x5 then
   some (.inr (.ret (s2,true)))
  else
   some (.inl (w64 (s2+by'))))
 else
  some (.inr (.go ())))
theorem ZAd {f:Form} {by':Int} {s2:Int}:Le (Z2e.s1 f by' s2) (Z0A.s1 f by' s2):=by
 unfold Z2e.s1 Z0A.s1
 repeat' (with_reducible (first|exact Le.refl _|apply Le.bind|apply Le.cond|apply ZD2|intro _))
def Z2e (f:Form) (from':Int) (by':Int):Option (Int×Bool) :=
 (Z8J f).bind λx1=>
 (bif x1 then
  (Z6w f from').bind λx2=>
  (
   (bif ((decide (by'<0))&&(!x2.2)) then
    some (w64 (x2.1-1))
   else
    some x2.1)).bind λ(y1:Int)=>
  (Z0r (Z0A.s0 f by') y1).bind λ(y2:Jx (Unit) (Int×Bool))=>
  y2.elim (λr'=>
    some r') λa2=>
  some (0,false)
 else
  (Z0r (Z2e.s1 f by') from').bind λ(y3:Jx (Unit) (Int×Bool))=>
  y3.elim (λr'=>
    some r') λa4=>
  some (0,false))
theorem Z8u {f:Form} {from':Int} {by':Int}:Le (Z2e f from' by') (Z0A f from' by'):=by
 unfold Z2e Z0A
 repeat' (with_reducible (first|exact Le.refl _|apply Le.bind|apply Le.cond|apply Le.elim|apply Le.loop|apply ZDS|apply Z9j|apply ZAd|intro _))
def Z6i (f:Form) (i:Int):Option (Int×Bool) :=
 (bif (decide (i<=(-1099511627776))) then
  some (0,false)
 else
  (Z2e f (iMin (w64 (i-1)) 1099511627776) (-1)).bind λx1=>
  some (x1.1,x1.2))
theorem ZBx {f:Form} {i:Int}:Le (Z6i f i) (Z3E f i):=by
 unfold Z6i Z3E
 repeat' (with_reducible (first|exact Le.refl _|apply Le.bind|apply Le.cond|apply Z8u|intro _))
def Z6h (f:Form) (i:Int):Option (Int×Bool) :=
 (bif (decide (i>=1099511627776)) then
  some (0,false)
 else
  (Z2e f (iMax (w64 (i+1)) (-1099511627776)) 1).bind λx1=>
  some (x1.1,x1.2))
theorem ZBG {f:Form} {i:Int}:Le (Z6h f i) (Z2B f i):=by
 unfold Z6h Z2B
 repeat' (with_reducible (first|exact Le.refl _|apply Le.bind|apply Le.cond|apply Z8u|intro _))
def Z6T (f:Form) (i:Int):Option (Bool) :=
 (Z4d f i).bind λx1=>
 (bif (x1.2 != 0) then
  some false
 else
  (Z6i f i).bind λx2=>
  (Z6h f i).bind λx3=>
  (
   (bif x2.2 then
    (Z4d f x2.1).bind λx4=>
    (bif (x4.2 != 0) then
     some (.ret false)
    else
     some (.go x4.1))
   else
    some (.go []))).bind λ(y1:Jx ((List Span)) (Bool))=>
  y1.elim (λr'=>
    some r') λa2=>
  (
   (bif x3.2 then
    (Z4d f x3.1).bind λx5=>
    (bif (x5.2 != 0) then
     some (.ret false)
    else
     some (.go x5.1))
   else
    some (.go []))).bind λ(y2:Jx ((List Span)) (Bool))=>
  y2.elim (λr'=>
    some r') λa4=>
  (Z1E a2 x1.1).bind λx6=>
  (
   (bif x6 then
    (Z1E x1.1 a4).bind λx7=>
    some x7
   else
    some false)).bind λ(y3:Bool)=>
  (
   (bif y3 then
    (Z1E a2 a4).bind λx8=>
    some x8
   else
    some false)).bind λ(y4:Bool)=>
  some y4)
theorem ZBH {f:Form} {i:Int}:Le (Z6T f i) (Z2h f i):=by
 unfold Z6T Z2h
 repeat' (with_reducible (first|exact Le.refl _|apply Le.bind|apply Le.cond|apply Le.elim|apply Z9i|apply ZBx|apply ZBG|intro _))
def Z2m.s0 (f:Form) (s1:Int):Option ((Int)⊕(Jx (Unit) (Int))) :=
 (bif (decide (s1<(f.Odd.length:Int))) then
  (at? f.Odd s1).bind λx4=>
  (Z6T f x4.Index).bind λx5=>
  (bif (!x5) then
   some (.inr (.ret 50))
  else
   some (.inl (w64 (s1+1))))
 else
  some (.inr (.go ())))
theorem Z9x {f:Form} {s1:Int}:Le (Z2m.s0 f s1) (Z09.s0 f s1):=by
 unfold Z2m.s0 Z09.s0
 repeat' (with_reducible (first|exact Le.refl _|apply Le.bind|apply Le.cond|apply ZBH|intro _))
def Z2m (f:Form):Option (Int) :=
 (
  (bif ((decide ((f.Core.length:Int)>6000))||(decide ((f.Odd.length:Int)>6000))) then
   some true
  else
   (Z89 f).bind λx1=>
   some (decide (x1>60000)))).bind λ(y1:Bool)=>
 (bif y1 then
  some 3
 else
  (Z17 f).bind λx2=>
  (
   (bif (!x2) then
    some true
   else
    (Z7L f).bind λx3=>
    some (!x3))).bind λ(y2:Bool)=>
  (bif y2 then
   some 50
  else
   (Z0r (Z2m.s0 f) 0).bind λ(y3:Jx (Unit) (Int))=>
   y3.elim (λr'=>
     some r') λa2=>
   some 0))
theorem ZCi {f:Form}:Le (Z2m f) (Z09 f):=by
 unfold Z2m Z09
 repeat' (with_reducible (first|exact Le.refl _|apply Le.bind|apply Le.cond|apply Le.elim|apply Le.loop|apply ZDH|apply ZCc|apply ZCe|apply Z9x|intro _))
def Z2N (s1':(List Span)) (s2':(List Span)):Option (Bool) :=
 (bif ((s1'.length:Int) != (s2'.length:Int)) then
  some false
 else
  (Z0r (Zb.s0 s1' s2') 0).bind λ(y1:Jx (Unit) (Bool))=>
  y1.elim (λr'=>
    some r') λa2=>
  some true)
theorem Z5l {s1':(List Span)} {s2':(List Span)}:Le (Z2N s1' s2') (Zb s1' s2'):=by
 unfold Z2N Zb
 repeat' (with_reducible (first|exact Le.refl _|apply Le.bind|apply Le.cond|apply Le.elim|apply Le.loop|intro _))
def Z7F (a:(List Span)) (b:(List Span)):Option (Bool) :=
 (Z2N a b).bind λx1=>
 some x1
theorem ZCk {a:(List Span)} {b:(List Span)}:Le (Z7F a b) (Z4L a b):=by
 unfold Z7F Z4L
 repeat' (with_reducible (first|exact Le.refl _|apply Le.bind|apply Z5l|intro _))
def ZV.s0 (s1':(List Span)) (s2':(List Span)) (eq:Span->Span->Option Bool) (s1:Int):Option ((Int)⊕(Jx (Unit) (Bool))) :=
 (bif (decide (s1<(s1'.length:Int))) then
  (at? s1' s1).bind λx1=>
  (at? s2' s1).bind λx2=>
  (eq x1 x2).bind λx3=>
  (bif (!x3) then
   some (.inr (.ret false))
  else
   some (.inl (w64 (s1+1))))
 else
  some (.inr (.go ())))
theorem Z2q {s1':(List Span)} {s2':(List Span)} {eq eq_:Span->Span->Option Bool} {s1:Int} (h_eq:∀ z0 z1,Le (eq z0 z1) (eq_ z0 z1)):Le (ZV.s0 s1' s2' eq s1) (ZA.s0 s1' s2' eq_ s1):=by
 unfold ZV.s0 ZA.s0
 repeat' (with_reducible (first|exact Le.refl _|exact h_eq _ _|exact h_eq|apply Le.bind|apply Le.cond|intro _))
def ZV (s1':(List Span)) (s2':(List Span)) (eq:Span->Span->Option Bool):Option (Bool) :=
 (bif ((s1'.length:Int) != (s2'.length:Int)) then
  some false
 else
  (Z0r (ZV.s0 s1' s2' eq) 0).bind λ(y1:Jx (Unit) (Bool))=>
  y1.elim (λr'=>
    some r') λa2=>
  some true)
theorem Z3C {s1':(List Span)} {s2':(List Span)} {eq eq_:Span->Span->Option Bool} (h_eq:∀ z0 z1,Le (eq z0 z1) (eq_ z0 z1)):Le (ZV s1' s2' eq) (ZA s1' s2' eq_):=by
 unfold ZV ZA
 repeat' (with_reducible (first|exact Le.refl _|exact h_eq _ _|exact h_eq|apply Le.bind|apply Le.cond|apply Le.elim|apply Le.loop|apply Z2q|intro _))
def Z7C (f:Form):Option (Bool) :=
 (Z0W f.Core (λz0=>some (Z5v z0))).bind λx1=>
 some (!x1)
theorem ZCR {f:Form}:Le (Z7C f) (Z4H f):=by
 unfold Z7C Z4H
 repeat' (with_reducible (first|exact Le.refl _|apply Le.bind|apply Z1o|intro _))
def Z0y.s0 (p1':Int) {S:Type} (yield:S->Int->Option (S×Bool)) (s1:Int×S):Option ((Int×S)⊕(Jx (S) (S))) :=
 (bif (decide (s1.1<=p1')) then
  (nz? s1.1).bind λu1=>
  (
   (bif ((p1'.tmod s1.1)==0) then
    (yield s1.2 s1.1).bind λx1=>
    some ((!x1.2),x1.1)
   else
    some (false,s1.2))).bind λ(y2:Bool×S)=>
  (bif y2.1 then
   some (.inr (.ret y2.2))
  else
   some (.inl ((w64 (s1.1+1)),y2.2)))
 else
  some (.inr (.go s1.2)))
theorem Z77 {p1':Int} {S:Type} {yield yield_:S->Int->Option (S×Bool)} {s1:Int×S} (h_yield:∀ z0 z1,Le (yield z0 z1) (yield_ z0 z1)):Le (Z0y.s0 p1' yield s1) (Z0D.s0 p1' yield_ s1):=by
 unfold Z0y.s0 Z0D.s0
 repeat' (with_reducible (first|exact Le.refl _|exact h_yield _ _|exact h_yield|apply Le.bind|apply Le.cond|intro _))
def Z0y {S:Type} (p1':Int) (yield:S->Int->Option (S×Bool)) (st':S):Option (S) :=
 (Z0r (Z0y.s0 p1' yield) (1,st')).bind λ(y1:Jx (S) (S))=>
 y1.elim (λr'=>
   some r') λa2=>
 some a2
theorem Z8U {S:Type} {p1':Int} {yield yield_:S->Int->Option (S×Bool)} {st':S} (h_yield:∀ z0 z1,Le (yield z0 z1) (yield_ z0 z1)):Le (Z0y p1' yield st') (Z0D p1' yield_ st'):=by
 unfold Z0y Z0D
 repeat' (with_reducible (first|exact Le.refl _|exact h_yield _ _|exact h_yield|apply Le.bind|apply Le.elim|apply Le.loop|apply Z77|intro _))
def Z56 (a:(List Span)) (b:(List Span)) (by':Int):Option (Bool) :=
 (ZV a b (λz0 z1=>some (Z1u z0 z1 by'))).bind λx1=>
 some x1
theorem ZAC {a:(List Span)} {b:(List Span)} {by':Int}:Le (Z56 a b by') (Z2o a b by'):=by
 unfold Z56 Z2o
 repeat' (with_reducible (first|exact Le.refl _|apply Le.bind|apply Z3C|intro _))
def Z2l.s0 (f:Form) (d:Int) (by':Int) (s1:Int):Option ((Int)⊕(Jx (Unit) (Bool))) :=
 (bif (decide (s1<(f.Core.length:Int))) then
  (
   (
    (at? f.Core s1).bind λx1=>
    (
     (bif (decide ((w64 (s1+d))>=f.Count)) then
      some ((w64 ((w64 (s1+d))-f.Count)),f.Period)
     else
      some ((w64 (s1+d)),0))).bind λ(y4:Int×Int)=>
    (at? f.Core y4.1).bind λx2=>
    (Z56 x1 x2 (w64 (by'-y4.2))).bind λx3=>
    (bif (!x3) then
     some (.ret false)
    else
     some (.go ()))).bind λ(y3:Jx (Unit) (Bool))=>
   y3.elim (λr'=>
     some (.ret r')) λa4=>
   some (.go ())).bind λ(y2:Jx (Unit) (Bool))=>
  y2.elim (λr'=>
    some (.inr (.ret r'))) λa5=>
  some (.inl (w64 (s1+1)))
 else
  some (.inr (.go ())))
theorem ZAA {f:Form} {d:Int} {by':Int} {s1:Int}:Le (Z2l.s0 f d by' s1) (Z19.s0 f d by' s1):=by
 unfold Z2l.s0 Z19.s0
 repeat' (with_reducible (first|exact Le.refl _|apply Le.bind|apply Le.cond|apply Le.elim|apply ZAC|intro _))
def Z2l (f:Form) (d:Int) (by':Int):Option (Bool) :=
 (Z0r (Z2l.s0 f d by') 0).bind λ(y1:Jx (Unit) (Bool))=>
 y1.elim (λr'=>
   some r') λa6=>
 some true
theorem ZCX {f:Form} {d:Int} {by':Int}:Le (Z2l f d by') (Z19 f d by'):=by
 unfold Z2l Z19
 repeat' (with_reducible (first|exact Le.refl _|apply Le.bind|apply Le.elim|apply Le.loop|apply ZAA|intro _))
def Z2n.b0 (f:Form) (s2:(List (List Span))×Int×Int) (z2:Int):Option (((List (List Span))×Int×Int)×Nat) :=
 (nz? z2).bind λu1=>
 (Z1D f.Period (w64 (f.Count.tdiv z2))).bind λx2=>
 (
  (bif (x2.2.1 != 0) then
   some true
  else
   (Z2l f z2 x2.1).bind λx3=>
   some (!x3))).bind λ(y3:Bool)=>
 (bif y3 then
  some ((s2.1,s2.2.1,s2.2.2),0)
 else
  (cut? f.Core 0 z2).bind λx4=>
  (Z0r (Z01.s1 x4) (0,s2.1)).bind λ(y4:(List (List Span)))=>
  some ((y4,x2.1,z2),1))
theorem Z9q {f:Form} {s2:(List (List Span))×Int×Int} {z2:Int}:Le (Z2n.b0 f s2 z2) (Z01.b0 f s2 z2):=by
 unfold Z2n.b0 Z01.b0
 repeat' (with_reducible (first|exact Le.refl _|apply Le.bind|apply Le.cond|apply Le.loop|apply ZCX|intro _))
def Z2n (f:Form):Option (Form) :=
 (Z7C f).bind λx1=>
 (bif x1 then
  some (Form.mk 0 0 [] [])
 else
  (
   (Z0y f.Count (Z4Q (Z2n.b0 f)) (([],0,0),0)).bind λ(y2:((List (List Span))×Int×Int)×Nat)=>
   (bif (y2.2==0) then
    some (y2.1.1,y2.1.2.1,y2.1.2.2)
   else
    some (y2.1.1,y2.1.2.1,y2.1.2.2))).bind λ(y1:(List (List Span))×Int×Int)=>
  some (Form.mk y1.2.1 y1.2.2 y1.1 []))
theorem ZCV {f:Form}:Le (Z2n f) (Z01 f):=by
 unfold Z2n Z01
 repeat' (with_reducible (first|exact Le.refl _|apply Le.bind|apply Le.cond|refine Le.Z4Q ?_ _ _|apply ZCR|apply Z8U|apply Z9q|intro _))
def Z6H (f:Form) (g:Granule):Option (Bool) :=
 (Z4d f g.Index).bind λx1=>
 (
  (bif (x1.2==0) then
   (Z7F x1.1 g.Ticks).bind λx2=>
   some x2
  else
   some false)).bind λ(y1:Bool)=>
 some y1
theorem ZBY {f:Form} {g:Granule}:Le (Z6H f g) (Z3m f g):=by
 unfold Z6H Z3m
 repeat' (with_reducible (first|exact Le.refl _|apply Le.bind|apply Le.cond|apply Z9i|apply ZCk|intro _))
def Z2t.s0 (f:Form) (x1:Form) (s2:Int×(List Granule)):Option ((Int×(List Granule))⊕((List Granule))) :=
 (bif (decide (s2.1<(f.Odd.length:Int))) then
  (
   (
    (at? f.Odd s2.1).bind λx2=>
    (Z6H x1 x2).bind λx3=>
    (bif (!x3) then
     (clone? 16 x2.Ticks).bind λx4=>
     (app? 32 s2.2 [(Granule.mk x2.Index x4)]).bind λx5=>
     some x5
    else
     some s2.2)).bind λ(y3:(List Granule))=>
   some y3).bind λ(y2:(List Granule))=>
  some (.inl ((w64 (s2.1+1)),y2))
 else
  some (.inr s2.2))
theorem Z9r {f:Form} {x1:Form} {s2:Int×(List Granule)}:Le (Z2t.s0 f x1 s2) (Z0q.s0 f x1 s2):=by
 unfold Z2t.s0 Z0q.s0
 repeat' (with_reducible (first|exact Le.refl _|apply Le.bind|apply Le.cond|apply ZBY|intro _))
def Z2t (f:Form):Option (Form) :=
 (Z2n f).bind λx1=>
 (Z0r (Z2t.s0 f x1) (0,[])).bind λ(y1:(List Granule))=>
 some (Form.mk x1.Period x1.Count x1.Core y1)
theorem ZCS {f:Form}:Le (Z2t f) (Z0q f):=by
 unfold Z2t Z0q
 repeat' (with_reducible (first|exact Le.refl _|apply Le.bind|apply Le.loop|apply ZCV|apply Z9r|intro _))
def Z88 (f:Form):Option (size_form) :=
 (Z2t f).bind λx1=>
 (Z0r (Z2I.s0 x1) (0,[])).bind λ(y1:(List size_spot))=>
 some (size_form.mk x1 y1)
theorem ZDc {f:Form}:Le (Z88 f) (Z2I f):=by
 unfold Z88 Z2I
 repeat' (with_reducible (first|exact Le.refl _|apply Le.bind|apply Le.loop|apply ZCS|intro _))
def Z1M.s0 (f:Int->Option Bool) (s1:Int×Int):Option ((Int×Int)⊕(Int)) :=
 (bif (decide (s1.1<s1.2)) then
  (
   (f (w64 ((IntKind.u64.wrap (w64 (s1.1+s1.2))).fdiv (2 ^ 1)))).bind λx1=>
   (bif (!x1) then
    some ((w64 ((w64 ((IntKind.u64.wrap (w64 (s1.1+s1.2))).fdiv (2 ^ 1)))+1)),s1.2)
   else
    some (s1.1,(w64 ((IntKind.u64.wrap (w64 (s1.1+s1.2))).fdiv (2 ^ 1)))))).bind λ(y2:Int×Int)=>
  some (.inl (y2.1,y2.2))
 else
  some (.inr s1.1))
theorem Z9b {f f_:Int->Option Bool} {s1:Int×Int} (h_f:∀ z0,Le (f z0) (f_ z0)):Le (Z1M.s0 f s1) (Z0f.s0 f_ s1):=by
 unfold Z1M.s0 Z0f.s0
 repeat' (with_reducible (first|exact Le.refl _|exact h_f _|exact h_f|apply Le.bind|apply Le.cond|intro _))
def Z1M (n:Int) (f:Int->Option Bool):Option (Int) :=
 (Z0r (Z1M.s0 f) (0,n)).bind λ(y1:Int)=>
 some y1
theorem Z7N {n:Int} {f f_:Int->Option Bool} (h_f:∀ z0,Le (f z0) (f_ z0)):Le (Z1M n f) (Z0f n f_):=by
 unfold Z1M Z0f
 repeat' (with_reducible (first|exact Le.refl _|exact h_f _|exact h_f|apply Le.bind|apply Le.loop|apply Z9b|intro _))
def Z3W (f:size_form) (t:Int) (up:Bool):Option (Int) :=
 (bif up then
  (at? f.spots (w64 ((f.spots.length:Int)-1))).bind λx1=>
  (Z1D (w64 (x1.place.last-t)) f.Form.Period).bind λx2=>
  (Z1M (f.spots.length:Int) (λz0=>Z2K z0 f x2.1 t)).bind λx3=>
  (at? f.spots x3).bind λx4=>
  some (w64 (x4.index-(w64 (x2.1*f.Form.Count))))
 else
  (at? f.spots 0).bind λx5=>
  (Z1D (w64 (t-x5.place.first)) f.Form.Period).bind λx6=>
  (Z1M (f.spots.length:Int) (λz0=>Z2G z0 f x6.1 t)).bind λx7=>
  (at? f.spots (w64 (x7-1))).bind λx8=>
  some (w64 (x8.index+(w64 (x6.1*f.Form.Count)))))
theorem Z5r {f:size_form} {t:Int} {up:Bool}:Le (Z3W f t up) (Z0V f t up):=by
 unfold Z3W Z0V
 repeat' (with_reducible (first|exact Le.refl _|apply Le.bind|apply Le.cond|apply Z7N|intro _))
def Z5J (f:size_form) (i:Int):Option (Int) :=
 (ZF f.Form.Odd i (λz0 z1=>some (Z3P z0 z1))).bind λx1=>
 (bif (!x1.2) then
  some (-1)
 else
  some x1.1)
theorem ZA7 {f:size_form} {i:Int}:Le (Z5J f i) (Z2s f i):=by
 unfold Z5J Z2s
 repeat' (with_reducible (first|exact Le.refl _|apply Le.bind|apply Le.cond|apply Z0t|intro _))
def Z03.s0 (f:size_form) (y1:Int) (s1:Int):Option ((Int)⊕(Int)) :=
 (Z5J f s1).bind λx2=>
 (
  (bif (decide (x2>=0)) then
   some true
  else
   (Z3T f s1).bind λx3=>
   some (!x3))).bind λ(y4:Bool)=>
 (bif y4 then
  some (.inl (w64 (s1+y1)))
 else
  some (.inr s1))
theorem Z7e {f:size_form} {y1:Int} {s1:Int}:Le (Z03.s0 f y1 s1) (Z6.s0 f y1 s1):=by
 unfold Z03.s0 Z6.s0
 repeat' (with_reducible (first|exact Le.refl _|apply Le.bind|apply Le.cond|apply ZA7|intro _))
def Z03.s2 (f:size_form) (t:Int) (up:Bool) (y1:Int) (s3:Int×Int×Bool):Option ((Int×Int×Bool)⊕(Int×Bool)) :=
 (bif (decide (s3.1<(f.Form.Odd.length:Int))) then
  (
   (
    (at? f.Form.Odd s3.1).bind λx5=>
    (Z1f x5.Ticks).bind λx6=>
    (bif (x6.2&&((up&&(decide (x6.1.To>=t)))||((!up)&&(decide (x6.1.From<=t))))) then
     (
      (Z0r (Z6.s3) (([(w64 ((w64 (0-y1))*x5.Index))].length:Int),0,[(w64 ((w64 (0-y1))*x5.Index))],s3.2.1,s3.2.2)).bind λ(y13:(List Int)×Int×Bool)=>
      some (y13.1,y13.2.1,y13.2.2)).bind λ(y12:(List Int)×Int×Bool)=>
     some (y12.2.1,y12.2.2)
    else
     some (s3.2.1,s3.2.2))).bind λ(y11:Int×Bool)=>
   some (y11.1,y11.2)).bind λ(y10:Int×Bool)=>
  some (.inl ((w64 (s3.1+1)),y10.1,y10.2))
 else
  some (.inr (s3.2.1,s3.2.2)))
theorem Z7M {f:size_form} {t:Int} {up:Bool} {y1:Int} {s3:Int×Int×Bool}:Le (Z03.s2 f t up y1 s3) (Z6.s2 f t up y1 s3):=by
 unfold Z03.s2 Z6.s2
 repeat' (with_reducible (first|exact Le.refl _|apply Le.bind|apply Le.cond|apply Le.loop|intro _))
def Z03 (f:size_form) (t:Int) (up:Bool):Option (Int×Bool) :=
 (
  (bif up then
   some 1
  else
   some (-1))).bind λ(y1:Int)=>
 (
  (bif (decide (f.Form.Count>0)) then
   (Z3W f t up).bind λx1=>
   (Z0r (Z03.s0 f y1) x1).bind λ(y3:Int)=>
   (
    (Z0r (Z6.s1) (([(w64 ((w64 (0-y1))*y3))].length:Int),0,[(w64 ((w64 (0-y1))*y3))],0,false)).bind λ(y6:(List Int)×Int×Bool)=>
    some (y6.1,y6.2.1,y6.2.2)).bind λ(y5:(List Int)×Int×Bool)=>
   some (y5.2.1,y5.2.2)
  else
   some (0,false))).bind λ(y2:Int×Bool)=>
 (Z0r (Z03.s2 f t up y1) (0,y2.1,y2.2)).bind λ(y9:Int×Bool)=>
 some ((w64 ((w64 (0-y1))*y9.1)),y9.2)
theorem Z8Z {f:size_form} {t:Int} {up:Bool}:Le (Z03 f t up) (Z6 f t up):=by
 unfold Z03 Z6
 repeat' (with_reducible (first|exact Le.refl _|apply Le.bind|apply Le.cond|apply Le.loop|apply Z5r|apply Z7e|apply Z7M|intro _))
def Z1U.s0 (d:Int) (up:Bool) (x1:size_form) (y1:Int) (s1:Int×Int×Bool):Option ((Int×Int×Bool)⊕(Int×Bool)) :=
 (bif (decide (s1.1<(x1.spots.length:Int))) then
  (
   (
    (at? x1.spots s1.1).bind λx2=>
    (
     (bif up then
      some x2.place.first
     else
      some x2.place.last)).bind λ(y5:Int)=>
    (Z3W x1 (w64 (y5+d)) up).bind λx3=>
    (
     (Z0r (ZU.s1) (([(w64 (y1*(w64 (x3-x2.index))))].length:Int),0,[(w64 (y1*(w64 (x3-x2.index))))],s1.2.1,s1.2.2)).bind λ(y7:(List Int)×Int×Bool)=>
     some (y7.1,y7.2.1,y7.2.2)).bind λ(y6:(List Int)×Int×Bool)=>
    some (y6.2.1,y6.2.2)).bind λ(y4:Int×Bool)=>
   some (y4.1,y4.2)).bind λ(y3:Int×Bool)=>
  some (.inl ((w64 (s1.1+1)),y3.1,y3.2))
 else
  some (.inr (s1.2.1,s1.2.2)))
theorem ZBl {d:Int} {up:Bool} {x1:size_form} {y1:Int} {s1:Int×Int×Bool}:Le (Z1U.s0 d up x1 y1 s1) (ZU.s0 d up x1 y1 s1):=by
 unfold Z1U.s0 ZU.s0
 repeat' (with_reducible (first|exact Le.refl _|apply Le.bind|apply Le.cond|apply Le.loop|apply Z5r|intro _))
def Z1U.s2 (d:Int) (up:Bool) (x1:size_form) (y1:Int) (s3:Int×Int×Bool):Option ((Int×Int×Bool)⊕(Int×Bool)) :=
 (bif (decide (s3.1<(x1.Form.Odd.length:Int))) then
  (
   (
    (at? x1.Form.Odd s3.1).bind λx5=>
    (Z1f x5.Ticks).bind λx6=>
    (bif (!x6.2) then
     some (.ret ())
    else
     (
      (bif up then
       some (x6.1.To,x6.1.From)
      else
       some (x6.1.From,x6.1.To))).bind λ(y13:Int×Int)=>
     (
      (Z03 x1 (w64 (y13.2+d)) up).bind λx7=>
      (bif x7.2 then
       (
        (Z0r (ZU.s3) (([(w64 (y1*(w64 (x7.1-x5.Index))))].length:Int),0,[(w64 (y1*(w64 (x7.1-x5.Index))))],s3.2.1,s3.2.2)).bind λ(y16:(List Int)×Int×Bool)=>
        some (y16.1,y16.2.1,y16.2.2)).bind λ(y15:(List Int)×Int×Bool)=>
       some (y15.2.1,y15.2.2)
      else
       some (s3.2.1,s3.2.2))).bind λ(y14:Int×Bool)=>
     (Z03 x1 (w64 (y13.1-d)) (!up)).bind λx9=>
     (bif x9.2 then
      (
       (Z0r (ZU.s4) (([(w64 (y1*(w64 (x5.Index-x9.1))))].length:Int),0,[(w64 (y1*(w64 (x5.Index-x9.1))))],y14.1,y14.2)).bind λ(y20:(List Int)×Int×Bool)=>
       some (y20.1,y20.2.1,y20.2.2)).bind λ(y19:(List Int)×Int×Bool)=>
      some (.go (y19.2.1,y19.2.2))
     else
      some (.go (y14.1,y14.2))))).bind λ(y12:Jx (Int×Bool) (Unit))=>
   y12.elim (λa4=>
     some (s3.2.1,s3.2.2)) λa3=>
   some (a3.1,a3.2)).bind λ(y11:Int×Bool)=>
  some (.inl ((w64 (s3.1+1)),y11.1,y11.2))
 else
  some (.inr (s3.2.1,s3.2.2)))
theorem ZBz {d:Int} {up:Bool} {x1:size_form} {y1:Int} {s3:Int×Int×Bool}:Le (Z1U.s2 d up x1 y1 s3) (ZU.s2 d up x1 y1 s3):=by
 unfold Z1U.s2 ZU.s2
 repeat' (with_reducible (first|exact Le.refl _|apply Le.bind|apply Le.cond|apply Le.elim|apply Le.loop|apply Z8Z|intro _))
def Z1U (g:Form) (d:Int) (up:Bool):Option (Int×Bool×Int) :=
 (bif (!(Z3p d)) then
  some (0,false,2)
 else
  (Z88 g).bind λx1=>
  (
   (bif up then
    some (-1)
   else
    some 1)).bind λ(y1:Int)=>
  (Z0r (Z1U.s0 d up x1 y1) (0,0,false)).bind λ(y2:Int×Bool)=>
  (Z0r (Z1U.s2 d up x1 y1) (0,y2.1,y2.2)).bind λ(y10:Int×Bool)=>
  some ((w64 (y1*y10.1)),y10.2,0))
theorem Z9n {g:Form} {d:Int} {up:Bool}:Le (Z1U g d up) (ZU g d up):=by
 unfold Z1U ZU
 repeat' (with_reducible (first|exact Le.refl _|apply Le.bind|apply Le.cond|apply Le.loop|apply ZDc|apply ZBl|apply ZBz|intro _))
def Z65 (f:Form) (d:Int):Option (Int×Bool×Int) :=
 (Z1U f d false).bind λx1=>
 some (x1.1,x1.2.1,x1.2.2)
theorem Z8W {f:Form} {d:Int}:Le (Z65 f d) (Z4Y f d):=by
 unfold Z65 Z4Y
 repeat' (with_reducible (first|exact Le.refl _|apply Le.bind|apply Z9n|intro _))
def Z9t (f:Form) (d:Int):Option (Int×Bool×Int) :=
 (Z1U f d true).bind λx1=>
 some (x1.1,x1.2.1,x1.2.2)
theorem evle_size_Up {f:Form} {d:Int}:Le (Z9t f d) (Z7w f d):=by
 unfold Z9t Z7w
 repeat' (with_reducible (first|exact Le.refl _|apply Le.bind|apply Z9n|intro _))
def Z6J (f:Form) (low:Bound) (high:Bound):Option (Range×Bool×Int) :=
 (bif ((((!(ZO low))||(!(ZO high)))||(low.Inf==1))||(high.Inf==(-1))) then
  some ((Range.mk 0 0 false false),false,2)
 else
  (
   (bif ((high.Inf==0)&&(decide (high.N<=1099511627776))) then
    (Z65 f (iMax high.N (-1099511627776))).bind λx1=>
    (bif (!x1.2.1) then
     some (.ret ((Range.mk 0 0 false false),false,0))
    else
     some (.go (x1.1,true)))
   else
    some (.go (0,false)))).bind λ(y1:Jx (Int×Bool) (Range×Bool×Int))=>
  y1.elim (λr'=>
    some r') λa2=>
  (
   (bif ((low.Inf==0)&&(decide (low.N>=(-1099511627776)))) then
    (Z9t f (iMin low.N 1099511627776)).bind λx2=>
    (bif (!x2.2.1) then
     some (.ret ((Range.mk 0 0 false false),false,0))
    else
     some (.go (x2.1,true)))
   else
    some (.go (0,false)))).bind λ(y2:Jx (Int×Bool) (Range×Bool×Int))=>
  y2.elim (λr'=>
    some r') λa4=>
  some ((Range.mk a4.1 a2.1 a4.2 a2.2),true,0))
theorem ZBm {f:Form} {low:Bound} {high:Bound}:Le (Z6J f low high) (Z2C f low high):=by
 unfold Z6J Z2C
 repeat' (with_reducible (first|exact Le.refl _|apply Le.bind|apply Le.cond|apply Le.elim|apply Z8W|apply evle_size_Up|intro _))
def Z3I (a:carry_asked) (gap:Int):Option (Bool) :=
 (Z65 a.f (w64 (gap-1099511627776))).bind λx1=>
 some ((x1.2.1&&(x1.2.2==0))&&(decide (x1.1>=a.m)))
theorem Z7I {a:carry_asked} {gap:Int}:Le (Z3I a gap) (Z0x a gap):=by
 unfold Z3I Z0x
 repeat' (with_reducible (first|exact Le.refl _|apply Le.bind|apply Z8W|intro _))
def Z5w (f:Form) (m:Int):Option (Bound) :=
 (Z1M 2199023255553 (λz0=>Z3I (carry_asked.mk f (iMin (iMax m (-4611686018427387904)) 4611686018427387904)) z0)).bind λx1=>
 (bif ((w64 ((iMin x1 2199023255552)-1099511627776))==(-1099511627776)) then
  some (Bound.mk (-1) 0)
 else
  some (Bound.mk 0 (w64 ((iMin x1 2199023255552)-1099511627776))))
theorem Z8o {f:Form} {m:Int}:Le (Z5w f m) (Z36 f m):=by
 unfold Z5w Z36
 repeat' (with_reducible (first|exact Le.refl _|apply Le.bind|apply Le.cond|apply Z7N|apply Z7I|intro _))
def Z75 (f:Form) (n:Int):Option (Bound) :=
 (Z5w f (w64 (0-(iMax n (-4611686018427387904))))).bind λx1=>
 some ((Z8 x1).1)
theorem ZCb {f:Form} {n:Int}:Le (Z75 f n) (Z3H f n):=by
 unfold Z75 Z3H
 repeat' (with_reducible (first|exact Le.refl _|apply Le.bind|apply Z8o|intro _))
def Z6c (f:Form) (r':Range):Option (Bound×Bound) :=
 (
  (bif r'.HasLow then
   (Z5w f r'.Low).bind λx1=>
   some (x1.Inf,x1.N)
  else
   some ((-1),0))).bind λ(y1:Int×Int)=>
 (
  (bif r'.HasHigh then
   (Z75 f r'.High).bind λx2=>
   some (x2.Inf,x2.N)
  else
   some (1,0))).bind λ(y2:Int×Int)=>
 some ((Bound.mk y1.1 y1.2),(Bound.mk y2.1 y2.2))
theorem ZBF {f:Form} {r':Range}:Le (Z6c f r') (Z3e f r'):=by
 unfold Z6c Z3e
 repeat' (with_reducible (first|exact Le.refl _|apply Le.bind|apply Le.cond|apply Z8o|apply ZCb|intro _))
def Zr.s0 (s:(List Form)) (f:Form->Option Bool) (s1:Int):Option ((Int)⊕(Jx (Unit) (Int))) :=
 (bif (decide (s1<(s.length:Int))) then
  (at? s s1).bind λx1=>
  (f x1).bind λx2=>
  (bif x2 then
   some (.inr (.ret s1))
  else
   some (.inl (w64 (s1+1))))
 else
  some (.inr (.go ())))
theorem Z44 {s:(List Form)} {f f_:Form->Option Bool} {s1:Int} (h_f:∀ z0,Le (f z0) (f_ z0)):Le (Zr.s0 s f s1) (ZN.s0 s f_ s1):=by
 unfold Zr.s0 ZN.s0
 repeat' (with_reducible (first|exact Le.refl _|exact h_f _|exact h_f|apply Le.bind|apply Le.cond|intro _))
def Zr (s:(List Form)) (f:Form->Option Bool):Option (Int) :=
 (Z0r (Zr.s0 s f) 0).bind λ(y1:Jx (Unit) (Int))=>
 y1.elim (λr'=>
   some r') λa2=>
 some (-1)
theorem Z4n {s:(List Form)} {f f_:Form->Option Bool} (h_f:∀ z0,Le (f z0) (f_ z0)):Le (Zr s f) (ZN s f_):=by
 unfold Zr ZN
 repeat' (with_reducible (first|exact Le.refl _|exact h_f _|exact h_f|apply Le.bind|apply Le.elim|apply Le.loop|apply Z44|intro _))
def Z1J (s:(List Form)) (f:Form->Option Bool):Option (Bool) :=
 (Zr s f).bind λx1=>
 some (decide (x1>=0))
theorem Z48 {s:(List Form)} {f f_:Form->Option Bool} (h_f:∀ z0,Le (f z0) (f_ z0)):Le (Z1J s f) (Zs s f_):=by
 unfold Z1J Zs
 repeat' (with_reducible (first|exact Le.refl _|exact h_f _|exact h_f|apply Le.bind|apply Z4n|intro _))
def Z6f (f:Form):Option (Bool) :=
 (Z2m f).bind λx1=>
 some (x1 != 0)
theorem ZBN {f:Form}:Le (Z6f f) (Z1H f):=by
 unfold Z6f Z1H
 repeat' (with_reducible (first|exact Le.refl _|apply Le.bind|apply ZCi|intro _))
def Z02.s0 (s:(List Con)) (f:Con->Option Bool) (s1:Int):Option ((Int)⊕(Jx (Unit) (Int))) :=
 (bif (decide (s1<(s.length:Int))) then
  (at? s s1).bind λx1=>
  (f x1).bind λx2=>
  (bif x2 then
   some (.inr (.ret s1))
  else
   some (.inl (w64 (s1+1))))
 else
  some (.inr (.go ())))
theorem Z4h {s:(List Con)} {f f_:Con->Option Bool} {s1:Int} (h_f:∀ z0,Le (f z0) (f_ z0)):Le (Z02.s0 s f s1) (ZR.s0 s f_ s1):=by
 unfold Z02.s0 ZR.s0
 repeat' (with_reducible (first|exact Le.refl _|exact h_f _|exact h_f|apply Le.bind|apply Le.cond|intro _))
def Z02 (s:(List Con)) (f:Con->Option Bool):Option (Int) :=
 (Z0r (Z02.s0 s f) 0).bind λ(y1:Jx (Unit) (Int))=>
 y1.elim (λr'=>
   some r') λa2=>
 some (-1)
theorem Z55 {s:(List Con)} {f f_:Con->Option Bool} (h_f:∀ z0,Le (f z0) (f_ z0)):Le (Z02 s f) (ZR s f_):=by
 unfold Z02 ZR
 repeat' (with_reducible (first|exact Le.refl _|exact h_f _|exact h_f|apply Le.bind|apply Le.elim|apply Le.loop|apply Z4h|intro _))
def Z1X (s:(List Con)) (f:Con->Option Bool):Option (Bool) :=
 (Z02 s f).bind λx1=>
 some (decide (x1>=0))
theorem Z4i {s:(List Con)} {f f_:Con->Option Bool} (h_f:∀ z0,Le (f z0) (f_ z0)):Le (Z1X s f) (Z05 s f_):=by
 unfold Z1X Z05
 repeat' (with_reducible (first|exact Le.refl _|exact h_f _|exact h_f|apply Le.bind|apply Z55|intro _))
def Z7o (n:Net):Option (Int) :=
 (
  (
   (
    (bif (!(Z0b n.Vars 25)) then
     some (!(Z0b n.Vars 25))
    else
     (bif (decide ((n.Forms.length:Int)>20)) then
      some (decide ((n.Forms.length:Int)>20))
     else
      some (decide ((n.Cons.length:Int)>200))))).bind λ(y3:Bool)=>
   (bif y3 then
    some (.ret 230)
   else
    (
     (Z1J n.Forms (λz0=>Z6f z0)).bind λx1=>
     (bif x1 then
      some x1
     else
      (Z1X n.Cons (λz0=>some (Z0m z0 n))).bind λx2=>
      some x2)).bind λ(y4:Bool)=>
    (bif y4 then
     some (.ret 230)
    else
     some (.go ())))).bind λ(y2:Jx (Unit) (Int))=>
  y2.elim (λr'=>
    some (.ret r')) λa3=>
  some (.go ())).bind λ(y1:Jx (Unit) (Int))=>
 y1.elim (λr'=>
   some r') λa4=>
 some 0
theorem ZCn {n:Net}:Le (Z7o n) (Z2H n):=by
 unfold Z7o Z2H
 repeat' (with_reducible (first|exact Le.refl _|apply Le.bind|apply Le.cond|apply Le.elim|apply Z48|apply ZBN|apply Z4i|intro _))
def Z1j (x':(List Bound)) (count:Int):Option ((List Bound)) :=
 (bif (decide (count<0)) then
  none
 else
  (bif ((decide (((Za (IntKind.u64.wrap (x'.length:Int)) (IntKind.u64.wrap count)).1)>0))||(decide (((Za (IntKind.u64.wrap (x'.length:Int)) (IntKind.u64.wrap count)).2)>9223372036854775807))) then
   none
  else
   (new? 16 (w64 ((Za (IntKind.u64.wrap (x'.length:Int)) (IntKind.u64.wrap count)).2)) (Bound.mk 0 0)).bind λx1=>
   (Z0r (ZP.s0 x' count) (((min x'.length x1.length:Nat):Int),(cpy x1 x'))).bind λ(y1:(List Bound))=>
   some y1))
theorem Z4z {x':(List Bound)} {count:Int}:Le (Z1j x' count) (ZP x' count):=by
 unfold Z1j ZP
 repeat' (with_reducible (first|exact Le.refl _|apply Le.bind|apply Le.cond|apply Le.loop|intro _))
def Zj.s0 (s:(List (List Bound))) (f:(List Bound)->Option Bool) (s1:Int):Option ((Int)⊕(Jx (Unit) (Int))) :=
 (bif (decide (s1<(s.length:Int))) then
  (at? s s1).bind λx1=>
  (f x1).bind λx2=>
  (bif x2 then
   some (.inr (.ret s1))
  else
   some (.inl (w64 (s1+1))))
 else
  some (.inr (.go ())))
theorem Z3Y {s:(List (List Bound))} {f f_:(List Bound)->Option Bool} {s1:Int} (h_f:∀ z0,Le (f z0) (f_ z0)):Le (Zj.s0 s f s1) (ZE.s0 s f_ s1):=by
 unfold Zj.s0 ZE.s0
 repeat' (with_reducible (first|exact Le.refl _|exact h_f _|exact h_f|apply Le.bind|apply Le.cond|intro _))
def Zj (s:(List (List Bound))) (f:(List Bound)->Option Bool):Option (Int) :=
 (Z0r (Zj.s0 s f) 0).bind λ(y1:Jx (Unit) (Int))=>
 y1.elim (λr'=>
   some r') λa2=>
 some (-1)
theorem Z40 {s:(List (List Bound))} {f f_:(List Bound)->Option Bool} (h_f:∀ z0,Le (f z0) (f_ z0)):Le (Zj s f) (ZE s f_):=by
 unfold Zj ZE
 repeat' (with_reducible (first|exact Le.refl _|exact h_f _|exact h_f|apply Le.bind|apply Le.elim|apply Le.loop|apply Z3Y|intro _))
def Z0u (s:(List (List Bound))) (f:(List Bound)->Option Bool):Option (Bool) :=
 (Zj s f).bind λx1=>
 some (decide (x1>=0))
theorem Z3Z {s:(List (List Bound))} {f f_:(List Bound)->Option Bool} (h_f:∀ z0,Le (f z0) (f_ z0)):Le (Z0u s f) (Zi s f_):=by
 unfold Z0u Zi
 repeat' (with_reducible (first|exact Le.refl _|exact h_f _|exact h_f|apply Le.bind|apply Z40|intro _))
def Zn.s0 (s:(List Bound)) (f:Bound->Option Bool) (s1:Int):Option ((Int)⊕(Jx (Unit) (Int))) :=
 (bif (decide (s1<(s.length:Int))) then
  (at? s s1).bind λx1=>
  (f x1).bind λx2=>
  (bif x2 then
   some (.inr (.ret s1))
  else
   some (.inl (w64 (s1+1))))
 else
  some (.inr (.go ())))
theorem Z3x {s:(List Bound)} {f f_:Bound->Option Bool} {s1:Int} (h_f:∀ z0,Le (f z0) (f_ z0)):Le (Zn.s0 s f s1) (ZL.s0 s f_ s1):=by
 unfold Zn.s0 ZL.s0
 repeat' (with_reducible (first|exact Le.refl _|exact h_f _|exact h_f|apply Le.bind|apply Le.cond|intro _))
def Zn (s:(List Bound)) (f:Bound->Option Bool):Option (Int) :=
 (Z0r (Zn.s0 s f) 0).bind λ(y1:Jx (Unit) (Int))=>
 y1.elim (λr'=>
   some r') λa2=>
 some (-1)
theorem Z4S {s:(List Bound)} {f f_:Bound->Option Bool} (h_f:∀ z0,Le (f z0) (f_ z0)):Le (Zn s f) (ZL s f_):=by
 unfold Zn ZL
 repeat' (with_reducible (first|exact Le.refl _|exact h_f _|exact h_f|apply Le.bind|apply Le.elim|apply Le.loop|apply Z3x|intro _))
def Z15 (s:(List Bound)) (f:Bound->Option Bool):Option (Bool) :=
 (Zn s f).bind λx1=>
 some (decide (x1>=0))
theorem Z3t {s:(List Bound)} {f f_:Bound->Option Bool} (h_f:∀ z0,Le (f z0) (f_ z0)):Le (Z15 s f) (Zl s f_):=by
 unfold Z15 Zl
 repeat' (with_reducible (first|exact Le.refl _|exact h_f _|exact h_f|apply Le.bind|apply Z4S|intro _))
def Z6I (row:(List Bound)) (p1':Int):Option (Bool) :=
 (
  (bif ((row.length:Int) != p1') then
   some true
  else
   (Z15 row (λz0=>some (Z5T z0))).bind λx1=>
   some x1)).bind λ(y1:Bool)=>
 some y1
theorem ZBi {row:(List Bound)} {p1':Int}:Le (Z6I row p1') (Z4a row p1'):=by
 unfold Z6I Z4a
 repeat' (with_reducible (first|exact Le.refl _|apply Le.bind|apply Le.cond|apply Z3t|intro _))
def Z83 (d:(List (List Bound))):Option (Bool) :=
 (
  (bif (decide ((d.length:Int)<=24)) then
   (Z0u d (λz0=>Z6I z0 (d.length:Int))).bind λx1=>
   some (!x1)
  else
   some false)).bind λ(y1:Bool)=>
 some y1
theorem ZE1 {d:(List (List Bound))}:Le (Z83 d) (Z3w d):=by
 unfold Z83 Z3w
 repeat' (with_reducible (first|exact Le.refl _|apply Le.bind|apply Le.cond|apply Z3Z|apply ZBi|intro _))
def Z1L.s2 (d:(List (List Bound))) (s2:Int×(List (List Bound))) (s3:Int×(List (List Bound))):Option ((Int×(List (List Bound)))⊕((List (List Bound)))) :=
 (bif (decide (s3.1<((d.length:Nat):Int))) then
  (Z0r (ZQ.s3 d s2 s3) (0,s3.2)).bind λ(y5:(List (List Bound)))=>
  some (.inl ((w64 (s3.1+1)),y5))
 else
  some (.inr s3.2))
theorem ZAW {d:(List (List Bound))} {s2:Int×(List (List Bound))} {s3:Int×(List (List Bound))}:Le (Z1L.s2 d s2 s3) (ZQ.s2 d s2 s3):=by
 unfold Z1L.s2 ZQ.s2
 repeat' (with_reducible (first|exact Le.refl _|apply Le.bind|apply Le.cond|apply Le.loop|intro _))
def Z1L.s1 (d:(List (List Bound))) (s2:Int×(List (List Bound))):Option ((Int×(List (List Bound)))⊕(Jx ((List (List Bound))) ((List (List Bound))×Bool×Int))) :=
 (bif (decide (s2.1<((d.length:Nat):Int))) then
  (
   (Z0r (Z1L.s2 d s2) (0,s2.2)).bind λ(y4:(List (List Bound)))=>
   (Z0r (ZQ.s4 d y4) 0).bind λ(y9:Jx (Unit) (Unit))=>
   y9.elim (λa7=>
     some (false,y4)) λa6=>
   some (true,y4)).bind λ(y3:Bool×(List (List Bound)))=>
  (bif (!y3.1) then
   some (.inr (.ret ([],false,0)))
  else
   some (.inl ((w64 (s2.1+1)),y3.2)))
 else
  some (.inr (.go s2.2)))
theorem ZAm {d:(List (List Bound))} {s2:Int×(List (List Bound))}:Le (Z1L.s1 d s2) (ZQ.s1 d s2):=by
 unfold Z1L.s1 ZQ.s1
 repeat' (with_reducible (first|exact Le.refl _|apply Le.bind|apply Le.cond|apply Le.elim|apply Le.loop|apply ZAW|intro _))
def Z1L (d:(List (List Bound))):Option ((List (List Bound))×Bool×Int) :=
 (Z83 d).bind λx1=>
 (bif (!x1) then
  some ([],false,2)
 else
  (Z73 d).bind λx2=>
  (Z0r (ZQ.s0 d) (0,x2)).bind λ(y1:Jx ((List (List Bound))) ((List (List Bound))×Bool×Int))=>
  y1.elim (λr'=>
    some r') λa2=>
  (Z0r (Z1L.s1 d) (0,a2)).bind λ(y2:Jx ((List (List Bound))) ((List (List Bound))×Bool×Int))=>
  y2.elim (λr'=>
    some r') λa8=>
  some (a8,true,0))
theorem ZD4 {d:(List (List Bound))}:Le (Z1L d) (ZQ d):=by
 unfold Z1L ZQ
 repeat' (with_reducible (first|exact Le.refl _|apply Le.bind|apply Le.cond|apply Le.elim|apply Le.loop|apply ZE1|apply ZAm|intro _))
def Z74 (d:(List (List Bound))):Option ((List (List Bound))×Bool×Int) :=
 (bif d.isEmpty then
  some ([],true,0)
 else
  Z1L d)
theorem ZCW {d:(List (List Bound))}:Le (Z74 d) (Z1t d):=by
 unfold Z74 Z1t
 repeat' (with_reducible (first|exact Le.refl _|apply Le.cond|apply ZD4|intro _))
def Z1Y (a:prop_end) (b:prop_end) (there:prop_end->Option Bool) (more:prop_end->prop_end->Option Bool):Option (prop_end) :=
 (there b).bind λx1=>
 (
  (bif x1 then
   (there a).bind λx2=>
   (
    (bif (!x2) then
     some true
    else
     (more b a).bind λx3=>
     some x3)).bind λ(y2:Bool)=>
   some y2
  else
   some false)).bind λ(y1:Bool)=>
 (bif y1 then
  some b
 else
  some a)
theorem Z5y {a:prop_end} {b:prop_end} {there there_:prop_end->Option Bool} {more more_:prop_end->prop_end->Option Bool} (h_there:∀ z0,Le (there z0) (there_ z0)) (h_more:∀ z0 z1,Le (more z0 z1) (more_ z0 z1)):Le (Z1Y a b there more) (Zv a b there_ more_):=by
 unfold Z1Y Zv
 repeat' (with_reducible (first|exact Le.refl _|exact h_there _|exact h_more _ _|exact h_there|exact h_more|apply Le.bind|apply Le.cond|intro _))
def Z7l (a:Range) (b:Range):Option (Range×Bool) :=
 (Z1Y (prop_end.mk a.Low a.HasLow) (prop_end.mk b.Low b.HasLow) (λz0=>some (Z29 z0)) (λz0 z1=>some (Z4U z0 z1))).bind λx1=>
 (Z1Y (prop_end.mk a.High a.HasHigh) (prop_end.mk b.High b.HasHigh) (λz0=>some (Z29 z0)) (λz0 z1=>some (Z4Z z0 z1))).bind λx2=>
 (bif ((x1.there&&x2.there)&&(decide (x1.n>x2.n))) then
  some ((Range.mk 0 0 false false),false)
 else
  some ((Range.mk x1.n x2.n x1.there x2.there),true))
theorem ZDA {a:Range} {b:Range}:Le (Z7l a b) (Z3s a b):=by
 unfold Z7l Z3s
 repeat' (with_reducible (first|exact Le.refl _|apply Le.bind|apply Le.cond|apply Z5y|intro _))
def Z3h.s0 (n:Int) (s1:Int×(List (List Bound))):Option ((Int×(List (List Bound)))⊕((List (List Bound)))) :=
 (bif (decide (s1.1<n)) then
  (Z1j [(Bound.mk 1 0)] n).bind λx2=>
  (at? s1.2 s1.1).bind λx3=>
  (at? (s1.2.set (s1.1).toNat x2) s1.1).bind λx4=>
  (at? x4 s1.1).bind λx5=>
  some (.inl ((w64 (s1.1+1)),((s1.2.set (s1.1).toNat x2).set (s1.1).toNat (x4.set (s1.1).toNat (Bound.mk 0 0)))))
 else
  some (.inr s1.2))
theorem ZBQ {n:Int} {s1:Int×(List (List Bound))}:Le (Z3h.s0 n s1) (Z39.s0 n s1):=by
 unfold Z3h.s0 Z39.s0
 repeat' (with_reducible (first|exact Le.refl _|apply Le.bind|apply Le.cond|apply Z4z|intro _))
def Z3h (n:Int):Option ((List (List Bound))×Int) :=
 (bif ((decide (n<0))||(decide (n>24))) then
  none
 else
  (new? 24 n []).bind λx1=>
  (Z0r (Z3h.s0 n) (0,x1)).bind λ(y1:(List (List Bound)))=>
  some (y1,0))
theorem evle_stp_NewS {n:Int}:Le (Z3h n) (Z39 n):=by
 unfold Z3h Z39
 repeat' (with_reducible (first|exact Le.refl _|apply Le.bind|apply Le.cond|apply Le.loop|apply ZBQ|intro _))
def Z2r.s0 (n:Net) (s1:Int×(List (List Bound))):Option ((Int×(List (List Bound)))⊕((List (List Bound)))) :=
 (bif (decide (s1.1<(n.Cons.length:Int))) then
  (
   (
    (at? n.Cons s1.1).bind λx2=>
    (at? n.Forms x2.Form).bind λx3=>
    (Z6c x3 x2.Range).bind λx4=>
    (
     (at? s1.2 x2.X).bind λx5=>
     (at? x5 x2.Y).bind λx6=>
     (bif (Z0j x4.2 x6) then
      (at? s1.2 x2.X).bind λx7=>
      (at? x7 x2.Y).bind λx8=>
      some (s1.2.set (x2.X).toNat (x7.set (x2.Y).toNat x4.2))
     else
      some s1.2)).bind λ(y4:(List (List Bound)))=>
    (at? y4 x2.Y).bind λx9=>
    (at? x9 x2.X).bind λx10=>
    (bif (Z0j ((Z8 x4.1).1) x10) then
     (at? y4 x2.Y).bind λx11=>
     (at? x11 x2.X).bind λx12=>
     some (y4.set (x2.Y).toNat (x11.set (x2.X).toNat ((Z8 x4.1).1)))
    else
     some y4)).bind λ(y3:(List (List Bound)))=>
   some y3).bind λ(y2:(List (List Bound)))=>
  some (.inl ((w64 (s1.1+1)),y2))
 else
  some (.inr s1.2))
theorem ZA4 {n:Net} {s1:Int×(List (List Bound))}:Le (Z2r.s0 n s1) (Z1N.s0 n s1):=by
 unfold Z2r.s0 Z1N.s0
 repeat' (with_reducible (first|exact Le.refl _|apply Le.bind|apply Le.cond|apply ZBF|intro _))
def Z2r (n:Net):Option ((List (List Bound))) :=
 (Z3h n.Vars).bind λx1=>
 (Z0r (Z2r.s0 n) (0,x1.1)).bind λ(y1:(List (List Bound)))=>
 some y1
theorem ZCQ {n:Net}:Le (Z2r n) (Z1N n):=by
 unfold Z2r Z1N
 repeat' (with_reducible (first|exact Le.refl _|apply Le.bind|apply Le.loop|apply evle_stp_NewS|apply ZA4|intro _))
def Z8H (n:Net) (c:Con) (d:(List (List Bound))):Option (Range×Bool) :=
 (at? d c.Y).bind λx1=>
 (at? x1 c.X).bind λx2=>
 (at? n.Forms c.Form).bind λx3=>
 (at? d c.X).bind λx4=>
 (at? x4 c.Y).bind λx5=>
 (Z6J x3 ((Z8 x2).1) x5).bind λx6=>
 (bif ((!x6.2.1)||(x6.2.2 != 0)) then
  some ((Range.mk 0 0 false false),false)
 else
  (Z7l c.Range x6.1).bind λx7=>
  some (x7.1,x7.2))
theorem ZCv {n:Net} {c:Con} {d:(List (List Bound))}:Le (Z8H n c d) (Z5K n c d):=by
 unfold Z8H Z5K
 repeat' (with_reducible (first|exact Le.refl _|apply Le.bind|apply Le.cond|apply ZBm|apply ZDA|intro _))
def Z2k.s1 (n:Net) (x2:(List (List Bound))×Bool×Int) (x4:(List Con)) (s2:Int×(List Con)):Option ((Int×(List Con))⊕(Jx ((List Con)) (Net×(List (List Bound))×Bool))) :=
 (bif (decide (s2.1<(x4.length:Int))) then
  (at? s2.2 s2.1).bind λx5=>
  (Z8H (Net.mk n.Vars n.Forms s2.2) x5 x2.1).bind λx6=>
  (bif (!x6.2) then
   some (.inr (.ret ((Net.mk 0 [] []),[],false)))
  else
   (at? s2.2 s2.1).bind λx7=>
   some (.inl ((w64 (s2.1+1)),(s2.2.set (s2.1).toNat (Con.mk x7.X x7.Y x7.Form x6.1)))))
 else
  some (.inr (.go s2.2)))
theorem Z9w {n:Net} {x2:(List (List Bound))×Bool×Int} {x4:(List Con)} {s2:Int×(List Con)}:Le (Z2k.s1 n x2 x4 s2) (Zx.s1 n x2 x4 s2):=by
 unfold Z2k.s1 Zx.s1
 repeat' (with_reducible (first|exact Le.refl _|apply Le.bind|apply Le.cond|apply ZCv|intro _))
def Z2k (n:Net):Option (Net×(List (List Bound))×Bool) :=
 (Z2r n).bind λx1=>
 (Z74 x1).bind λx2=>
 (bif (!x2.2.1) then
  some ((Net.mk 0 [] []),[],false)
 else
  (bif (n.Cons.isEmpty) then
   (Z0r (Zx.s0 n) ()).bind λ(y1:Unit)=>
   some (n,x2.1,true)
  else
   (Z0g n.Cons).bind λx4=>
   (Z0r (Z2k.s1 n x2 x4) (0,x4)).bind λ(y2:Jx ((List Con)) (Net×(List (List Bound))×Bool))=>
   y2.elim (λr'=>
     some r') λa2=>
   some ((Net.mk n.Vars n.Forms a2),x2.1,true)))
theorem ZCa {n:Net}:Le (Z2k n) (Zx n):=by
 unfold Z2k Zx
 repeat' (with_reducible (first|exact Le.refl _|apply Le.bind|apply Le.cond|apply Le.elim|apply Le.loop|apply ZCQ|apply ZCW|apply Z9w|intro _))
def Z2v (s1':(List Con)) (s2':(List Con)):Option (Bool) :=
 (bif ((s1'.length:Int) != (s2'.length:Int)) then
  some false
 else
  (Z0r (Z0F.s0 s1' s2') 0).bind λ(y1:Jx (Unit) (Bool))=>
  y1.elim (λr'=>
    some r') λa2=>
  some true)
theorem Z6N {s1':(List Con)} {s2':(List Con)}:Le (Z2v s1' s2') (Z0F s1' s2'):=by
 unfold Z2v Z0F
 repeat' (with_reducible (first|exact Le.refl _|apply Le.bind|apply Le.cond|apply Le.elim|apply Le.loop|intro _))
def Z2Z.s0 (rounds:Int) (s1:Int×Int×(List Form)×(List Con)×(List (List Bound))×Int):Option ((Int×Int×(List Form)×(List Con)×(List (List Bound))×Int)⊕(Jx (Int×Int×(List Form)×(List Con)×(List (List Bound))×Int) (Spread×Int))) :=
 (bif ((decide (s1.2.2.2.2.2<rounds))&&(s1.1==3)) then
  (
   (Z2k (Net.mk s1.2.1 s1.2.2.1 s1.2.2.2.1)).bind λx2=>
   (bif (!x2.2.2) then
    some (.ret ((Spread.mk 2 (Net.mk 0 [] []) [] (w64 (s1.2.2.2.2.2+1))),0))
   else
    (
     (Z2v x2.1.Cons s1.2.2.2.1).bind λx3=>
     (bif x3 then
      some (1,(w64 (s1.2.2.2.2.2+1)))
     else
      some (s1.1,(w64 (s1.2.2.2.2.2+1))))).bind λ(y3:Int×Int)=>
    some (.go (y3.1,x2.1.Vars,x2.1.Forms,x2.1.Cons,x2.2.1,y3.2)))).bind λ(y2:Jx (Int×Int×(List Form)×(List Con)×(List (List Bound))×Int) (Spread×Int))=>
  y2.elim (λr'=>
    some (.inr (.ret r'))) λa3=>
  some (.inl (a3.1,a3.2.1,a3.2.2.1,a3.2.2.2.1,a3.2.2.2.2.1,a3.2.2.2.2.2))
 else
  some (.inr (.go (s1.1,s1.2.1,s1.2.2.1,s1.2.2.2.1,s1.2.2.2.2.1,s1.2.2.2.2.2))))
theorem ZBg {rounds:Int} {s1:Int×Int×(List Form)×(List Con)×(List (List Bound))×Int}:Le (Z2Z.s0 rounds s1) (Z3O.s0 rounds s1):=by
 unfold Z2Z.s0 Z3O.s0
 repeat' (with_reducible (first|exact Le.refl _|apply Le.bind|apply Le.cond|apply Le.elim|apply ZCa|apply Z6N|intro _))
def Z2Z (n:Net) (rounds:Int):Option (Spread×Int) :=
 (Z7o n).bind λx1=>
 (bif (x1 != 0) then
  some ((Spread.mk 0 (Net.mk 0 [] []) [] 0),230)
 else
  (bif ((decide (rounds<1))||(decide (rounds>1000))) then
   some ((Spread.mk 0 (Net.mk 0 [] []) [] 0),2)
  else
   (Z0r (Z2Z.s0 rounds) (3,n.Vars,n.Forms,n.Cons,[],0)).bind λ(y1:Jx (Int×Int×(List Form)×(List Con)×(List (List Bound))×Int) (Spread×Int))=>
   y1.elim (λr'=>
     some r') λa4=>
   some ((Spread.mk a4.1 (Net.mk a4.2.1 a4.2.2.1 a4.2.2.2.1) a4.2.2.2.2.1 a4.2.2.2.2.2),0)))
theorem evle_prop_Run {n:Net} {rounds:Int}:Le (Z2Z n rounds) (Z3O n rounds):=by
 unfold Z2Z Z3O
 repeat' (with_reducible (first|exact Le.refl _|apply Le.bind|apply Le.cond|apply Le.elim|apply Le.loop|apply ZCn|apply ZBg|intro _))
def Z3b:Option (Bool) :=
 (Z2Z (ZM (Con.mk 0 0 0 (Range.mk 0 0 false false))) 10).bind λx1=>
 (Z2Z (ZM (Con.mk 0 2 0 (Range.mk 20 0 true false))) 10).bind λx2=>
 (at? ((ZM (Con.mk 0 2 1 (Range.mk 0 0 false false))).Cons) 2).bind λx3=>
 (Z2Z (Net.mk ((ZM (Con.mk 0 2 1 (Range.mk 0 0 false false))).Vars) ((ZM (Con.mk 0 2 1 (Range.mk 0 0 false false))).Forms) [(Con.mk 0 2 0 (ZS 3 10)),x3]) 10).bind λx4=>
 (
  (bif (((((((x1.2 != 0)||(x1.1.Kind != 1))||((x1.1.Ticks.length:Int) != 3))||(x2.2 != 0))||(x2.1.Kind != 2))||(x4.2 != 0))||((x4.1.Net.Cons.length:Int) != 2)) then
   some true
  else
   (at? x1.1.Ticks 0).bind λx5=>
   some ((x5.length:Int) != 3))).bind λ(y1:Bool)=>
 (
  (bif y1 then
   some true
  else
   (at? x1.1.Ticks 2).bind λx6=>
   some ((x6.length:Int) != 3))).bind λ(y2:Bool)=>
 (bif y2 then
  some false
 else
  (at? x1.1.Ticks 0).bind λx7=>
  (at? x7 2).bind λx8=>
  (
   (bif ((x8.Inf==0)&&((x8.N==14)&&true)) then
    (at? x1.1.Ticks 2).bind λx9=>
    (at? x9 0).bind λx10=>
    some ((x10.Inf==0)&&((x10.N==(-5))&&true))
   else
    some false)).bind λ(y3:Bool)=>
  (
   (bif y3 then
    (at? x4.1.Net.Cons 1).bind λx11=>
    some ((x11.Range.Low==((ZS 0 2).Low))&&((x11.Range.High==((ZS 0 2).High))&&((x11.Range.HasLow==((ZS 0 2).HasLow))&&((x11.Range.HasHigh==((ZS 0 2).HasHigh))&&true))))
   else
    some false)).bind λ(y4:Bool)=>
  some y4)
theorem Z8D:Le (Z3b) (Z2a):=by
 unfold Z3b Z2a
 repeat' (with_reducible (first|exact Le.refl _|apply Le.bind|apply Le.cond|apply evle_prop_Run|intro _))
theorem Z7q:Z3b=some true:=by kernel_rfl
theorem Z80:Z2a=some true:=Z8D _ Z7q
end
end Go.Dn

namespace Go.Dn
open Go Go.Proofs
set_option maxRecDepth 100000
set_option maxHeartbeats 4000000
abbrev vl {α:Type} (c:α->List FV) (x:List α):PV:=.v (.sl (x.map c))
abbrev vi (x:Int):PV:=.v (.int .i64 x)
abbrev vu (x:Int):PV:=.v (.int .u64 x)
abbrev vb (x:Bool):PV:=.v (.bool x)
section
theorem Ops.wt {X:Ctx} {n:Nat} {dr:Bool} {ops:Array Oper} {base i:Nat} {l:List Oper} {e:Env} {G:Heap} {K:Env->Heap->Prop} {op:Op} {t:TypeId} {p:String} {af:Array Edge} {j:Nat} {g:Tmp} {w:Bool} {dst:Option Tmp} (hg:(ops[j]?).bind (·.dst)=some g) (he:e g = .v (.bool w)) (hk:Ops X n dr ops base i (⟨dst,op,t,p,af,none⟩::l) e G K):Ops X n dr ops base i (⟨dst,op,t,p,af,some (j,w)⟩::l) e G K:=.wanted hg he hk
variable {X:Ctx} {n:Nat} {dr:Bool} {ops:Array Oper} {base i:Nat} {l:List Oper} {e:Env} {G:Heap} {K:Env->Heap->Prop} {d:Nat} {t t1 t2:TypeId} {p:String} {af:Array Edge} {x y:Operand} {lo hi:Nat} {L:List Res}
theorem Ops.mv (v:PV) (hx:Z0 X e x=some v) (hd:Nat.blt d n=true) (hk:Ops X n dr ops base (i+1) l (set e d v) G K):Ops X n dr ops base i (⟨some d,.move x,t,p,af,none⟩::l) e G K:=.move hx hd hk
theorem Ops.av (v:PV) (hx:Z0 X e x=some v) (hd:Nat.blt d n=true) (hk:Ops X n dr ops base (i+1) l (set e d v) G K):Ops X n dr ops base i (⟨some d,.assign x,t,p,af,none⟩::l) e G K:=.assign hx hd hk
theorem Ops.it {op:BinOp} {k:IntKind} (m m':Int) (r:FV) (hx:Z0 X e x=some (.v (.int k m))) (hy:Z0 X e y=some (.v (.int k m'))) (hop:(op != .shl&&op != .shr)=true) (hr:Z8t op k m m'=some r) (hd:Nat.blt d n=true) (hk:Ops X n dr ops base (i+1) l (set e d (.v r)) G K):Ops X n dr ops base i (⟨some d,.binOp op t1 x y t2,t,p,af,none⟩::l) e G K:=.int hx hy hop hr hd hk
theorem Ops.xt (v:PV) {vs:List PV} {j:Nat} (hx:Z0 X e x=some (.tup vs)) (hj:vs[j]? = some v) (hd:Nat.blt d n=true) (hk:Ops X n dr ops base (i+1) l (set e d v) G K):Ops X n dr ops base i (⟨some d,.extract x j,t,p,af,none⟩::l) e G K:=.extract hx hj hd hk
theorem Ops.ld (v:PV) {id ver off:Nat} {te:TypeId} {cells:List PV} (H:Has G lo hi L) (k:Nat) (hk:L[k]? = some (.blk id te cells)) (hv:cells.length=ver) (hx:Z0 X e x=some (.ptr id ver off)) (hg:tagg X.P t1=some false) (hc:cells[off]? = some v) (ha:dr=true->Seen ops base i id false) (hd:Nat.blt d n=true) (hk':Ops X n dr ops base (i+1) l (set e d v) G K):Ops X n dr ops base i (⟨some d,.load t1 x,t,p,af,none⟩::l) e G K:=.loadH H k hk hv hx hg hc ha hd hk'
end
theorem sk {α:Type} {a b:α} (h:some a=some b):b=a:=(Option.some.inj h).symm
theorem V {α:Sort _} {a:α}:a=a:=rfl
theorem U:True:=trivial
theorem Has.wk {G:Heap} {lo hi:Nat} {L:List Res} (H:Has G lo hi L) {lo':Nat} (h:lo<=lo'):Has G lo' hi L:=H.weak h (YB _)
abbrev vN (x:Net):List PV:=[vi x.Vars,vl Form.cs x.Forms,vl Con.cs x.Cons]
abbrev vC (x:Con):List PV:=[vi x.X,vi x.Y,vi x.Form,vi x.Range.Low,vi x.Range.High,vb x.Range.HasLow,vb x.Range.HasHigh]
abbrev vR (x:Range):List PV:=[vi x.Low,vi x.High,vb x.HasLow,vb x.HasHigh]
theorem sj {α:Type} {a b:α} (h:some a=some b):a=b:=Option.some.inj h
abbrev vF (f:Form):List PV:=[vi f.Period,vi f.Count,vl (cL Span.cs) f.Core,vl Granule.cs f.Odd]
abbrev vG (f:size_form):List PV:=[vi f.Form.Period,vi f.Form.Count,vl (cL Span.cs) f.Form.Core,vl Granule.cs f.Form.Odd,vl size_spot.cs f.spots]
theorem Z3y {a:prop_end} {b:prop_end} {there:prop_end->Option Bool} {more:prop_end->prop_end->Option Bool} {C:List Res} {cv0:PV} (hs0:cv0.one=true) (hp0:cv0.pure=true->C=[]) (hf0:∀ z0 y,there z0=some y->CloH CX cv0 [(.agg (vs (prop_end.cs z0)))] (vb y) C) {cv1:PV} (hs1:cv1.one=true) (hp1:cv1.pure=true->C=[]) (hf1:∀ z0 z1 y,more z0 z1=some y->CloH CX cv1 [(.agg (vs (prop_end.cs z0))),(.agg (vs (prop_end.cs z1)))] (vb y) C) {r:prop_end} (h:Zv a b there more=some r):FnH CX 24 [(.agg (vs (prop_end.cs a))),(.agg (vs (prop_end.cs b))),cv0,cv1] (.agg (vs (prop_end.cs r))) C:=by
 refine FnH.of Tryz.func24 V V V V (Z2A V (Z2A V (Z2A (Z1g hs0) (Z2A (Z1g hs1) all_nil)))) V (λh=>hp0 (Z26 h 2 V)) ?_;intro G L hC H;unfold Zv at h;refine .tR 3 V H λb1 G H=>(.bxc (cs:=[(vi a.n),(vb a.there)]) H V V V λG H=>(.bxc (cs:=[(vi b.n),(vb b.there)]) H V V V λG H=>(.alc (cs:=[(vi 0),(vb false)]) H V V λG H=>(.na H λH=>(.then (.tR 15 V H λb2 G H=>(.m1 cv0 V V (.LV [(vi b.n),(vb b.there)] H 1 V ?_))))))));obtain ⟨x1,q1,h⟩:=bs h;refine .callV (cv:=cv0) (ys:=[(.agg (vs (prop_end.cs b)))]) (r:=(vb x1)) H V V (hf0 b _ q1) hC.push.push.push nofun V λG H=>(.mV V ?_);obtain ⟨y1,hj1,h⟩:=bs h;refine .md H 11 [(23,(vb y1)),(4,(.ptr (b1+0) 2 0)),(5,(.ptr (b1+1) 2 0)),(8,(.ptr (b1+2) 2 0))] (.blk (b1+2) 68 [(vi 0),(vb false)] :: .blk (b1+1) 68 [(vi b.n),(vb b.there)] :: .blk (b1+0) 68 [(vi a.n),(vb a.there)]::L) V ?_ λe G H=>?_
 ·refine .sp hj1 V ?_ ?_<;>intro h
  ·refine .m1 cv0 V V (.LV [(vi a.n),(vb a.there)] H 2 V (.wt V V ?_));obtain ⟨x2,q2,h⟩:=bs h;refine .callV (cv:=cv0) (ys:=[(.agg (vs (prop_end.cs a)))]) (r:=(vb x2)) H V V (hf0 a _ q2) hC.push.push.push nofun V λG H=>(.tV V (.mV V ?_));obtain ⟨y2,hj2,h⟩:=bs h;refine .md H 5 [(22,(vb y2)),(4,(.ptr (b1+0) 2 0)),(5,(.ptr (b1+1) 2 0)),(8,(.ptr (b1+2) 2 0)),(12,(vb true))] (.blk (b1+2) 68 [(vi 0),(vb false)] :: .blk (b1+1) 68 [(vi b.n),(vb b.there)] :: .blk (b1+0) 68 [(vi a.n),(vb a.there)]::L) V ?_ λe G H=>?_
   ·refine .sp hj2 V ?_ ?_<;>intro h
    ·refine .ps 4 V (.kT V (.nil ?_));obtain rfl:=sj h;exact ⟨EI V,H.wk (by omega)⟩
    refine .m1 cv1 V V (.LV [(vi b.n),(vb b.there)] H 1 V (.LV [(vi a.n),(vb a.there)] H 2 V (.wt V V ?_)));obtain ⟨x3,q3,h⟩:=bs h;refine .callV (cv:=cv1) (ys:=[(.agg (vs (prop_end.cs b))),(.agg (vs (prop_end.cs a)))]) (r:=(vb x3)) H V V (hf1 b a _ q3) hC.push.push.push nofun V λG H=>(.kF V (.nil ?_));obtain rfl:=sj h;exact ⟨EI V,H.wk (by omega)⟩
   refine .kT V (.nil ?_);obtain rfl:=sj h;exact ⟨EI V,H.wk (by omega)⟩
  refine .ps 10 V (.kF V (.nil ?_));obtain rfl:=sj h;exact ⟨EI V,H.wk (by omega)⟩
 refine .na H λH=>?_;refine .wh h V ?_ ?_<;>intro h
 ·refine .tR 2 V H λb3 G H=>(.LV [(vi b.n),(vb b.there)] H 1 V (.sV [(vi b.n),(vb b.there)] H 0 V λG H=>(.na H λH=>(.ret ?_))));obtain rfl:=sj h;exact (EndsH.H (xs:=[(.agg [(vi b.n),(vb b.there)])]) (.inr V) H (.agg (cs:=[(vi b.n),(vb b.there)]) 0 V V V V V V V .nil) (.one (.p V)) 3 V)
 refine .skip (.tR 2 V H λb4 G H=>(.LV [(vi a.n),(vb a.there)] H 2 V (.sV [(vi a.n),(vb a.there)] H 0 V λG H=>(.na H λH=>(.ret ?_)))));obtain rfl:=sj h;exact (EndsH.H (xs:=[(.agg [(vi a.n),(vb a.there)])]) (.inr V) H (.agg (cs:=[(vi a.n),(vb a.there)]) 0 V V V V V V V .nil) (.one (.p V)) 3 V)
theorem Z98 {e':prop_end} {r:Bool} (h:Z29 e'=r):Fn CX 23 [(.agg (vs (prop_end.cs e')))] (vb r):=by
 refine Fn.go Tryz.func23 V λG H=>?_;unfold Z29 at h;refine .tR 2 V H λb1 G H=>(.bxc (cs:=[(vi e'.n),(vb e'.there)]) H V V V λG H=>(.aV V (.na H λH=>(.tR 3 V H λb2 G H=>(.fV H 0 V (.lV H 0 V (.aV V (.na H λH=>?_))))))));refine .ret ?_;subst h;exact Ends.eR V
theorem ZDb {a:prop_end} {b:prop_end} {r:Bool} (h:Z4U a b=r):Fn CX 25 [(.agg (vs (prop_end.cs a))),(.agg (vs (prop_end.cs b)))] (vb r):=by
 refine Fn.go Tryz.func25 V λG H=>?_;unfold Z4U at h;refine .tR 3 V H λb1 G H=>(.bxc (cs:=[(vi a.n),(vb a.there)]) H V V V λG H=>(.bxc (cs:=[(vi b.n),(vb b.there)]) H V V V λG H=>(.aV V (.na H λH=>(.tR 6 V H λb2 G H=>(.fV H 1 V (.lV H 1 V (.fV H 0 V ?_))))))));refine .lV H 0 V (.iV V (.aV V (.na H λH=>(.ret ?_))));subst h;exact Ends.eR V
theorem ZDw {a:prop_end} {b:prop_end} {r:Bool} (h:Z4Z a b=r):Fn CX 26 [(.agg (vs (prop_end.cs a))),(.agg (vs (prop_end.cs b)))] (vb r):=by
 refine Fn.go Tryz.func26 V λG H=>?_;unfold Z4Z at h;refine .tR 3 V H λb1 G H=>(.bxc (cs:=[(vi a.n),(vb a.there)]) H V V V λG H=>(.bxc (cs:=[(vi b.n),(vb b.there)]) H V V V λG H=>(.aV V (.na H λH=>(.tR 6 V H λb2 G H=>(.fV H 1 V (.lV H 1 V (.fV H 0 V ?_))))))));refine .lV H 0 V (.iV V (.aV V (.na H λH=>(.ret ?_))));subst h;exact Ends.eR V
theorem ZB0 {a:Range} {b:Range} {r:Range×Bool} (h:Z3s a b=some r):Fn CX 7 [(.agg (vs (Range.cs a))),(.agg (vs (Range.cs b)))] (.tup [(.agg (vs (Range.cs r.1))),(vb r.2)]):=by
 refine Fn.go Tryz.func7 V λG H=>?_;unfold Z3s at h;refine .tR 4 V H λb1 G H=>(.bxc (cs:=(vR a)) H V V V λG H=>(.bxc (cs:=(vR b)) H V V V λG H=>(.alc (cs:=[(vi 0),(vi 0),(vb false),(vb false)]) H V V λG H=>(.aV V (.na H λH=>(.tR 1 V H λb2 G H=>(.aV V (.na H λH=>?_))))))));refine .tR 14 V H λb3 G H=>(.fV H 2 V (.lV H 2 V (.fV H 2 V (.lV H 2 V (.bV [(vi a.Low),(vb a.HasLow)] V (.fV H 1 V (.lV H 1 V (.fV H 1 V ?_))))))));refine .lV H 1 V (.bV [(vi b.Low),(vb b.HasLow)] V (.mV V ?_));obtain ⟨x1,q1,h⟩:=bs h;refine .Z4V (ys:=[(.agg (vs (prop_end.cs (prop_end.mk a.Low a.HasLow)))),(.agg (vs (prop_end.cs (prop_end.mk b.Low b.HasLow)))),(.v (.fn 23)),(.v (.fn 25))]) (r:=(.agg [(vi x1.n),(vb x1.there)])) H V (Z3y (C:=[]) V (λ_=>V) (λz0 y hz=>(CloH.fn (Fn.toH (Z98 (Option.some.inj hz)) _))) V (λ_=>V) (λz0 z1 y hz=>(CloH.fn (Fn.toH (ZDb (Option.some.inj hz)) _))) q1) .nil nofun V λG H=>(.alc (cs:=[(vi 0),(vb false)]) H V V λG H=>(.sV [(vi x1.n),(vb x1.there)] H 0 V λG H=>(.na H λH=>(.tR 14 V H λb4 G H=>(.fV H 3 V (.lV H 3 V (.fV H 3 V (.lV H 3 V ?_))))))));refine .bV [(vi a.High),(vb a.HasHigh)] V (.fV H 2 V (.lV H 2 V (.fV H 2 V (.lV H 2 V (.bV [(vi b.High),(vb b.HasHigh)] V (.mV V ?_))))))
 obtain ⟨x2,q2,h⟩:=bs h;refine .Z4V (ys:=[(.agg (vs (prop_end.cs (prop_end.mk a.High a.HasHigh)))),(.agg (vs (prop_end.cs (prop_end.mk b.High b.HasHigh)))),(.v (.fn 23)),(.v (.fn 26))]) (r:=(.agg [(vi x2.n),(vb x2.there)])) H V (Z3y (C:=[]) V (λ_=>V) (λz0 y hz=>(CloH.fn (Fn.toH (Z98 (Option.some.inj hz)) _))) V (λ_=>V) (λz0 z1 y hz=>(CloH.fn (Fn.toH (ZDw (Option.some.inj hz)) _))) q2) .nil nofun V λG H=>(.alc (cs:=[(vi 0),(vb false)]) H V V λG H=>(.sV [(vi x2.n),(vb x2.there)] H 0 V λG H=>(.na H λH=>(.then (.tR 13 V H λb5 G H=>(.fV H 1 V (.lV H 1 V (.mV V ?_))))))));refine .md H 3 [(38,(vb (x1.there&&x2.there))),(4,(.ptr (b1+2) 4 0)),(7,(.ptr (b3+12) 2 0)),(8,(.ptr (b4+12) 2 0))] [.blk (b4+12) 68 [(vi x2.n),(vb x2.there)],.blk (b3+12) 68 [(vi x1.n),(vb x1.there)],.blk (b1+2) 27 [(vi 0),(vi 0),(vb false),(vb false)]] V ?_ λe G H=>?_
 ·refine .split V V ?_ ?_<;>intro hc1
  ·refine .fV H 0 V (.lV H 0 V (.kT V (.nil ?_)));exact ⟨⟨Z0k hc1,V,V,V,U⟩,((H.erase 4).erase 3).wk (by omega)⟩
  ·refine .ps 2 V (.kF V (.nil ?_));exact ⟨⟨Z0l hc1,V,V,V,U⟩,((H.erase 4).erase 3).wk (by omega)⟩
 refine .mV V ?_;refine .md H 6 [(45,(vb ((x1.there&&x2.there)&&(decide (x1.n>x2.n))))),(4,(.ptr (b1+2) 4 0)),(7,(.ptr (b3+12) 2 0)),(8,(.ptr (b4+12) 2 0))] [.blk (b4+12) 68 [(vi x2.n),(vb x2.there)],.blk (b3+12) 68 [(vi x1.n),(vb x1.there)],.blk (b1+2) 27 [(vi 0),(vi 0),(vb false),(vb false)]] V ?_ λe G H=>?_
 ·refine .split V V ?_ ?_<;>intro hc2
  ·refine .fV H 1 V (.lV H 1 V (.fV H 0 V (.lV H 0 V (.iV V (.kT V (.nil ?_))))));exact ⟨⟨Z0k hc2,V,V,V,U⟩,H.wk (by omega)⟩
  ·refine .ps 5 V (.kF V (.nil ?_));exact ⟨⟨Z0l hc2,V,V,V,U⟩,H.wk (by omega)⟩
 refine .na H λH=>?_;refine .wh h V ?_ ?_<;>intro h
 ·refine .tR 3 V H λb6 G H=>(.bV [(vi 0),(vi 0),(vb false),(vb false)] V (.sV [(vi 0),(vi 0),(vb false),(vb false)] H 2 V λG H=>(.aV V (.na H λH=>(.ret ?_)))));obtain rfl:=sj h;exact (Ends.H (xs:=[(.agg [(vi 0),(vi 0),(vb false),(vb false)]),(vb false)]) (.inr V) H (.agg (cs:=[(vi 0),(vi 0),(vb false),(vb false)]) 2 V V V V V V V (.tmp (v:=(vb false)) V .nil)) (.two (.cons (.p V) (.cons (.c (.v _)) .nil))))
 refine .skip (.tR 11 V H λb7 G H=>(.fV H 1 V (.lV H 1 V (.fV H 0 V (.lV H 0 V (.fV H 1 V (.lV H 1 V (.fV H 0 V ?_))))))));refine .lV H 0 V (.bV [(vi x1.n),(vi x2.n),(vb x1.there),(vb x2.there)] V (.sV [(vi x1.n),(vi x2.n),(vb x1.there),(vb x2.there)] H 2 V λG H=>(.aV V (.na H λH=>(.ret ?_)))));obtain rfl:=sj h;exact (Ends.H (xs:=[(.agg [(vi x1.n),(vi x2.n),(vb x1.there),(vb x2.there)]),(vb true)]) (.inr V) H (.agg (cs:=[(vi x1.n),(vi x2.n),(vb x1.there),(vb x2.there)]) 2 V V V V V V V (.tmp (v:=(vb true)) V .nil)) (.two (.cons (.p V) (.cons (.c (.v _)) .nil))))
theorem Z6P {a:Range} {b:Range} {r:Range×Bool} (h:Z1y a b=some r):Fn CX 18 [(.agg (vs (Range.cs a))),(.agg (vs (Range.cs b)))] (.tup [(.agg (vs (Range.cs r.1))),(vb r.2)]):=by
 refine Fn.go Tryz.func18 V λG H=>?_;unfold Z1y at h;refine .tR 4 V H λb1 G H=>(.bxc (cs:=(vR a)) H V V V λG H=>(.bxc (cs:=(vR b)) H V V V λG H=>(.alc (cs:=[(vi 0),(vi 0),(vb false),(vb false)]) H V V λG H=>(.aV V (.na H λH=>(.tR 3 V H λb2 G H=>(.LV (vR a) H 2 V (.alc (cs:=[(vi 0),(vi 0),(vb false),(vb false)]) H V V λG H=>?_))))))));refine .sV (vR a) H 0 V λG H=>(.na H λH=>(.then ?_));refine .jn h .normal (λy1=>[(2,(.ptr (b1+0) 4 0)),(3,(.ptr (b1+1) 4 0)),(4,(.ptr (b1+2) 4 0)),(6,(.ptr (b2+1) 4 0))]) (λy1=>[.blk (b2+1) 27 [(vi y1.1),(vi a.High),(vb y1.2),(vb a.HasHigh)],.blk (b1+2) 27 [(vi 0),(vi 0),(vb false),(vb false)],.blk (b1+1) 27 (vR b),.blk (b1+0) 27 (vR a)]) (λy1 h=>?_) λy1 e G H h=>?_
 ·refine .tR 14 V H λb3 G H=>(.fV H 2 V (.lV H 2 V (.mV V ?_)));refine .md H 11 [(21,(vb (b.HasLow&&((!a.HasLow)||(decide (b.Low>a.Low)))))),(2,(.ptr (b1+0) 4 0)),(3,(.ptr (b1+1) 4 0)),(4,(.ptr (b1+2) 4 0)),(6,(.ptr (b2+1) 4 0))] [.blk (b2+1) 27 (vR a),.blk (b1+2) 27 [(vi 0),(vi 0),(vb false),(vb false)],.blk (b1+1) 27 (vR b),.blk (b1+0) 27 (vR a)] rfl ?_ λe G H=>?_
  ·refine .split V V ?_ ?_<;>intro hc1
   ·refine .fV H 3 V (.lV H 3 V (.tV V (.mV V ?_)));refine .md H 6 [(20,(vb ((!a.HasLow)||(decide (b.Low>a.Low))))),(2,(.ptr (b1+0) 4 0)),(3,(.ptr (b1+1) 4 0)),(4,(.ptr (b1+2) 4 0)),(6,(.ptr (b2+1) 4 0)),(10,(vb true))] [.blk (b2+1) 27 (vR a),.blk (b1+2) 27 [(vi 0),(vi 0),(vb false),(vb false)],.blk (b1+1) 27 (vR b),.blk (b1+0) 27 (vR a)] rfl ?_ λe G H=>?_
    ·refine .split V V ?_ ?_<;>intro hc2
     ·refine .ps 5 V (.kT V (.nil ?_));exact ⟨⟨or_T hc2,V,V,V,V,V,U⟩,H.wk (by omega)⟩
     ·refine .fV H 2 V (.lV H 2 V (.fV H 3 V (.lV H 3 V (.iV V (.kF V (.nil ?_))))));exact ⟨⟨or_F hc2,V,V,V,V,V,U⟩,H.wk (by omega)⟩
    refine .kT V (.nil ?_);exact ⟨⟨Z0k hc1,V,V,V,V,U⟩,H.wk (by omega)⟩
   ·refine .ps 10 V (.kF V (.nil ?_));exact ⟨⟨Z0l hc1,V,V,V,V,U⟩,H.wk (by omega)⟩
  refine .na H λH=>?_;refine .wh h V ?_ ?_<;>intro h
  ·refine .Z5 6 V H λb4 G H=>(.fV H 2 V (.lV H 2 V (.fV H 0 V (.sV [(vi b.Low),(vi a.High),(vb a.HasLow),(vb a.HasHigh)] H 0 V λG H=>(.fV H 0 V (.sV [(vi b.Low),(vi a.High),(vb true),(vb a.HasHigh)] H 0 V λG H=>(.na H λH=>?_)))))));obtain rfl:=sj h;exact ⟨V,EI V,H⟩
  refine .skip ?_;obtain rfl:=sj h;exact ⟨V,EI V,H⟩
 refine .then ?_;refine .jn h .normal (λy2=>[(4,(.ptr (b1+2) 4 0)),(6,(.ptr (b2+1) 4 0))]) (λy2=>[.blk (b2+1) 27 [(vi y1.1),(vi y2.1),(vb y1.2),(vb y2.2)],.blk (b1+2) 27 [(vi 0),(vi 0),(vb false),(vb false)]]) (λy2 h=>?_) λy2 e G H h=>?_
 ·refine .tR 14 V H λb5 G H=>(.fV H 2 V (.lV H 2 V (.mV V ?_)));refine .md H 11 [(39,(vb (b.HasHigh&&((!a.HasHigh)||(decide (b.High<a.High)))))),(3,(.ptr (b1+1) 4 0)),(4,(.ptr (b1+2) 4 0)),(6,(.ptr (b2+1) 4 0))] [.blk (b2+1) 27 [(vi y1.1),(vi a.High),(vb y1.2),(vb a.HasHigh)],.blk (b1+2) 27 [(vi 0),(vi 0),(vb false),(vb false)],.blk (b1+1) 27 (vR b)] rfl ?_ λe G H=>?_
  ·refine .split V V ?_ ?_<;>intro hc4
   ·refine .fV H 3 V (.lV H 3 V (.tV V (.mV V ?_)));refine .md H 6 [(38,(vb ((!a.HasHigh)||(decide (b.High<a.High))))),(3,(.ptr (b1+1) 4 0)),(4,(.ptr (b1+2) 4 0)),(6,(.ptr (b2+1) 4 0)),(28,(vb true))] [.blk (b2+1) 27 [(vi y1.1),(vi a.High),(vb y1.2),(vb a.HasHigh)],.blk (b1+2) 27 [(vi 0),(vi 0),(vb false),(vb false)],.blk (b1+1) 27 (vR b)] rfl ?_ λe G H=>?_
    ·refine .split V V ?_ ?_<;>intro hc5
     ·refine .ps 5 V (.kT V (.nil ?_));exact ⟨⟨or_T hc5,V,V,V,V,U⟩,(H.erase 3).wk (by omega)⟩
     ·refine .fV H 2 V (.lV H 2 V (.fV H 3 V (.lV H 3 V (.iV V (.kF V (.nil ?_))))));exact ⟨⟨or_F hc5,V,V,V,V,U⟩,(H.erase 3).wk (by omega)⟩
    refine .kT V (.nil ?_);exact ⟨⟨Z0k hc4,V,V,V,U⟩,H.wk (by omega)⟩
   ·refine .ps 10 V (.kF V (.nil ?_));exact ⟨⟨Z0l hc4,V,V,V,U⟩,(H.erase 3).wk (by omega)⟩
  refine .na H λH=>?_;refine .wh h V ?_ ?_<;>intro h
  ·refine .Z5 6 V H λb6 G H=>(.fV H 2 V (.lV H 2 V (.fV H 0 V (.sV [(vi y1.1),(vi b.High),(vb y1.2),(vb a.HasHigh)] H 0 V λG H=>(.fV H 0 V (.sV [(vi y1.1),(vi b.High),(vb y1.2),(vb true)] H 0 V λG H=>(.na H λH=>?_)))))));obtain rfl:=sj h;exact ⟨V,EI V,(H.erase 2)⟩
  refine .skip ?_;obtain rfl:=sj h;exact ⟨V,EI V,(H.erase 2)⟩
 refine .then (.tR 13 V H λb7 G H=>(.fV H 0 V (.lV H 0 V (.mV V ?_))));refine .md H 3 [(49,(vb (y1.2&&y2.2))),(4,(.ptr (b1+2) 4 0)),(6,(.ptr (b2+1) 4 0))] [.blk (b2+1) 27 [(vi y1.1),(vi y2.1),(vb y1.2),(vb y2.2)],.blk (b1+2) 27 [(vi 0),(vi 0),(vb false),(vb false)]] V ?_ λe G H=>?_
 ·refine .split V V ?_ ?_<;>intro hc7
  ·refine .fV H 0 V (.lV H 0 V (.kT V (.nil ?_)));exact ⟨⟨Z0k hc7,V,V,U⟩,H.wk (by omega)⟩
  ·refine .ps 2 V (.kF V (.nil ?_));exact ⟨⟨Z0l hc7,V,V,U⟩,H.wk (by omega)⟩
 refine .mV V ?_;refine .md H 6 [(56,(vb ((y1.2&&y2.2)&&(decide (y1.1>y2.1))))),(4,(.ptr (b1+2) 4 0)),(6,(.ptr (b2+1) 4 0))] [.blk (b2+1) 27 [(vi y1.1),(vi y2.1),(vb y1.2),(vb y2.2)],.blk (b1+2) 27 [(vi 0),(vi 0),(vb false),(vb false)]] V ?_ λe G H=>?_
 ·refine .split V V ?_ ?_<;>intro hc8
  ·refine .fV H 0 V (.lV H 0 V (.fV H 0 V (.lV H 0 V (.iV V (.kT V (.nil ?_))))));exact ⟨⟨Z0k hc8,V,V,U⟩,H.wk (by omega)⟩
  ·refine .ps 5 V (.kF V (.nil ?_));exact ⟨⟨Z0l hc8,V,V,U⟩,H.wk (by omega)⟩
 refine .na H λH=>?_;refine .wh h V ?_ ?_<;>intro h
 ·refine .tR 3 V H λb8 G H=>(.bV [(vi 0),(vi 0),(vb false),(vb false)] V (.sV [(vi 0),(vi 0),(vb false),(vb false)] H 1 V λG H=>(.aV V (.na H λH=>(.ret ?_)))));obtain rfl:=sj h;exact (Ends.H (xs:=[(.agg [(vi 0),(vi 0),(vb false),(vb false)]),(vb false)]) (.inr V) H (.agg (cs:=[(vi 0),(vi 0),(vb false),(vb false)]) 1 V V V V V V V (.tmp (v:=(vb false)) V .nil)) (.two (.cons (.p V) (.cons (.c (.v _)) .nil))))
 refine .skip (.tR 3 V H λb9 G H=>(.LV [(vi y1.1),(vi y2.1),(vb y1.2),(vb y2.2)] H 0 V (.sV [(vi y1.1),(vi y2.1),(vb y1.2),(vb y2.2)] H 1 V λG H=>(.aV V (.na H λH=>(.ret ?_))))));obtain rfl:=sj h;exact (Ends.H (xs:=[(.agg [(vi y1.1),(vi y2.1),(vb y1.2),(vb y2.2)]),(vb true)]) (.inr V) H (.agg (cs:=[(vi y1.1),(vi y2.1),(vb y1.2),(vb y2.2)]) 1 V V V V V V V (.tmp (v:=(vb true)) V .nil)) (.two (.cons (.p V) (.cons (.c (.v _)) .nil))))
theorem ZB1 {f:Form} {r:Int} (h:Z0a f=some r):Fn CX 49 [(.agg (vs (Form.cs f)))] (vi r):=by
 refine Fn.go Tryz.func49 V λG H=>?_;unfold Z0a at h;refine .tR 2 V H λb1 G H=>(.bxc (cs:=(vF f)) H V V V λG H=>(.aV V (.na H λH=>(.tR 1 V H λb2 G H=>(.aV V (.na H λH=>(.then (.tR 4 V H λb3 G H=>?_))))))));refine .fV H 0 V (.lV H 0 V (.nV V (.mV V (.na H λH=>(.inBlock ?_)))));refine .lp h (λs1=>[(1,(.ptr (b1+0) 4 0)),(3,(vi s1.1)),(9,(vl (cL Span.cs) f.Core)),(10,(vi (f.Core.length:Int))),(11,(vi s1.2))]) (λs1=>[.blk (b1+0) 64 (vF f)]) (.exit 0) (λy1=>[(1,(.ptr (b1+0) 4 0)),(3,(vi y1))]) (λy1=>[.blk (b1+0) 64 (vF f)]) (EI V) H (λs1 e G H z h=>?_) λy1 e G H h=>?_
 ·unfold Z0a.s0 at h;refine .tR 1 V H λb4 G H=>(.iV V (.na H λH=>(.then ?_)));refine .wh h V ?_ ?_<;>intro h
  ·refine .skip (.then (.inBlock (.tR 3 V H λb5 G H=>?_)));obtain ⟨x1,q1,h⟩:=bs h;refine .jV q1 V (.pV V (.aV V (.na H λH=>(.Z5 5 V H λb6 G H=>(.mV V (.mV V (.nV V (.iV V ?_))))))));refine .aV V (.na H λH=>(.Z5 2 V H λb7 G H=>(.iV V (.mV V (.na H λH=>?_)))));obtain rfl:=sj h;exact ⟨V,EI V,H⟩
  refine .exit ?_;obtain rfl:=sj h;exact ⟨nofun,⟨V,EI V,H⟩⟩
 refine .then (.tR 4 V H λb8 G H=>(.fV H 0 V (.lV H 0 V (.nV V (.mV V (.na H λH=>(.inBlock ?_)))))));refine .lp h (λs2=>[(3,(vi s2.1)),(21,(vl Granule.cs f.Odd)),(22,(vi (f.Odd.length:Int))),(23,(vi s2.2))]) (λs2=>[]) (.exit 2) (λy2=>[(3,(vi y2))]) (λy2=>[]) (EI V) (H.erase 0) (λs2 e G H z h=>?_) λy2 e G H h=>?_
 ·unfold Z0a.s1 at h;refine .tR 1 V H λb9 G H=>(.iV V (.na H λH=>(.then ?_)));refine .wh h V ?_ ?_<;>intro h
  ·refine .skip (.then (.inBlock (.tR 4 V H λb10 G H=>?_)));obtain ⟨x2,q2,h⟩:=bs h;refine .jV q2 V (.qV [(.int .i64 x2.Index),(.sl (x2.Ticks.map Span.cs))] V (.alc (cs:=[(vi 0),.nils]) H V V λG H=>(.sV [(vi x2.Index),(vl Span.cs x2.Ticks)] H 0 V λG H=>(.na H λH=>(.Z5 6 V H λb11 G H=>(.mV V (.fV H 0 V (.lV H 0 V ?_))))))));refine .nV V (.iV V (.aV V (.na H λH=>(.Z5 2 V H λb12 G H=>(.iV V (.mV V (.na H λH=>?_)))))));obtain rfl:=sj h;exact ⟨V,EI V,(H.erase 0)⟩
  refine .exit ?_;obtain rfl:=sj h;exact ⟨nofun,⟨V,EI V,H⟩⟩
 refine .tR 2 V H λb13 G H=>(.mV V (.aV V (.na H λH=>(.ret ?_))));obtain rfl:=sj h;exact Ends.eR V
theorem Z9T {f:Form} {r:Bool} (h:Z32 f=some r):Fn CX 60 [(.agg (vs (Form.cs f)))] (vb r):=by
 refine Fn.go Tryz.func60 V λG H=>?_;unfold Z32 at h;refine .tR 2 V H λb1 G H=>(.bxc (cs:=(vF f)) H V V V λG H=>(.aV V (.na H λH=>(.tR 16 V H λb2 G H=>(.fV H 0 V (.lV H 0 V (.nV V (.iV V ?_))))))));refine .mV V ?_;refine .md H 5 [(12,(vb ((decide ((f.Core.length:Int)<=12))&&(decide ((f.Odd.length:Int)<=8))))),(1,(.ptr (b1+0) 4 0))] [.blk (b1+0) 64 (vF f)] V ?_ λe G H=>?_
 ·refine .split V V ?_ ?_<;>intro hc1
  ·refine .fV H 0 V (.lV H 0 V (.nV V (.iV V (.kT V (.nil ?_)))));exact ⟨⟨Z0k hc1,V,U⟩,H.wk (by omega)⟩
  ·refine .ps 4 V (.kF V (.nil ?_));exact ⟨⟨Z0l hc1,V,U⟩,H.wk (by omega)⟩
 refine .mV V ?_;obtain ⟨y1,hj1,h⟩:=bs h;refine .md H 4 [(17,(vb y1))] [] V ?_ λe G H=>?_
 ·refine .sp hj1 V ?_ ?_<;>intro h
  ·refine .LV (vF f) H 0 V (.wt V V ?_);obtain ⟨x1,q1,h⟩:=bs h;refine .cV (ZB1 q1) V (.iV V (.kT V (.nil ?_)));obtain rfl:=sj h;exact ⟨EI V,(H.erase 0).wk (by omega)⟩
  refine .ps 3 V (.kF V (.nil ?_));obtain rfl:=sj h;exact ⟨EI V,(H.erase 0).wk (by omega)⟩
 refine .aV V (.na H λH=>(.ret ?_));obtain rfl:=sj h;exact Ends.eR V
theorem Z5O {t:Int} {r:Bool} (h:Z1A t=r):Fn CX 100 [(vi t)] (vb r):=by
 refine Fn.go Tryz.func100 V λG H=>?_;unfold Z1A at h;refine .tR 1 V H λb1 G H=>(.aV V (.na H λH=>(.tR 7 V H λb2 G H=>(.mV V (.iV V (.mV V ?_))))));refine .md H 3 [(8,(vb ((decide (t>=(-1099511627776)))&&(decide (t<=1099511627776)))))] [] V ?_ λe G H=>?_
 ·refine .split V V ?_ ?_<;>intro hc1
  ·refine .mV V (.iV V (.kT V (.nil ?_)));exact ⟨⟨Z0k hc1,U⟩,H.wk (by omega)⟩
  ·refine .ps 2 V (.kF V (.nil ?_));exact ⟨⟨Z0l hc1,U⟩,H.wk (by omega)⟩
 refine .aV V (.na H λH=>(.ret ?_));subst h;exact Ends.eR V
theorem Z8s {l:(List Span)} {r:Bool} (h:Z0e l=some r):Fn CX 77 [(vl Span.cs l)] (vb r):=by
 refine Fn.go Tryz.func77 V λG H=>?_;unfold Z0e at h;refine .tR 1 V H λb1 G H=>(.aV V (.na H λH=>(.then (.tR 3 V H λb2 G H=>(.mV V (.nV V (.mV V (.na H λH=>?_))))))));refine .inBlock ?_;obtain ⟨y1,hj1,h⟩:=bs h;obtain ⟨n1,hj1⟩:=ZG.1 hj1;refine .mono (Runs.loopO hj1 (λs1 e G=>Z4 e [(0,(vl Span.cs l)),(5,(vl Span.cs l)),(6,(vi (l.length:Int))),(7,(vi s1))]/\Hs G []) (λy1 x e G=>(∃ a1,y1=(.go a1)/\x = .exit 0/\Z4 e []/\Hs G [])\/(∃ r',y1=(.ret r')/\x = .ret/\Ends CX Tryz.f77.results.toList (vb r') x e G)) ⟨EI V,H⟩ ?_) ?_
 ·intro s1 e G hI z h;obtain ⟨he,H⟩:=hI;obtain ⟨e,rfl⟩:=he.ex;unfold Z0e.s0 at h;refine .tR 1 V H λb3 G H=>(.iV V (.na H λH=>(.then ?_)));refine .wh h V ?_ ?_<;>intro h
  ·refine .skip (.then (.inBlock (.tR 6 V H λb4 G H=>(.mV V ?_))));obtain ⟨x1,q1,h⟩:=bs h;refine .jV q1 V (.qV [(.int .i64 x1.From),(.int .i64 x1.To)] V (.alc (cs:=[(vi 0),(vi 0)]) H V V λG H=>(.aV V (.sV [(vi x1.From),(vi x1.To)] H 0 V λG H=>(.na H λH=>(.then (.Z0C 33 V (by kernel_rfl) H λb5 G H B5=>(.Z1 H 0 V V V V V (so (B5 0 _ V _ V)) V ?_))))))));refine .ld (vi x1.From) H 0 V V V V V (so (B5 0 _ V _ V)) V (.cV (Z5O V) V (.tV V (.mV V ?_)));refine .md H 5 [(21,(vb ((!(Z1A x1.From))||(!(Z1A x1.To))))),(0,(vl Span.cs l)),(3,(vi s1)),(4,(.ptr (b4+3) 2 0)),(5,(vl Span.cs l)),(6,(vi (l.length:Int))),(7,(vi s1))] [.blk (b4+3) 108 [(vi x1.From),(vi x1.To)]] rfl ?_ λe G H=>?_
   ·refine .split V V ?_ ?_<;>intro hc2
    ·refine .ps 4 V (.kT V (.nil ?_));exact ⟨⟨or_T hc2,V,V,V,V,V,V,U⟩,H.wk (by omega)⟩
    ·refine .wt V V (.Z1 H 0 V V V V V (so (B5 0 _ V _ V)) V (.wt V V (.ld (vi x1.To) H 0 V V V V V (so (B5 0 _ V _ V)) V (.cV (Z5O V) V (.tV V (.kF V (.nil ?_)))))));exact ⟨⟨or_F hc2,V,V,V,V,V,V,U⟩,H.wk (by omega)⟩
   refine .mV V ?_;refine .md H 6 [(28,(vb (((!(Z1A x1.From))||(!(Z1A x1.To)))||(decide (x1.From>x1.To))))),(0,(vl Span.cs l)),(3,(vi s1)),(4,(.ptr (b4+3) 2 0)),(5,(vl Span.cs l)),(6,(vi (l.length:Int))),(7,(vi s1))] [.blk (b4+3) 108 [(vi x1.From),(vi x1.To)]] rfl ?_ λe G H=>?_
   ·refine .split V V ?_ ?_<;>intro hc3
    ·refine .ps 5 V (.kT V (.nil ?_));exact ⟨⟨or_T hc3,V,V,V,V,V,V,U⟩,H.wk (by omega)⟩
    ·refine .wt V V (.Z1 H 0 V V V V V (so (B5 0 _ V _ V)) V (.wt V V (.ld (vi x1.From) H 0 V V V V V (so (B5 0 _ V _ V)) V (.wt V V (.Z1 H 0 V V V V V (so (B5 0 _ V _ V)) V (.wt V V (.ld (vi x1.To) H 0 V V V V V (so (B5 0 _ V _ V)) V (.iV V ?_))))))));refine .kF V (.nil ?_);exact ⟨⟨or_F hc3,V,V,V,V,V,V,U⟩,H.wk (by omega)⟩
   refine .mV V ?_;obtain ⟨y2,hj2,h⟩:=bs h;refine .md H 15 [(44,(vb y2)),(0,(vl Span.cs l)),(5,(vl Span.cs l)),(6,(vi (l.length:Int))),(7,(vi s1))] [] V ?_ λe G H=>?_
   ·refine .sp hj2 V ?_ ?_<;>intro h
    ·refine .ps 14 V (.kT V (.nil ?_));obtain rfl:=sj h;exact ⟨EI V,(H.erase 0).wk (by omega)⟩
    refine .mV V (.iV V (.mV V ?_));obtain ⟨y3,hj3,h⟩:=bs h;refine .md H 11 [(43,(vb y3)),(0,(vl Span.cs l)),(5,(vl Span.cs l)),(6,(vi (l.length:Int))),(7,(vi s1)),(29,(vb false))] [] V ?_ λe G H=>?_
    ·refine .sp hj3 V ?_ ?_<;>intro h
     ·refine .wt V V (.Z1 H 0 V V V V V (so (B5 0 _ V _ V)) V (.wt V V (.ld (vi x1.From) H 0 V V V V V (so (B5 0 _ V _ V)) V (.mV V (.mV V (.iV V (.wt V V ?_)))))));obtain ⟨x2,q2,h⟩:=bs h;refine .jV q2 V (.wt V V (.Zd V V V V (.pV V (.iV V (.iV V (.kT V (.nil ?_)))))));obtain rfl:=sj h;exact ⟨EI V,(H.erase 0).wk (by omega)⟩
     refine .ps 10 V (.kF V (.nil ?_));obtain rfl:=sj h;exact ⟨EI V,(H.erase 0).wk (by omega)⟩
    refine .kF V (.nil ?_);obtain rfl:=sj h;exact ⟨EI V,H.wk (by omega)⟩
   refine .na H λH=>?_;refine .wh h V ?_ ?_<;>intro h
   ·refine .tR 1 V H λb6 G H=>(.aV V (.na H λH=>(.ret ?_)));obtain rfl:=sj h;exact ⟨nofun,(.inr ⟨_,V,V,(Ends.H (xs:=[(vb false)]) (.inr V) H (.tmp (v:=(vb false)) V .nil) (.one (.c (.v _))))⟩)⟩
   refine .skip (.Z5 2 V H λb7 G H=>(.iV V (.mV V (.na H λH=>?_))));obtain rfl:=sj h;exact ⟨V,EI V,H⟩
  refine .exit ?_;obtain rfl:=sj h;exact ⟨nofun,(.inl ⟨_,V,V,U,H⟩)⟩
 ·rintro x e G (⟨a2,rfl,rfl,he,H⟩|⟨r',rfl,rfl,hE⟩)
  ·replace h:=jgo h;obtain ⟨e,rfl⟩:=he.ex;refine .tR 1 V H λb8 G H=>(.aV V (.na H λH=>(.ret ?_)));obtain rfl:=sj h;exact Ends.eR V
  ·replace h:=jret h;obtain rfl:=sj h;exact hE
theorem Z5f {i:Int} {r:Bool} (h:Z1P i=r):Fn CX 78 [(vi i)] (vb r):=by
 refine Fn.go Tryz.func78 V λG H=>?_;unfold Z1P at h;refine .tR 1 V H λb1 G H=>(.aV V (.na H λH=>(.tR 7 V H λb2 G H=>(.mV V (.iV V (.mV V ?_))))));refine .md H 3 [(8,(vb ((decide (i>=(-1099511627776)))&&(decide (i<=1099511627776)))))] [] V ?_ λe G H=>?_
 ·refine .split V V ?_ ?_<;>intro hc1
  ·refine .mV V (.iV V (.kT V (.nil ?_)));exact ⟨⟨Z0k hc1,U⟩,H.wk (by omega)⟩
  ·refine .ps 2 V (.kF V (.nil ?_));exact ⟨⟨Z0l hc1,U⟩,H.wk (by omega)⟩
 refine .aV V (.na H λH=>(.ret ?_));subst h;exact Ends.eR V
theorem gran_shape_fn {f:Form} {r:Bool} (h:Zq f=some r):Fn CX 50 [(.agg (vs (Form.cs f)))] (vb r):=by
 refine Fn.go Tryz.func50 V λG H=>?_;unfold Zq at h;refine .tR 2 V H λb1 G H=>(.bxc (cs:=(vF f)) H V V V λG H=>(.aV V (.na H λH=>(.then (.tR 25 V H λb2 G H=>(.fV H 0 V (.lV H 0 V (.fV H 0 V ?_))))))));refine .lV H 0 V (.nV V (.iV V (.mV V ?_)));refine .md H 8 [(21,(vb ((f.Count != (f.Core.length:Int))||((f.Count==0) != (f.Period==0))))),(1,(.ptr (b1+0) 4 0))] [.blk (b1+0) 64 (vF f)] rfl ?_ λe G H=>?_
 ·refine .split V V ?_ ?_<;>intro hc1
  ·refine .ps 7 V (.kT V (.nil ?_));exact ⟨⟨or_T hc1,V,U⟩,H.wk (by omega)⟩
  ·refine .fV H 0 V (.lV H 0 V (.iV V (.fV H 0 V (.lV H 0 V (.iV V (.wt V V (.neB (b:=(f.Count==0)) (b':=(f.Period==0)) V V V V (.kF V ?_))))))));refine .nil ?_;exact ⟨⟨or_F hc1,V,U⟩,H.wk (by omega)⟩
 refine .mV V ?_;refine .md H 4 [(26,(vb (((f.Count != (f.Core.length:Int))||((f.Count==0) != (f.Period==0)))||(decide (f.Period<0))))),(1,(.ptr (b1+0) 4 0))] [.blk (b1+0) 64 (vF f)] rfl ?_ λe G H=>?_
 ·refine .split V V ?_ ?_<;>intro hc2
  ·refine .ps 3 V (.kT V (.nil ?_));exact ⟨⟨or_T hc2,V,U⟩,H.wk (by omega)⟩
  ·refine .fV H 0 V (.lV H 0 V (.iV V (.kF V (.nil ?_))));exact ⟨⟨or_F hc2,V,U⟩,H.wk (by omega)⟩
 refine .mV V ?_;refine .md H 4 [(31,(vb ((((f.Count != (f.Core.length:Int))||((f.Count==0) != (f.Period==0)))||(decide (f.Period<0)))||(decide (f.Period>1099511627776))))),(1,(.ptr (b1+0) 4 0))] [.blk (b1+0) 64 (vF f)] rfl ?_ λe G H=>?_
 ·refine .split V V ?_ ?_<;>intro hc3
  ·refine .ps 3 V (.kT V (.nil ?_));exact ⟨⟨or_T hc3,V,U⟩,H.wk (by omega)⟩
  ·refine .fV H 0 V (.lV H 0 V (.iV V (.kF V (.nil ?_))));exact ⟨⟨or_F hc3,V,U⟩,H.wk (by omega)⟩
 refine .na H λH=>?_;refine .wh h V ?_ ?_<;>intro h
 ·refine .tR 1 V H λb3 G H=>(.aV V (.na H λH=>(.ret ?_)));obtain rfl:=sj h;exact Ends.eR V
 refine .skip (.then (.tR 4 V H λb4 G H=>(.fV H 0 V (.lV H 0 V (.nV V (.mV V (.na H λH=>(.inBlock ?_))))))));obtain ⟨y1,hj1,h⟩:=bs h;obtain ⟨n1,hj1⟩:=ZG.1 hj1;refine .mono (Runs.loopO hj1 (λs1 e G=>Z4 e [(1,(.ptr (b1+0) 4 0)),(33,(vl (cL Span.cs) f.Core)),(34,(vi (f.Core.length:Int))),(35,(vi s1))]/\Hs G [.blk (b1+0) 64 (vF f)]) (λy1 x e G=>(∃ a1,y1=(.go a1)/\x = .exit 0/\Z4 e [(1,(.ptr (b1+0) 4 0))]/\Hs G [.blk (b1+0) 64 (vF f)])\/(∃ r',y1=(.ret r')/\x = .ret/\Ends CX Tryz.f50.results.toList (vb r') x e G)) ⟨EI V,H⟩ ?_) ?_
 ·intro s1 e G hI z h;obtain ⟨he,H⟩:=hI;obtain ⟨e,rfl⟩:=he.ex;unfold Zq.s0 at h;refine .tR 1 V H λb5 G H=>(.iV V (.na H λH=>(.then ?_)));refine .wh h V ?_ ?_<;>intro h
  ·refine .skip (.then (.inBlock (.tR 3 V H λb6 G H=>?_)));obtain ⟨x1,q1,h⟩:=bs h;refine .jV q1 V (.pV V (.aV V (.na H λH=>(.tR 3 V H λb7 G H=>(.mV V ?_)))));obtain ⟨x2,q2,h⟩:=bs h;refine .cV (Z8s q2) V (.tV V (.na H λH=>?_));refine .wh h V ?_ ?_<;>intro h
   ·refine .tR 1 V H λb8 G H=>(.aV V (.na H λH=>(.ret ?_)));obtain rfl:=sj h;exact ⟨nofun,(.inr ⟨_,V,V,(Ends.H (xs:=[(vb false)]) (.inr V) H (.tmp (v:=(vb false)) V .nil) (.one (.c (.v _))))⟩)⟩
   refine .skip (.Z5 2 V H λb9 G H=>(.iV V (.mV V (.na H λH=>?_))));obtain rfl:=sj h;exact ⟨V,EI V,H⟩
  refine .exit ?_;obtain rfl:=sj h;exact ⟨nofun,(.inl ⟨_,V,V,EI V,H⟩)⟩
 ·rintro x e G (⟨a2,rfl,rfl,he,H⟩|⟨r',rfl,rfl,hE⟩)
  ·replace h:=jgo h;obtain ⟨e,rfl⟩:=he.ex;refine .then (.tR 4 V H λb10 G H=>(.fV H 0 V (.lV H 0 V (.nV V (.mV V (.na H λH=>(.inBlock ?_)))))));obtain ⟨y2,hj2,h⟩:=bs h;obtain ⟨n2,hj2⟩:=ZG.1 hj2;refine .mono (Runs.loopO hj2 (λs2 e G=>Z4 e [(1,(.ptr (b1+0) 4 0)),(44,(vl Granule.cs f.Odd)),(45,(vi (f.Odd.length:Int))),(46,(vi s2))]/\Hs G [.blk (b1+0) 64 (vF f)]) (λy2 x e G=>(∃ a3,y2=(.go a3)/\x = .exit 2/\Z4 e []/\Hs G [])\/(∃ r',y2=(.ret r')/\x = .ret/\Ends CX Tryz.f50.results.toList (vb r') x e G)) ⟨EI V,H⟩ ?_) ?_
   ·intro s2 e G hI z h;obtain ⟨he,H⟩:=hI;obtain ⟨e,rfl⟩:=he.ex;unfold Zq.s1 at h;refine .tR 1 V H λb11 G H=>(.iV V (.na H λH=>(.then ?_)));refine .wh h V ?_ ?_<;>intro h
    ·refine .skip (.then (.inBlock (.tR 6 V H λb12 G H=>(.mV V ?_))));obtain ⟨x3,q3,h⟩:=bs h;refine .jV q3 V (.qV [(.int .i64 x3.Index),(.sl (x3.Ticks.map Span.cs))] V (.alc (cs:=[(vi 0),.nils]) H V V λG H=>(.aV V (.sV [(vi x3.Index),(vl Span.cs x3.Ticks)] H 0 V λG H=>(.na H λH=>(.then (.Z0C 26 V (by kernel_rfl) H λb13 G H B13=>(.Z1 H 0 V V V V V (so (B13 0 _ V _ V)) V ?_))))))));refine .ld (vl Span.cs x3.Ticks) H 0 V V V V V (so (B13 0 _ V _ V)) V ?_;obtain ⟨x4,q4,h⟩:=bs h;refine .cV (Z8s q4) V (.tV V (.mV V ?_));refine .md H 5 [(60,(vb ((!x4)||(!(Z1P x3.Index))))),(1,(.ptr (b1+0) 4 0)),(5,(vi s2)),(6,(.ptr (b12+3) 2 0)),(44,(vl Granule.cs f.Odd)),(45,(vi (f.Odd.length:Int))),(46,(vi s2))] [.blk (b12+3) 99 [(vi x3.Index),(vl Span.cs x3.Ticks)],.blk (b1+0) 64 (vF f)] rfl ?_ λe G H=>?_
     ·refine .split V V ?_ ?_<;>intro hc8
      ·refine .ps 4 V (.kT V (.nil ?_));exact ⟨⟨or_T hc8,V,V,V,V,V,V,U⟩,H.wk (by omega)⟩
      ·refine .wt V V (.Z1 H 0 V V V V V (so (B13 0 _ V _ V)) V (.wt V V (.ld (vi x3.Index) H 0 V V V V V (so (B13 0 _ V _ V)) V (.cV (Z5f V) V (.tV V (.kF V (.nil ?_)))))));exact ⟨⟨or_F hc8,V,V,V,V,V,V,U⟩,H.wk (by omega)⟩
     refine .mV V ?_;obtain ⟨y3,hj3,h⟩:=bs h;refine .md H 15 [(76,(vb y3)),(1,(.ptr (b1+0) 4 0)),(44,(vl Granule.cs f.Odd)),(45,(vi (f.Odd.length:Int))),(46,(vi s2))] [.blk (b1+0) 64 (vF f)] V ?_ λe G H=>?_
     ·refine .sp hj3 V ?_ ?_<;>intro h
      ·refine .ps 14 V (.kT V (.nil ?_));obtain rfl:=sj h;exact ⟨EI V,(H.erase 0).wk (by omega)⟩
      refine .mV V (.iV V (.mV V ?_));obtain ⟨y4,hj4,h⟩:=bs h;refine .md H 11 [(75,(vb y4)),(1,(.ptr (b1+0) 4 0)),(44,(vl Granule.cs f.Odd)),(45,(vi (f.Odd.length:Int))),(46,(vi s2)),(61,(vb false))] [.blk (b1+0) 64 (vF f)] V ?_ λe G H=>?_
      ·refine .sp hj4 V ?_ ?_<;>intro h
       ·refine .wt V V (.Z1 H 0 V V V V V (so (B13 0 _ V _ V)) V (.wt V V (.ld (vi x3.Index) H 0 V V V V V (so (B13 0 _ V _ V)) V (.wt V V (.Z1 H 1 V V V V V (so (B13 1 _ V _ V)) V (.wt V V (.ld (vl Granule.cs f.Odd) H 1 V V V V V (so (B13 1 _ V _ V)) V (.mV V ?_))))))));refine .iV V (.wt V V ?_);obtain ⟨x5,q5,h⟩:=bs h;refine .jV q5 V (.wt V V (.Zd V V V V (.pV V (.iV V (.kT V (.nil ?_))))));obtain rfl:=sj h;exact ⟨EI V,(H.erase 0).wk (by omega)⟩
       refine .ps 10 V (.kF V (.nil ?_));obtain rfl:=sj h;exact ⟨EI V,(H.erase 0).wk (by omega)⟩
      refine .kF V (.nil ?_);obtain rfl:=sj h;exact ⟨EI V,H.wk (by omega)⟩
     refine .na H λH=>?_;refine .wh h V ?_ ?_<;>intro h
     ·refine .tR 1 V H λb14 G H=>(.aV V (.na H λH=>(.ret ?_)));obtain rfl:=sj h;exact ⟨nofun,(.inr ⟨_,V,V,(Ends.H (xs:=[(vb false)]) (.inr V) H (.tmp (v:=(vb false)) V .nil) (.one (.c (.v _))))⟩)⟩
     refine .skip (.Z5 2 V H λb15 G H=>(.iV V (.mV V (.na H λH=>?_))));obtain rfl:=sj h;exact ⟨V,EI V,H⟩
    refine .exit ?_;obtain rfl:=sj h;exact ⟨nofun,(.inl ⟨_,V,V,U,(H.erase 0)⟩)⟩
   ·rintro x e G (⟨a4,rfl,rfl,he,H⟩|⟨r',rfl,rfl,hE⟩)
    ·replace h:=jgo h;obtain ⟨e,rfl⟩:=he.ex;refine .tR 1 V H λb16 G H=>(.aV V (.na H λH=>(.ret ?_)));obtain rfl:=sj h;exact Ends.eR V
    ·replace h:=jret h;obtain rfl:=sj h;exact hE
  ·replace h:=jret h;obtain rfl:=sj h;exact hE
theorem gran_turns_fn {f:Form} {r:Bool} (h:Z0S f=some r):Fn CX 51 [(.agg (vs (Form.cs f)))] (vb r):=by
 refine Fn.go Tryz.func51 V λG H=>?_;unfold Z0S at h;refine .tR 2 V H λb1 G H=>(.bxc (cs:=(vF f)) H V V V λG H=>(.aV V (.na H λH=>(.tR 1 V H λb2 G H=>(.a1 .nils V V (.na H λH=>(.then (.tR 4 V H λb3 G H=>?_))))))));refine .fV H 0 V (.lV H 0 V (.nV V (.mV V (.na H λH=>(.inBlock ?_)))));replace H:=H.pushNil 97 1 true;obtain ⟨y1,hj1,h⟩:=bs h;obtain ⟨n1,hj1⟩:=ZG.1 hj1;refine .mono (Runs.loopO hj1 (λs2 e G=>∃ (w3:PV),Z4 e [(1,(.ptr (b1+0) 4 0)),(3,w3),(11,(vl (cL Span.cs) f.Core)),(12,(vi (f.Core.length:Int))),(13,(vi s2.1))]/\Hs G [.sl w3 97 1 (s2.2.map (cL Span.cs)) true,.blk (b1+0) 64 (vF f)]) (λy1 x e G=>∃ (w4:PV),x = .exit 0/\Z4 e [(1,(.ptr (b1+0) 4 0)),(3,w4)]/\Hs G [.sl w4 97 1 (y1.map (cL Span.cs)) true,.blk (b1+0) 64 (vF f)]) ⟨.nils,EI V,H⟩ ?_) ?_
 ·intro s2 e G hI z h;obtain ⟨w3,he,H⟩:=hI;obtain ⟨e,rfl⟩:=he.ex;unfold Z0S.s0 at h;refine .tR 1 V H λb4 G H=>(.iV V (.na H λH=>(.then ?_)));refine .wh h V ?_ ?_<;>intro h
  ·refine .skip (.then ?_);obtain ⟨y2,hj2,h⟩:=bs h;refine .mono (Q:=λx e G=>∃ (w5:PV),x = .normal/\Z4 e [(1,(.ptr (b1+0) 4 0)),(3,w5),(11,(vl (cL Span.cs) f.Core)),(12,(vi (f.Core.length:Int))),(13,(vi s2.1))]/\Hs G [.sl w5 97 1 (y2.map (cL Span.cs)) true,.blk (b1+0) 64 (vF f)]) ?_ ?_
   ·replace h:=hj2;refine .inBlock ?_;obtain ⟨y3,hj3,h⟩:=bs h;refine .mono (Q:=λx e G=>∃ (w6:PV),x = .normal/\Z4 e [(1,(.ptr (b1+0) 4 0)),(3,w6),(11,(vl (cL Span.cs) f.Core)),(12,(vi (f.Core.length:Int))),(13,(vi s2.1))]/\Hs G [.sl w6 97 1 (y3.map (cL Span.cs)) true,.blk (b1+0) 64 (vF f)]) ?_ ?_
    ·replace h:=hj3;refine .tR 3 V H λb5 G H=>?_;obtain ⟨x1,q1,h⟩:=bs h;refine .jV q1 V (.pV V (.aV V (.na H λH=>(.tR 3 V H λb6 G H=>(.mV V (.nV V (.iV V (.na H λH=>?_))))))));refine .wh h V ?_ ?_<;>intro h
     ·refine .Z5 5 V H λb7 G H=>(.m1 w3 V V (.mV V (.Z27 (sz:=1) ([x1].map (cL Span.cs)) H (by omega) (by omega) V V V V V V V V V λG H=>?_)));obtain ⟨x2,q2,h⟩:=bs h;refine .Z33 (c:=(cL Span.cs)) (v:=w3) (w:=(.buf (b7+2) 1 1)) (xs:=s2.2) (ys:=[x1]) H (by omega) (by omega) 1 V V V (.s 0 V) q2 V V V V V nofun V λw7 G H=>(.a1 w7 V V (.na H λH=>?_));obtain rfl:=sj h;exact ⟨w7,V,EI V,(H.erase 0)⟩
     refine .skip ?_;obtain rfl:=sj h;exact ⟨w3,V,EI V,H⟩
    ·rintro x e G ⟨w8,rfl,he,H⟩;obtain ⟨e,rfl⟩:=he.ex;obtain rfl:=sj h;exact ⟨w8,V,EI V,H⟩
   ·rintro x e G ⟨w9,rfl,he,H⟩;obtain ⟨e,rfl⟩:=he.ex;refine .Z5 2 V H λb8 G H=>(.iV V (.mV V (.na H λH=>?_)));obtain rfl:=sj h;exact ⟨V,w9,EI V,H⟩
  refine .exit ?_;obtain rfl:=sj h;exact ⟨nofun,⟨w3,V,EI V,H⟩⟩
 ·rintro x e G ⟨w10,rfl,he,H⟩;obtain ⟨e,rfl⟩:=he.ex;refine .then (.tR 3 V H λb9 G H=>(.m1 w10 V V (.Z8c (c:=(cL Span.cs)) (xs:=y1) H 0 V V V nofun V (.mV V (.na H λH=>(.inBlock ?_))))));obtain ⟨y4,hj4,h⟩:=bs h;obtain ⟨n2,hj4⟩:=ZG.1 hj4;refine .mono (Runs.loopO hj4 (λs3 e G=>∃ (w13:PV),Z4 e [(1,(.ptr (b1+0) 4 0)),(3,w13),(25,w13),(26,(vi (y1.length:Int))),(27,(vi s3))]/\Hs G [.sl w13 97 1 (y1.map (cL Span.cs)) true,.blk (b1+0) 64 (vF f)]) (λy4 x e G=>(∃ a1,y4=(.go a1)/\x = .exit 2/\Z4 e []/\Hs G [])\/(∃ r',y4=(.ret r')/\x = .ret/\Ends CX Tryz.f51.results.toList (vb r') x e G)) ⟨w10,EI V,H⟩ ?_) ?_
  ·intro s3 e G hI z h;obtain ⟨w13,he,H⟩:=hI;obtain ⟨e,rfl⟩:=he.ex;unfold Z0S.s1 at h;refine .tR 1 V H λb10 G H=>(.iV V (.na H λH=>(.then ?_)));refine .wh h V ?_ ?_<;>intro h
   ·refine .skip (.then ?_);obtain ⟨y5,hj5,h⟩:=bs h;refine .mono (Q:=λx e G=>(∃ a2,∃ (w14:PV),y5=(.go a2)/\x = .normal/\Z4 e [(1,(.ptr (b1+0) 4 0)),(3,w14),(25,w14),(26,(vi (y1.length:Int))),(27,(vi s3))]/\Hs G [.sl w14 97 1 (y1.map (cL Span.cs)) true,.blk (b1+0) 64 (vF f)])\/(∃ r',y5=(.ret r')/\x = .ret/\Ends CX Tryz.f51.results.toList (vb r') x e G)) ?_ ?_
    ·replace h:=hj5;refine .inBlock ?_;obtain ⟨y6,hj6,h⟩:=bs h;refine .mono (Q:=λx e G=>(∃ a3,∃ (w15:PV),y6=(.go a3)/\x = .normal/\Z4 e [(1,(.ptr (b1+0) 4 0)),(3,w15),(25,w15),(26,(vi (y1.length:Int))),(27,(vi s3))]/\Hs G [.sl w15 97 1 (y1.map (cL Span.cs)) true,.blk (b1+0) 64 (vF f)])\/(∃ r',y6=(.ret r')/\x = .ret/\Ends CX Tryz.f51.results.toList (vb r') x e G)) ?_ ?_
     ·replace h:=hj6;refine .tR 5 V H λb11 G H=>(.mV V ?_);obtain ⟨x3,q3,h⟩:=bs h;refine .Z1B H 0 V V V (at?_map q3) V V nofun V ?_;intro id1 hv1;subst hv1;refine .loadS (id:=id1) (j:=0) (w:=(.sl (x3.map Span.cs))) H 0 V V (by simp) (at?_map q3) V (by simp) V V V nofun V ?_;refine .aV V (.aV V (.na H λH=>(.tR 10 V H λb12 G H=>(.mB V (.mV V (.iV V (.mB V (.Z8c (c:=(cL Span.cs)) (xs:=y1) H 0 V V V nofun V ?_))))))));obtain ⟨u1,q4,h⟩:=bs h;refine .rem (m:=(w64 (s3+1))) (m':=(y1.length:Int)) V V (nz_ne q4) V ?_;obtain ⟨x4,q5,h⟩:=bs h;refine .Z1B H 0 V V V (at?_map q5) V V nofun V ?_;intro id2 hv2;refine .loadS (id:=id2) (j:=0) (w:=(.sl (x4.map Span.cs))) H 0 V hv2 (by simp) (at?_map q5) V (by simp) V V V nofun V ?_;refine .aV V (.aV V (.na H λH=>(.then ?_)));refine .jn h .normal (λy7=>[(1,(.ptr (b1+0) 4 0)),(3,(.buf id1 (y1.map (cL Span.cs)).length 1)),(7,(vl Span.cs x3)),(8,(vl Span.cs x4)),(9,(vi y7)),(25,(.buf id1 (y1.map (cL Span.cs)).length 1)),(26,(vi (y1.length:Int))),(27,(vi s3))]) (λy7=>[.sl (.buf id1 (y1.map (cL Span.cs)).length 1) 97 1 (y1.map (cL Span.cs)) true,.blk (b1+0) 64 (vF f)]) (λy7 h=>?_) λy7 e G H h=>?_
      ·refine .tR 5 V H λb13 G H=>(.mV V (.iV V (.mB V (.Z8c (c:=(cL Span.cs)) (xs:=y1) H 0 V V V nofun V (.iV V (.na H λH=>?_))))));refine .wh h V ?_ ?_<;>intro h
       ·refine .Z5 3 V H λb14 G H=>(.fV H 1 V (.lV H 1 V (.aV V (.na H λH=>?_))));obtain rfl:=sj h;exact ⟨V,EI V,H⟩
       refine .skip ?_;obtain rfl:=sj h;exact ⟨V,EI V,H⟩
      refine .then (.Z0C 14 V (by kernel_rfl) H λb15 G H B15=>(.mV V (.mV V (.nV V (.iV V ?_)))));obtain ⟨x5,q6,h⟩:=bs h;refine .jV q6 V (.Zd V V V V (.pV V (.mV V ?_)));obtain ⟨x6,q7,h⟩:=bs h;refine .jV q7 V (.Zd V V V V (.pV V (.mV V (.iV V (.iV V (.na H λH=>?_))))));refine .wh h V ?_ ?_<;>intro h
      ·refine .tR 1 V H λb16 G H=>(.aV V (.na H λH=>(.ret ?_)));obtain rfl:=sj h;exact (.inr ⟨_,V,V,(Ends.H (xs:=[(vb false)]) (.inr V) H (.tmp (v:=(vb false)) V .nil) (.one (.c (.v _))))⟩)
      refine .skip ?_;obtain rfl:=sj h;exact (.inl ⟨_,(.buf id1 (y1.map (cL Span.cs)).length 1),V,V,EI V,H⟩)
     ·rintro x e G (⟨a4,w16,rfl,rfl,he,H⟩|⟨r',rfl,rfl,hE⟩)
      ·replace h:=jgo h;obtain ⟨e,rfl⟩:=he.ex;obtain rfl:=sj h;exact (.inl ⟨_,w16,V,V,EI V,H⟩)
      ·replace h:=jret h;obtain rfl:=sj h;exact (.inr ⟨_,V,V,hE⟩)
    ·rintro x e G (⟨a5,w17,rfl,rfl,he,H⟩|⟨r',rfl,rfl,hE⟩)
     ·replace h:=jgo h;obtain ⟨e,rfl⟩:=he.ex;refine .Z5 2 V H λb17 G H=>(.iV V (.mV V (.na H λH=>?_)));obtain rfl:=sj h;exact ⟨V,w17,EI V,H⟩
     ·replace h:=jret h;obtain rfl:=sj h;exact ⟨nofun,(.inr ⟨_,V,V,hE⟩)⟩
   refine .exit ?_;obtain rfl:=sj h;exact ⟨nofun,(.inl ⟨_,V,V,U,((H.erase 1).erase 0)⟩)⟩
  ·rintro x e G (⟨a6,rfl,rfl,he,H⟩|⟨r',rfl,rfl,hE⟩)
   ·replace h:=jgo h;obtain ⟨e,rfl⟩:=he.ex;refine .tR 1 V H λb18 G H=>(.aV V (.na H λH=>(.ret ?_)));obtain rfl:=sj h;exact Ends.eR V
   ·replace h:=jret h;obtain rfl:=sj h;exact hE
theorem Z10 {x':(List Granule)} {target:Int} {cmp:Granule->Int->Option Int} {C:List Res} {cv0:PV} (hs0:cv0.one=true) (hp0:cv0.pure=true->C=[]) (hf0:∀ z0 z1 y,cmp z0 z1=some y->CloH CX cv0 [(.agg (vs (Granule.cs z0))),(vi z1)] (vi y) C) {r:Int×Bool} (h:Z2 x' target cmp=some r):FnH CX 135 [(vl Granule.cs x'),(vi target),cv0] (.tup [(vi r.1),(vb r.2)]) C:=by
 refine FnH.of Tryz.func135 V V V V (Z2A V (Z2A V (Z2A (Z1g hs0) all_nil))) V (λh=>hp0 (Z26 h 2 V)) ?_;intro G L hC H;unfold Z2 at h;refine .tR 2 V H λb1 G H=>(.aV V (.aV V (.na H λH=>(.tR 3 V H λb2 G H=>(.mV V (.nV V (.aV V (.na H λH=>?_))))))));refine .tR 3 V H λb3 G H=>(.mV V (.aV V (.aV V (.na H λH=>(.then (.inBlock ?_))))));refine .lp h (λs1=>[(0,(vl Granule.cs x')),(1,(vi target)),(2,cv0),(8,(vi (x'.length:Int))),(9,(vi s1.1)),(10,(vi s1.2))]) (λs1=>(L)) (.exit 0) (λy1=>[(0,(vl Granule.cs x')),(1,(vi target)),(2,cv0),(8,(vi (x'.length:Int))),(9,(vi y1))]) (λy1=>(L)) (EI V) H (λs1 e G H z h=>?_) λy1 e G H h=>?_
 ·unfold Z2.s0 at h;refine .then (.tR 3 V H λb4 G H=>(.mV V (.mV V (.iV V (.na H λH=>?_)))));refine .wh h V ?_ ?_<;>intro h
  ·refine .skip (.inBlock ?_);refine .jn h .normal (λy2=>[(0,(vl Granule.cs x')),(1,(vi target)),(2,cv0),(8,(vi (x'.length:Int))),(9,(vi y2.1)),(10,(vi y2.2))]) (λy2=>(L)) (λy2 h=>?_) λy2 e G H h=>?_
   ·refine .tR 7 V H λb5 G H=>(.mV V (.mV V (.iV V (.conv (m:=(w64 (s1.1+s1.2))) V V V V (.shr (m:=(IntKind.u64.wrap (w64 (s1.1+s1.2)))) (m':=1) V V (by decide) V (.conv (m:=((IntKind.u64.wrap (w64 (s1.1+s1.2))).fdiv (2 ^ 1))) V V V V (.aV V (.na H λH=>?_))))))));refine .tR 8 V H λb6 G H=>(.m1 cv0 V V (.mV V (.mV V ?_)));obtain ⟨x1,q1,h⟩:=bs h;refine .jV q1 V (.qV [(.int .i64 x1.Index),(.sl (x1.Ticks.map Span.cs))] V (.mV V ?_));obtain ⟨x2,q2,h⟩:=bs h;refine .callV (cv:=cv0) (ys:=[(.agg (vs (Granule.cs x1))),(vi target)]) (r:=(vi x2)) H V V (hf0 x1 target _ q2) hC nofun V λG H=>(.iV V (.na H λH=>?_));refine .wh h V ?_ ?_<;>intro h
    ·refine .Z5 3 V H λb7 G H=>(.mV V (.iV V (.aV V (.na H λH=>?_))));obtain rfl:=sj h;exact ⟨V,EI V,H⟩
    refine .Z5 2 V H λb8 G H=>(.mV V (.aV V (.na H λH=>?_)));obtain rfl:=sj h;exact ⟨V,EI V,H⟩
   obtain rfl:=sj h;exact ⟨V,EI V,H⟩
  refine .exit ?_;obtain rfl:=sj h;exact ⟨nofun,⟨V,EI V,H⟩⟩
 refine .tR 16 V H λb9 G H=>(.mV V (.mV V (.mV V (.iV V (.mV V ?_)))));obtain ⟨y3,hj3,h⟩:=bs h;refine .md H 9 [(48,(vb y3)),(35,(vi y1))] (L) V ?_ λe G H=>?_
 ·refine .sp hj3 V ?_ ?_<;>intro h
  ·refine .m1 cv0 V V (.mV V (.mV V (.wt V V ?_)));obtain ⟨x3,q3,h⟩:=bs h;refine .jV q3 V (.qV [(.int .i64 x3.Index),(.sl (x3.Ticks.map Span.cs))] V (.mV V (.wt V V ?_)));obtain ⟨x4,q4,h⟩:=bs h;refine .callV (cv:=cv0) (ys:=[(.agg (vs (Granule.cs x3))),(vi target)]) (r:=(vi x4)) H V V (hf0 x3 target _ q4) hC nofun V λG H=>(.iV V (.kT V (.nil ?_)));obtain rfl:=sj h;exact ⟨EI V,H.wk (by omega)⟩
  refine .ps 8 V (.kF V (.nil ?_));obtain rfl:=sj h;exact ⟨EI V,H.wk (by omega)⟩
 refine .aV V (.aV V (.na H λH=>(.ret ?_)));obtain rfl:=sj h;exact (EndsH.H (xs:=[(vi y1),(vb y3)]) (.inr V) H (.tmp (v:=(vi y1)) V (.tmp (v:=(vb y3)) V .nil)) (.two (.cons (.c (.v _)) (.cons (.c (.v _)) .nil))) 0 V)
theorem Z7d {x':Int} {r:Bool} (h:Z3U x'=r):Fn CX 154 [(vi x')] (vb r):=by
 refine Fn.go Tryz.func154 V λG H=>?_;unfold Z3U at h;refine .tR 1 V H λb1 G H=>(.aV V (.na H λH=>(.tR 4 V H λb2 G H=>(.mV V (.mV V (.iV V (.aV V (.na H λH=>?_))))))));refine .ret ?_;subst h;exact Ends.eR V
theorem Z6e {x':Int} {y:Int} {r:Int} (h:Z2X x' y=r):Fn CX 137 [(vi x'),(vi y)] (vi r):=by
 refine Fn.go Tryz.func137 V λG H=>?_;unfold Z2X at h;refine .tR 1 V H λb1 G H=>(.aV V (.na H λH=>(.tR 3 V H λb2 G H=>(.mV V (.cV (Z7d V) V (.aV V (.na H λH=>(.tR 3 V H λb3 G H=>?_))))))));refine .mV V (.cV (Z7d V) V (.aV V (.na H λH=>(.then (.tR 1 V H λb4 G H=>(.mV V (.na H λH=>?_)))))));refine .wh h V ?_ ?_<;>intro h
 ·refine .then (.tR 1 V H λb5 G H=>(.mV V (.na H λH=>?_)));refine .wh h V ?_ ?_<;>intro h
  ·refine .tR 1 V H λb6 G H=>(.aV V (.na H λH=>(.ret ?_)));subst h;exact Ends.eR V
  refine .skip (.tR 1 V H λb7 G H=>(.aV V (.na H λH=>(.ret ?_))));subst h;exact Ends.eR V
 refine .skip (.then (.tR 1 V H λb8 G H=>(.mV V (.na H λH=>?_))));refine .wh h V ?_ ?_<;>intro h
 ·refine .tR 1 V H λb9 G H=>(.aV V (.na H λH=>(.ret ?_)));subst h;exact Ends.eR V
 refine .skip (.then (.tR 3 V H λb10 G H=>(.mV V (.mV V (.iV V (.na H λH=>?_))))));refine .wh h V ?_ ?_<;>intro h
 ·refine .tR 1 V H λb11 G H=>(.aV V (.na H λH=>(.ret ?_)));subst h;exact Ends.eR V
 refine .skip (.then (.tR 3 V H λb12 G H=>(.mV V (.mV V (.iV V (.na H λH=>?_))))));refine .wh h V ?_ ?_<;>intro h
 ·refine .tR 1 V H λb13 G H=>(.aV V (.na H λH=>(.ret ?_)));subst h;exact Ends.eR V
 refine .skip (.tR 1 V H λb14 G H=>(.aV V (.na H λH=>(.ret ?_))));subst h;exact Ends.eR V
theorem gran_odd_1_fn {g:Granule} {i:Int} {r:Int} (h:Z4R g i=r):Fn CX 138 [(.agg (vs (Granule.cs g))),(vi i)] (vi r):=by
 refine Fn.go Tryz.func138 V λG H=>?_;unfold Z4R at h;refine .tR 2 V H λb1 G H=>(.bxc (cs:=[(vi g.Index),(vl Span.cs g.Ticks)]) H V V V λG H=>(.aV V (.na H λH=>(.tR 5 V H λb2 G H=>(.fV H 0 V (.lV H 0 V (.mV V (.cV (Z6e V) V ?_))))))));refine .aV V (.na H λH=>(.ret ?_));subst h;exact Ends.eR V
theorem ZCI {f:Form} {i:Int} {r:Int×Bool} (h:Z5X f i=some r):Fn CX 121 [(.agg (vs (Form.cs f))),(vi i)] (.tup [(vi r.1),(vb r.2)]):=by
 refine Fn.go Tryz.func121 V λG H=>?_;unfold Z5X at h;refine .tR 3 V H λb1 G H=>(.bxc (cs:=(vF f)) H V V V λG H=>(.aV V (.aV V (.na H λH=>(.tR 8 V H λb2 G H=>(.fV H 0 V (.lV H 0 V (.mV V ?_))))))));obtain ⟨x1,q1,h⟩:=bs h;refine .Z4V (ys:=[(vl Granule.cs f.Odd),(vi i),(.v (.fn 138))]) (r:=(.tup [(vi x1.1),(vb x1.2)])) H V (Z10 (C:=[]) V (λ_=>V) (λz0 z1 y hz=>(CloH.fn (Fn.toH (gran_odd_1_fn (Option.some.inj hz)) _))) q1) .nil nofun V λG H=>(.xV V (.xV V (.aV V (.aV V (.na H λH=>(.ret ?_))))));obtain rfl:=sj h;exact Ends.eR V
end Go.Dn

namespace Go.Dn
open Go Go.Proofs
set_option maxRecDepth 100000
set_option maxHeartbeats 4000000
theorem Z45 {a:Int} {b:Int} {r:Int×Int×Int} (h:Z1D a b=some r):Fn CX 115 [(vi a),(vi b)] (.tup [(vi r.1),(vi r.2.1),(vi r.2.2)]):=by
 refine Fn.go Tryz.func115 V λG H=>?_;unfold Z1D at h;refine .tR 3 V H λb1 G H=>(.aV V (.aV V (.aV V (.na H λH=>(.then (.inBlock (.tR 3 V H λb2 G H=>(.mV V ?_))))))));refine .iV V (.aV V (.na H λH=>?_));refine .wh h V ?_ ?_<;>intro h
 ·refine .tR 3 V H λb3 G H=>(.aV V (.aV V (.aV V (.na H λH=>(.ret ?_)))));obtain rfl:=sj h;exact Ends.eR V
 refine .tR 7 V H λb4 G H=>(.mV V (.iV V (.mV V ?_)));refine .md H 3 [(18,(vb ((b==(-1))&&(a==(-9223372036854775808))))),(0,(vi a)),(1,(vi b))] [] V ?_ λe G H=>?_
 ·refine .split V V ?_ ?_<;>intro hc2
  ·refine .mV V (.iV V (.kT V (.nil ?_)));exact ⟨⟨Z0k hc2,V,V,U⟩,H.wk (by omega)⟩
  ·refine .ps 2 V (.kF V (.nil ?_));exact ⟨⟨Z0l hc2,V,V,U⟩,H.wk (by omega)⟩
 refine .aV V (.na H λH=>?_);refine .wh h V ?_ ?_<;>intro h
 ·refine .tR 3 V H λb5 G H=>(.aV V (.aV V (.aV V (.na H λH=>(.ret ?_)))));obtain rfl:=sj h;exact Ends.eR V
 refine .skip (.then (.Z0C 8 V (by kernel_rfl) H λb6 G H B6=>(.mV V (.mV V ?_))));obtain ⟨u1,q1,h⟩:=bs h;refine .quo (m:=a) (m':=b) V V (nz_ne q1) V (.mV V (.mV V ?_));obtain ⟨u2,q2,h⟩:=bs h;refine .rem (m:=a) (m':=b) V V (nz_ne q2) V (.aV V (.aV V (.na H λH=>(.then ?_))));refine .jn h .normal (λy1=>[(7,(vi y1.1)),(8,(vi y1.2))]) (λy1=>[]) (λy1 h=>?_) λy1 e G H h=>?_
 ·refine .tR 9 V H λb7 G H=>(.mV V (.iV V (.mV V ?_)));refine .md H 6 [(33,(vb (((a.tmod b) != 0)&&((decide ((a.tmod b)<0)) != (decide (b<0)))))),(1,(vi b)),(7,(vi (w64 (a.tdiv b)))),(8,(vi (a.tmod b)))] [] V ?_ λe G H=>?_
  ·refine .split V V ?_ ?_<;>intro hc4
   ·refine .mV V (.iV V (.mV V (.iV V (.wt V V (.neB (b:=(decide ((a.tmod b)<0))) (b':=(decide (b<0))) V V V V (.kT V (.nil ?_)))))));exact ⟨⟨Z0k hc4,V,V,V,U⟩,H.wk (by omega)⟩
   ·refine .ps 5 V (.kF V (.nil ?_));exact ⟨⟨Z0l hc4,V,V,V,U⟩,H.wk (by omega)⟩
  refine .na H λH=>?_;refine .wh h V ?_ ?_<;>intro h
  ·refine .Z5 7 V H λb8 G H=>(.mV V (.iV V (.mV V (.mV V (.iV V (.aV V (.aV V (.na H λH=>?_))))))));obtain rfl:=sj h;exact ⟨V,EI V,H⟩
  refine .skip ?_;obtain rfl:=sj h;exact ⟨V,EI V,H⟩
 refine .tR 5 V H λb9 G H=>(.mV V (.mV V (.aV V (.aV V (.aV V (.na H λH=>(.ret ?_)))))));obtain rfl:=sj h;exact Ends.eR V
theorem ZAe {a:Int} {r:Int} (h:Z1q a=r):Fn CX 140 [(vi a)] (vu r):=by
 refine Fn.go Tryz.func140 V λG H=>?_;unfold Z1q at h;refine .tR 1 V H λb1 G H=>(.aV V (.na H λH=>(.then (.tR 2 V H λb2 G H=>(.mV V (.iV V (.na H λH=>?_)))))));refine .wh h V ?_ ?_<;>intro h
 ·refine .tR 4 V H λb3 G H=>(.mV V (.conv (m:=a) V V V V (.neg (m:=(IntKind.u64.wrap a)) V V (.aV V (.na H λH=>(.ret ?_))))));subst h;exact Ends.eR V
 refine .skip (.tR 3 V H λb4 G H=>(.mV V (.conv (m:=a) V V V V (.aV V (.na H λH=>(.ret ?_))))));subst h;exact Ends.eR V
theorem Z6D {x':Int} {y:Int} {r:Int×Int} (h:Z0I x' y=r):Fn CX 139 [(vu x'),(vu y)] (.tup [(vu r.1),(vu r.2)]):=by
 refine Fn.go Tryz.func139 V λG H=>?_;unfold Z0I at h;refine .tR 2 V H λb1 G H=>(.aV V (.aV V (.na H λH=>(.tR 3 V H λb2 G H=>(.mV V (.iV V (.aV V (.na H λH=>?_))))))));refine .tR 3 V H λb3 G H=>(.mV V (.shr (m:=x') (m':=32) V V (by decide) V (.aV V (.na H λH=>(.tR 3 V H λb4 G H=>(.mV V (.iV V (.aV V ?_))))))));refine .na H λH=>(.tR 3 V H λb5 G H=>(.mV V (.shr (m:=y) (m':=32) V V (by decide) V (.aV V (.na H λH=>(.tR 4 V H λb6 G H=>(.mV V (.mV V ?_))))))));refine .iV V (.aV V (.na H λH=>(.tR 7 V H λb7 G H=>(.mV V (.mV V (.iV V (.mV V (.shr (m:=(IntKind.u64.wrap ((iAnd .u64 x' 4294967295)*(iAnd .u64 y 4294967295)))) (m':=32) V V (by decide) V ?_))))))));refine .iV V (.aV V (.na H λH=>(.tR 3 V H λb8 G H=>(.mV V (.iV V (.aV V (.na H λH=>(.tR 3 V H λb9 G H=>?_))))))));refine .mV V (.shr (m:=(IntKind.u64.wrap ((IntKind.u64.wrap ((x'.fdiv (2 ^ 32))*(iAnd .u64 y 4294967295)))+((IntKind.u64.wrap ((iAnd .u64 x' 4294967295)*(iAnd .u64 y 4294967295))).fdiv (2 ^ 32))))) (m':=32) V V (by decide) V (.aV V (.na H λH=>(.tR 6 V H λb10 G H=>(.mV V (.mV V (.mV V (.iV V ?_))))))));refine .iV V (.aV V (.na H λH=>(.tR 9 V H λb11 G H=>(.mV V (.mV V (.iV V (.mV V (.iV V ?_))))))));refine .mV V (.shr (m:=(IntKind.u64.wrap ((iAnd .u64 (IntKind.u64.wrap ((IntKind.u64.wrap ((x'.fdiv (2 ^ 32))*(iAnd .u64 y 4294967295)))+((IntKind.u64.wrap ((iAnd .u64 x' 4294967295)*(iAnd .u64 y 4294967295))).fdiv (2 ^ 32)))) 4294967295)+(IntKind.u64.wrap ((iAnd .u64 x' 4294967295)*(y.fdiv (2 ^ 32))))))) (m':=32) V V (by decide) V (.iV V (.aV V (.na H λH=>(.tR 4 V H λb12 G H=>(.mV V (.mV V (.iV V ?_))))))))
 refine .aV V (.na H λH=>(.ret ?_));subst h;exact Ends.eR V
theorem ZDZ {n:Int} {minus:Bool} {r:Int×Int} (h:Z4X n minus=r):Fn CX 141 [(vu n),(vb minus)] (.tup [(vi r.1),(vi r.2)]):=by
 refine Fn.go Tryz.func141 V λG H=>?_;unfold Z4X at h;refine .tR 2 V H λb1 G H=>(.aV V (.aV V (.na H λH=>(.then (.inBlock (.tR 6 V H λb2 G H=>(.mV V (.mV V ?_))))))));refine .md H 3 [(11,(vb (minus&&(decide (n<=9223372036854775808))))),(0,(vu n)),(1,(vb minus))] [] V ?_ λe G H=>?_
 ·refine .split V V ?_ ?_<;>intro hc1
  ·refine .mV V (.iV V (.kT V (.nil ?_)));exact ⟨⟨Z0k hc1,V,V,U⟩,H.wk (by omega)⟩
  ·refine .ps 2 V (.kF V (.nil ?_));exact ⟨⟨Z0l hc1,V,V,U⟩,H.wk (by omega)⟩
 refine .aV V (.na H λH=>?_);refine .wh h V ?_ ?_<;>intro h
 ·refine .tR 5 V H λb3 G H=>(.mV V (.neg (m:=n) V V (.conv (m:=(IntKind.u64.wrap (0-n))) V V V V (.aV V (.aV V (.na H λH=>(.ret ?_)))))));subst h;exact Ends.eR V
 refine .tR 7 V H λb4 G H=>(.mV V (.tV V (.mV V ?_)));refine .md H 3 [(21,(vb ((!minus)&&(decide (n<=9223372036854775807))))),(0,(vu n))] [] V ?_ λe G H=>?_
 ·refine .split V V ?_ ?_<;>intro hc3
  ·refine .mV V (.iV V (.kT V (.nil ?_)));exact ⟨⟨Z0k hc3,V,U⟩,H.wk (by omega)⟩
  ·refine .ps 2 V (.kF V (.nil ?_));exact ⟨⟨Z0l hc3,V,U⟩,H.wk (by omega)⟩
 refine .aV V (.na H λH=>?_);refine .wh h V ?_ ?_<;>intro h
 ·refine .tR 4 V H λb5 G H=>(.mV V (.conv (m:=n) V V V V (.aV V (.aV V (.na H λH=>(.ret ?_))))));subst h;exact Ends.eR V
 refine .skip (.tR 2 V H λb6 G H=>(.aV V (.aV V (.na H λH=>(.ret ?_)))));subst h;exact Ends.eR V
theorem safe_Mul_fn {a:Int} {b:Int} {r:Int×Int} (h:Z4A a b=r):Fn CX 122 [(vi a),(vi b)] (.tup [(vi r.1),(vi r.2)]):=by
 refine Fn.go Tryz.func122 V λG H=>?_;unfold Z4A at h;refine .tR 2 V H λb1 G H=>(.aV V (.aV V (.na H λH=>(.tR 10 V H λb2 G H=>(.mV V (.cV (ZAe V) V (.mV V (.cV (ZAe V) V ?_))))))));refine .cV (Z6D V) V (.m1 (.tup [(vu (Z0I (Z1q a) (Z1q b)).1),(vu (Z0I (Z1q a) (Z1q b)).2)]) V V (.xV V (.xV V (.aV V (.aV V (.na H λH=>(.then (.tR 2 V H λb3 G H=>?_))))))));refine .mV V (.iV V (.na H λH=>?_));refine .wh h V ?_ ?_<;>intro h
 ·refine .tR 2 V H λb4 G H=>(.aV V (.aV V (.na H λH=>(.ret ?_))));subst h;exact Ends.eR V
 refine .skip (.tR 11 V H λb5 G H=>(.mV V (.mV V (.iV V (.mV V (.iV V (.neB (b:=(decide (a<0))) (b':=(decide (b<0))) V V V V (.cV (ZDZ V) V ?_))))))));refine .xV V (.xV V (.aV V (.aV V (.na H λH=>(.ret ?_)))));subst h;exact Ends.eR V
theorem ZAf {f:Form} {i:Int} {r:(List Span)×Int×Int} (h:Z3R f i=some r):Fn CX 101 [(.agg (vs (Form.cs f))),(vi i)] (.tup [(vl Span.cs r.1),(vi r.2.1),(vi r.2.2)]):=by
 refine Fn.go Tryz.func101 V λG H=>?_;unfold Z3R at h;refine .tR 4 V H λb1 G H=>(.bxc (cs:=(vF f)) H V V V λG H=>(.a1 .nils V V (.aV V (.aV V (.na H λH=>(.then (.tR 8 V H λb2 G H=>(.LV (vF f) H 0 V ?_))))))));refine .mV V ?_;obtain ⟨x1,q1,h⟩:=bs h;refine .cV (ZCI q1) V (.m1 (.tup [(vi x1.1),(vb x1.2)]) V V (.xV V (.xV V (.aV V (.aV V (.na H λH=>(.tR 1 V H λb3 G H=>(.mV V ?_))))))));refine .na H λH=>?_;refine .wh h V ?_ ?_<;>intro h
 ·refine .tR 9 V H λb4 G H=>(.fV H 0 V (.lV H 0 V (.mV V ?_)));obtain ⟨x2,q2,h⟩:=bs h;refine .jV q2 V (.Zd V V V V (.pV V (.aV V (.aV V (.aV V (.na H λH=>(.ret ?_)))))));obtain rfl:=sj h;exact Ends.eR V
 refine .skip (.then (.tR 3 V H λb5 G H=>(.fV H 0 V (.lV H 0 V (.iV V (.na H λH=>?_))))));refine .wh h V ?_ ?_<;>intro h
 ·refine .tR 3 V H λb6 G H=>(.a1 .nils V V (.aV V (.aV V (.na H λH=>(.ret ?_)))));obtain rfl:=sj h;exact (Ends.H (xs:=[.nils,(vi 0),(vi 0)]) (.inr V) H (.tmp (v:=.nils) V (.tmp (v:=(vi 0)) V (.tmp (v:=(vi 0)) V .nil))) (.two (.cons (.c .n) (.cons (.c (.v _)) (.cons (.c (.v _)) .nil)))))
 refine .skip (.tR 11 V H λb7 G H=>(.mV V (.fV H 0 V (.lV H 0 V ?_))));obtain ⟨x3,q3,h⟩:=bs h;refine .cV (Z45 q3) V (.m1 (.tup [(vi x3.1),(vi x3.2.1),(vi x3.2.2)]) V V (.xV V (.xV V (.xV V (.aV V (.aV V (.aV V (.na H λH=>?_))))))));refine .tR 9 V H λb8 G H=>(.mV V (.fV H 0 V (.lV H 0 V (.cV (safe_Mul_fn V) V (.m1 (.tup [(vi (Z4A x3.1 f.Period).1),(vi (Z4A x3.1 f.Period).2)]) V V (.xV V (.xV V (.aV V ?_))))))));refine .aV V (.na H λH=>(.tR 10 V H λb9 G H=>(.fV H 0 V (.lV H 0 V (.mV V ?_)))));obtain ⟨x4,q4,h⟩:=bs h;refine .jV q4 V (.pV V (.mV V (.mV V (.aV V (.aV V (.aV V (.na H λH=>(.ret ?_))))))));obtain rfl:=sj h;exact Ends.eR V
theorem Z8w {a:Int} {b:Int} {r:Int×Int} (h:Zc a b=r):Fn CX 123 [(vi a),(vi b)] (.tup [(vi r.1),(vi r.2)]):=by
 refine Fn.go Tryz.func123 V λG H=>?_;unfold Zc at h;refine .tR 2 V H λb1 G H=>(.aV V (.aV V (.na H λH=>(.tR 4 V H λb2 G H=>(.mV V (.mV V (.iV V (.aV V ?_))))))));refine .na H λH=>(.then (.tR 10 V H λb3 G H=>(.mV V (.mV V (.iV V (.mV V (.iV V (.neB (b:=(decide ((w64 (a+b))>a))) (b':=(decide (b>0))) V V V V ?_))))))));refine .mV V ?_;refine .md H 3 [(19,(vb (((decide ((w64 (a+b))>a)) != (decide (b>0)))&&(b != 0)))),(6,(vi (w64 (a+b))))] [] V ?_ λe G H=>?_
 ·refine .split V V ?_ ?_<;>intro hc1
  ·refine .mV V (.iV V (.kT V (.nil ?_)));exact ⟨⟨Z0k hc1,V,U⟩,H.wk (by omega)⟩
  ·refine .ps 2 V (.kF V (.nil ?_));exact ⟨⟨Z0l hc1,V,U⟩,H.wk (by omega)⟩
 refine .na H λH=>?_;refine .wh h V ?_ ?_<;>intro h
 ·refine .tR 2 V H λb4 G H=>(.aV V (.aV V (.na H λH=>(.ret ?_))));subst h;exact Ends.eR V
 refine .skip (.tR 3 V H λb5 G H=>(.mV V (.aV V (.aV V (.na H λH=>(.ret ?_))))));subst h;exact Ends.eR V
theorem spans_Move_fn {l:(List Span)} {by':Int} {r:(List Span)×Int} (h:Z0h l by'=some r):Fn CX 102 [(vl Span.cs l),(vi by')] (.tup [(vl Span.cs r.1),(vi r.2)]):=by
 refine Fn.go Tryz.func102 V λG H=>?_;unfold Z0h at h;refine .tR 2 V H λb1 G H=>(.a1 .nils V V (.aV V (.na H λH=>(.tR 1 V H λb2 G H=>(.a1 .nils V V (.na H λH=>(.then (.tR 3 V H λb3 G H=>?_))))))));refine .mV V (.nV V (.mV V (.na H λH=>(.inBlock ?_))));replace H:=H.pushNil 108 2 true;obtain ⟨y1,hj1,h⟩:=bs h;obtain ⟨n1,hj1⟩:=ZG.1 hj1;refine .mono (Runs.loopO hj1 (λs2 e G=>∃ (w3:PV),Z4 e [(1,(vi by')),(6,w3),(13,(vl Span.cs l)),(14,(vi (l.length:Int))),(15,(vi s2.1))]/\Hs G [.sl w3 108 2 (s2.2.map Span.cs) true]) (λy1 x e G=>(∃ a1,∃ (w4:PV),y1=(.go a1)/\x = .exit 0/\Z4 e [(6,w4)]/\Hs G [.sl w4 108 2 (a1.map Span.cs) true])\/(∃ r',y1=(.ret r')/\x = .ret/\Ends CX Tryz.f102.results.toList (.tup [(vl Span.cs r'.1),(vi r'.2)]) x e G)) ⟨.nils,EI V,H⟩ ?_) ?_
 ·intro s2 e G hI z h;obtain ⟨w3,he,H⟩:=hI;obtain ⟨e,rfl⟩:=he.ex;unfold Z0h.s0 at h;refine .tR 1 V H λb4 G H=>(.iV V (.na H λH=>(.then ?_)));refine .wh h V ?_ ?_<;>intro h
  ·refine .skip (.then (.inBlock (.tR 4 V H λb5 G H=>?_)));obtain ⟨x1,q1,h⟩:=bs h;refine .jV q1 V (.qV [(.int .i64 x1.From),(.int .i64 x1.To)] V (.alc (cs:=[(vi 0),(vi 0)]) H V V λG H=>(.sV [(vi x1.From),(vi x1.To)] H 0 V λG H=>(.na H λH=>(.tR 9 V H λb6 G H=>(.fV H 0 V (.lV H 0 V (.mV V ?_))))))));refine .cV (Z8w V) V (.m1 (.tup [(vi (Zc x1.From by').1),(vi (Zc x1.From by').2)]) V V (.xV V (.xV V (.aV V (.aV V (.na H λH=>(.tR 9 V H λb7 G H=>(.fV H 0 V ?_))))))));refine .lV H 0 V (.mV V (.cV (Z8w V) V (.m1 (.tup [(vi (Zc x1.To by').1),(vi (Zc x1.To by').2)]) V V (.xV V (.xV V (.aV V (.aV V (.na H λH=>?_))))))));refine .then (.tR 16 V H λb8 G H=>(.mV V (.iV V (.mV V ?_))));refine .md H 3 [(38,(vb ((((Zc x1.From by').2) != 0)||(((Zc x1.To by').2) != 0)))),(1,(vi by')),(6,w3),(9,(vi (Zc x1.From by').1)),(11,(vi (Zc x1.To by').1)),(13,(vl Span.cs l)),(14,(vi (l.length:Int))),(15,(vi s2.1))] [.sl w3 108 2 (s2.2.map Span.cs) true] rfl ?_ λe G H=>?_
   ·refine .split V V ?_ ?_<;>intro hc2
    ·refine .ps 2 V (.kT V (.nil ?_));exact ⟨⟨or_T hc2,V,V,V,V,V,V,V,U⟩,(H.erase 0).wk (by omega)⟩
    ·refine .mV V (.iV V (.kF V (.nil ?_)));exact ⟨⟨or_F hc2,V,V,V,V,V,V,V,U⟩,(H.erase 0).wk (by omega)⟩
   refine .mV V ?_;refine .md H 4 [(43,(vb (((((Zc x1.From by').2) != 0)||(((Zc x1.To by').2) != 0))||(!(Z1A ((Zc x1.From by').1)))))),(1,(vi by')),(6,w3),(9,(vi (Zc x1.From by').1)),(11,(vi (Zc x1.To by').1)),(13,(vl Span.cs l)),(14,(vi (l.length:Int))),(15,(vi s2.1))] [.sl w3 108 2 (s2.2.map Span.cs) true] rfl ?_ λe G H=>?_
   ·refine .split V V ?_ ?_<;>intro hc3
    ·refine .ps 3 V (.kT V (.nil ?_));exact ⟨⟨or_T hc3,V,V,V,V,V,V,V,U⟩,H.wk (by omega)⟩
    ·refine .mV V (.cV (Z5O V) V (.tV V (.kF V (.nil ?_))));exact ⟨⟨or_F hc3,V,V,V,V,V,V,V,U⟩,H.wk (by omega)⟩
   refine .mV V ?_;refine .md H 4 [(48,(vb ((((((Zc x1.From by').2) != 0)||(((Zc x1.To by').2) != 0))||(!(Z1A ((Zc x1.From by').1))))||(!(Z1A ((Zc x1.To by').1)))))),(1,(vi by')),(6,w3),(9,(vi (Zc x1.From by').1)),(11,(vi (Zc x1.To by').1)),(13,(vl Span.cs l)),(14,(vi (l.length:Int))),(15,(vi s2.1))] [.sl w3 108 2 (s2.2.map Span.cs) true] rfl ?_ λe G H=>?_
   ·refine .split V V ?_ ?_<;>intro hc4
    ·refine .ps 3 V (.kT V (.nil ?_));exact ⟨⟨or_T hc4,V,V,V,V,V,V,V,U⟩,H.wk (by omega)⟩
    ·refine .mV V (.cV (Z5O V) V (.tV V (.kF V (.nil ?_))));exact ⟨⟨or_F hc4,V,V,V,V,V,V,V,U⟩,H.wk (by omega)⟩
   refine .na H λH=>?_;refine .wh h V ?_ ?_<;>intro h
   ·refine .tR 2 V H λb9 G H=>(.a1 .nils V V (.aV V (.na H λH=>(.ret ?_))));obtain rfl:=sj h;exact ⟨nofun,(.inr ⟨_,V,V,(Ends.H (xs:=[.nils,(vi 20)]) (.inr V) H (.tmp (v:=.nils) V (.tmp (v:=(vi 20)) V .nil)) (.two (.cons (.c .n) (.cons (.c (.v _)) .nil))))⟩)⟩
   refine .skip (.Z5 7 V H λb10 G H=>(.m1 w3 V V (.mV V (.mV V (.bV [(vi (Zc x1.From by').1),(vi (Zc x1.To by').1)] V (.Z27 (sz:=2) ([(Span.mk ((Zc x1.From by').1) ((Zc x1.To by').1))].map Span.cs) H (by omega) (by omega) V V V V V V V V V λG H=>?_))))));obtain ⟨x2,q2,h⟩:=bs h;refine .Z33 (c:=Span.cs) (v:=w3) (w:=(.buf (b10+4) 1 2)) (xs:=s2.2) (ys:=[(Span.mk ((Zc x1.From by').1) ((Zc x1.To by').1))]) H (by omega) (by omega) 1 V V V (.s 0 V) q2 V V V V V nofun V λw5 G H=>(.a1 w5 V V (.na H λH=>(.Z5 2 V H λb11 G H=>(.iV V (.mV V (.na H λH=>?_))))));obtain rfl:=sj h;exact ⟨V,w5,EI V,(H.erase 0)⟩
  refine .exit ?_;obtain rfl:=sj h;exact ⟨nofun,(.inl ⟨_,w3,V,V,EI V,H⟩)⟩
 ·rintro x e G (⟨a2,w6,rfl,rfl,he,H⟩|⟨r',rfl,rfl,hE⟩)
  ·replace h:=jgo h;obtain ⟨e,rfl⟩:=he.ex;refine .tR 3 V H λb12 G H=>(.m1 w6 V V (.a1 w6 V V (.aV V (.na H λH=>(.ret ?_)))));obtain rfl:=sj h;exact (Ends.H (xs:=[w6,(vi 0)]) (.inr V) H (.tmp (v:=w6) V (.tmp (v:=(vi 0)) V .nil)) (.two (.cons (.c (.s 0 V)) (.cons (.c (.v _)) .nil))))
  ·replace h:=jret h;obtain rfl:=sj h;exact hE
theorem Z70 {f:Form} {i:Int} {r:(List Span)×Int} (h:Z2b f i=some r):Fn CX 79 [(.agg (vs (Form.cs f))),(vi i)] (.tup [(vl Span.cs r.1),(vi r.2)]):=by
 refine Fn.go Tryz.func79 V λG H=>?_;unfold Z2b at h;refine .tR 3 V H λb1 G H=>(.bxc (cs:=(vF f)) H V V V λG H=>(.a1 .nils V V (.aV V (.na H λH=>(.then (.tR 3 V H λb2 G H=>(.mV V (.cV (Z5f V) V ?_))))))));refine .tV V (.na H λH=>?_);refine .wh h V ?_ ?_<;>intro h
 ·refine .tR 2 V H λb3 G H=>(.a1 .nils V V (.aV V (.na H λH=>(.ret ?_))));obtain rfl:=sj h;exact (Ends.H (xs:=[.nils,(vi 20)]) (.inr V) H (.tmp (v:=.nils) V (.tmp (v:=(vi 20)) V .nil)) (.two (.cons (.c .n) (.cons (.c (.v _)) .nil))))
 refine .skip (.tR 10 V H λb4 G H=>(.LV (vF f) H 0 V (.mV V ?_)));obtain ⟨x1,q1,h⟩:=bs h;refine .cV (ZAf q1) V (.m1 (.tup [(vl Span.cs x1.1),(vi x1.2.1),(vi x1.2.2)]) V V (.xV V (.xV V (.xV V (.aV V (.aV V (.aV V (.na H λH=>?_))))))));refine .then (.tR 3 V H λb5 G H=>(.mV V (.nV V (.iV V (.na H λH=>?_)))));refine .wh h V ?_ ?_<;>intro h
 ·refine .tR 2 V H λb6 G H=>(.a1 .nils V V (.aV V (.na H λH=>(.ret ?_))));obtain rfl:=sj h;exact (Ends.H (xs:=[.nils,(vi 0)]) (.inr V) H (.tmp (v:=.nils) V (.tmp (v:=(vi 0)) V .nil)) (.two (.cons (.c .n) (.cons (.c (.v _)) .nil))))
 refine .skip (.then (.tR 2 V H λb7 G H=>(.mV V (.iV V (.na H λH=>?_)))));refine .wh h V ?_ ?_<;>intro h
 ·refine .tR 2 V H λb8 G H=>(.a1 .nils V V (.aV V (.na H λH=>(.ret ?_))));obtain rfl:=sj h;exact (Ends.H (xs:=[.nils,(vi 20)]) (.inr V) H (.tmp (v:=.nils) V (.tmp (v:=(vi 20)) V .nil)) (.two (.cons (.c .n) (.cons (.c (.v _)) .nil))))
 refine .skip (.tR 7 V H λb9 G H=>(.mV V (.mV V ?_)));obtain ⟨x2,q2,h⟩:=bs h;refine .cV (spans_Move_fn q2) V (.xV V (.xV V (.aV V (.aV V (.na H λH=>(.ret ?_))))));obtain rfl:=sj h;exact Ends.eR V
theorem Z4l {s:(List (List Span))} {f:(List Span)->Option Bool} {C:List Res} {cv0:PV} (hs0:cv0.one=true) (hp0:cv0.pure=true->C=[]) (hf0:∀ z0 y,f z0=some y->CloH CX cv0 [(vl Span.cs z0)] (vb y) C) {r:Int} (h:ZD s f=some r):FnH CX 155 [(vl (cL Span.cs) s),cv0] (vi r) C:=by
 refine FnH.of Tryz.func155 V V V V (Z2A V (Z2A (Z1g hs0) all_nil)) V (λh=>hp0 (Z26 h 1 V)) ?_;intro G L hC H;unfold ZD at h;refine .tR 1 V H λb1 G H=>(.aV V (.na H λH=>(.then (.tR 3 V H λb2 G H=>(.mV V (.nV V (.mV V (.na H λH=>?_))))))));refine .inBlock ?_;obtain ⟨y1,hj1,h⟩:=bs h;obtain ⟨n1,hj1⟩:=ZG.1 hj1;refine .mono (Runs.loopO hj1 (λs1 e G=>Z4 e [(0,(vl (cL Span.cs) s)),(1,cv0),(7,(vi (s.length:Int))),(8,(vi s1))]/\Hs G (L)) (λy1 x e G=>(∃ a1,y1=(.go a1)/\x = .exit 0/\Z4 e []/\Hs G (L))\/(∃ r',y1=(.ret r')/\x = .ret/\EndsH CX Tryz.f155.results.toList (vi r') L x e G)) ⟨EI V,H⟩ ?_) ?_
 ·intro s1 e G hI z h;obtain ⟨he,H⟩:=hI;obtain ⟨e,rfl⟩:=he.ex;unfold ZD.s0 at h;refine .tR 1 V H λb3 G H=>(.iV V (.na H λH=>(.then ?_)));refine .wh h V ?_ ?_<;>intro h
  ·refine .skip (.then (.inBlock (.tR 2 V H λb4 G H=>(.mV V (.aV V (.na H λH=>(.tR 6 V H λb5 G H=>(.m1 cv0 V V ?_))))))));refine .mV V (.mV V ?_);obtain ⟨x1,q1,h⟩:=bs h;refine .jV q1 V (.pV V ?_);obtain ⟨x2,q2,h⟩:=bs h;refine .callV (cv:=cv0) (ys:=[(vl Span.cs x1)]) (r:=(vb x2)) H V V (hf0 x1 _ q2) hC nofun V λG H=>(.na H λH=>?_);refine .wh h V ?_ ?_<;>intro h
   ·refine .tR 2 V H λb6 G H=>(.mV V (.aV V (.na H λH=>(.ret ?_))));obtain rfl:=sj h;exact ⟨nofun,(.inr ⟨_,V,V,(EndsH.H (xs:=[(vi s1)]) (.inr V) H (.tmp (v:=(vi s1)) V .nil) (.one (.c (.v _))) 0 V)⟩)⟩
   refine .skip (.Z5 2 V H λb7 G H=>(.iV V (.mV V (.na H λH=>?_))));obtain rfl:=sj h;exact ⟨V,EI V,H⟩
  refine .exit ?_;obtain rfl:=sj h;exact ⟨nofun,(.inl ⟨_,V,V,U,H⟩)⟩
 ·rintro x e G (⟨a2,rfl,rfl,he,H⟩|⟨r',rfl,rfl,hE⟩)
  ·replace h:=jgo h;obtain ⟨e,rfl⟩:=he.ex;refine .tR 1 V H λb8 G H=>(.aV V (.na H λH=>(.ret ?_)));obtain rfl:=sj h;exact (EndsH.H (xs:=[(vi (-1))]) (.inr V) H (.tmp (v:=(vi (-1))) V .nil) (.one (.c (.v _))) 0 V)
  ·replace h:=jret h;obtain rfl:=sj h;exact hE
theorem Z2F {s:(List (List Span))} {f:(List Span)->Option Bool} {C:List Res} {cv0:PV} (hs0:cv0.one=true) (hp0:cv0.pure=true->C=[]) (hf0:∀ z0 y,f z0=some y->CloH CX cv0 [(vl Span.cs z0)] (vb y) C) {r:Bool} (h:Ze s f=some r):FnH CX 142 [(vl (cL Span.cs) s),cv0] (vb r) C:=by
 refine FnH.of Tryz.func142 V V V V (Z2A V (Z2A (Z1g hs0) all_nil)) V (λh=>hp0 (Z26 h 1 V)) ?_;intro G L hC H;unfold Ze at h;refine .tR 1 V H λb1 G H=>(.aV V (.na H λH=>(.tR 5 V H λb2 G H=>(.mV V (.m1 cv0 V V ?_)))));obtain ⟨x1,q1,h⟩:=bs h;refine .Z4V (ys:=[(vl (cL Span.cs) s),cv0]) (r:=(vi x1)) H V (Z4l (C:=C) hs0 hp0 hf0 q1) hC nofun V λG H=>(.iV V (.aV V (.na H λH=>(.ret ?_))));obtain rfl:=sj h;exact (EndsH.H (xs:=[(vb (decide (x1>=0)))]) (.inr V) H (.tmp (v:=(vb (decide (x1>=0)))) V .nil) (.one (.c (.v _))) 0 V)
theorem ZDX {l:(List Span)} {r:Bool} (h:Z5S l=r):Fn CX 143 [(vl Span.cs l)] (vb r):=by
 refine Fn.go Tryz.func143 V λG H=>?_;unfold Z5S at h;refine .tR 1 V H λb1 G H=>(.aV V (.na H λH=>(.tR 4 V H λb2 G H=>(.mV V (.nV V (.iV V (.aV V (.na H λH=>?_))))))));refine .ret ?_;subst h;exact Ends.eR V
theorem gran_bare_fn {f:Form} {r:Bool} (h:Z3v f=some r):Fn CX 124 [(.agg (vs (Form.cs f)))] (vb r):=by
 refine Fn.go Tryz.func124 V λG H=>?_;unfold Z3v at h;refine .tR 2 V H λb1 G H=>(.bxc (cs:=(vF f)) H V V V λG H=>(.aV V (.na H λH=>(.tR 5 V H λb2 G H=>(.fV H 0 V (.lV H 0 V ?_))))));obtain ⟨x1,q1,h⟩:=bs h;refine .Z4V (ys:=[(vl (cL Span.cs) f.Core),(.v (.fn 143))]) (r:=(vb x1)) H V (Z2F (C:=[]) V (λ_=>V) (λz0 y hz=>(CloH.fn (Fn.toH (ZDX (Option.some.inj hz)) _))) q1) .nil nofun V λG H=>(.tV V (.aV V (.na H λH=>(.ret ?_))));obtain rfl:=sj h;exact Ends.eR V
theorem gran_some_fn {f:Form} {i:Int} {r:Bool} (h:Z5E f i=some r):Fn CX 125 [(.agg (vs (Form.cs f))),(vi i)] (vb r):=by
 refine Fn.go Tryz.func125 V λG H=>?_;unfold Z5E at h;refine .tR 2 V H λb1 G H=>(.bxc (cs:=(vF f)) H V V V λG H=>(.aV V (.na H λH=>(.tR 10 V H λb2 G H=>(.LV (vF f) H 0 V (.mV V ?_))))));obtain ⟨x1,q1,h⟩:=bs h;refine .cV (ZAf q1) V (.m1 (.tup [(vl Span.cs x1.1),(vi x1.2.1),(vi x1.2.2)]) V V (.xV V (.xV V (.xV V (.aV V (.aV V (.aV V (.na H λH=>?_))))))));refine .tR 4 V H λb3 G H=>(.mV V (.nV V (.iV V (.aV V (.na H λH=>(.ret ?_))))));obtain rfl:=sj h;exact Ends.eR V
theorem ZAq {f:Form} {from':Int} {by':Int} {r:Int×Bool} (h:Z0A f from' by'=some r):Fn CX 103 [(.agg (vs (Form.cs f))),(vi from'),(vi by')] (.tup [(vi r.1),(vb r.2)]):=by
 refine Fn.go Tryz.func103 V λG H=>?_;unfold Z0A at h;refine .tR 3 V H λb1 G H=>(.bxc (cs:=(vF f)) H V V V λG H=>(.aV V (.aV V (.na H λH=>(.then (.tR 2 V H λb2 G H=>(.LV (vF f) H 0 V ?_)))))));obtain ⟨x1,q1,h⟩:=bs h;refine .cV (gran_bare_fn q1) V (.na H λH=>?_);refine .wh h V ?_ ?_<;>intro h
 ·refine .tR 8 V H λb3 G H=>(.LV (vF f) H 0 V (.mV V ?_));obtain ⟨x2,q2,h⟩:=bs h;refine .cV (ZCI q2) V (.m1 (.tup [(vi x2.1),(vb x2.2)]) V V (.xV V (.xV V (.aV V (.aV V (.na H λH=>(.then ?_)))))));refine .jn h .normal (λy1=>[(2,(vi by')),(3,(.ptr (b1+0) 4 0)),(8,(vi y1))]) (λy1=>[.blk (b1+0) 64 (vF f)]) (λy1 h=>?_) λy1 e G H h=>?_
  ·refine .tR 6 V H λb4 G H=>(.mV V (.iV V (.mV V ?_)));refine .md H 3 [(24,(vb ((decide (by'<0))&&(!x2.2)))),(2,(vi by')),(3,(.ptr (b1+0) 4 0)),(8,(vi x2.1))] [.blk (b1+0) 64 (vF f)] V ?_ λe G H=>?_
   ·refine .split V V ?_ ?_<;>intro hc2
    ·refine .mV V (.tV V (.kT V (.nil ?_)));exact ⟨⟨Z0k hc2,V,V,V,U⟩,H.wk (by omega)⟩
    ·refine .ps 2 V (.kF V (.nil ?_));exact ⟨⟨Z0l hc2,V,V,V,U⟩,H.wk (by omega)⟩
   refine .na H λH=>?_;refine .wh h V ?_ ?_<;>intro h
   ·refine .Z5 3 V H λb5 G H=>(.mV V (.iV V (.aV V (.na H λH=>?_))));obtain rfl:=sj h;exact ⟨V,EI V,H⟩
   refine .skip ?_;obtain rfl:=sj h;exact ⟨V,EI V,H⟩
  refine .then (.inBlock ?_);obtain ⟨y2,hj2,h⟩:=bs h;obtain ⟨n1,hj2⟩:=ZG.1 hj2;refine .mono (Runs.loopO hj2 (λs1 e G=>Z4 e [(2,(vi by')),(3,(.ptr (b1+0) 4 0)),(8,(vi s1))]/\Hs G [.blk (b1+0) 64 (vF f)]) (λy2 x e G=>(∃ a1,y2=(.go a1)/\x = .exit 0/\Z4 e []/\Hs G [])\/(∃ r',y2=(.ret r')/\x = .ret/\Ends CX Tryz.f103.results.toList (.tup [(vi r'.1),(vb r'.2)]) x e G)) ⟨EI V,H⟩ ?_) ?_
  ·intro s1 e G hI z h;obtain ⟨he,H⟩:=hI;obtain ⟨e,rfl⟩:=he.ex;unfold Z0A.s0 at h;refine .then (.tR 9 V H λb6 G H=>(.mV V (.iV V (.mV V ?_))));refine .md H 6 [(35,(vb ((decide (s1>=0))&&(decide (s1<(f.Odd.length:Int)))))),(2,(vi by')),(3,(.ptr (b1+0) 4 0)),(8,(vi s1))] [.blk (b1+0) 64 (vF f)] V ?_ λe G H=>?_
   ·refine .split V V ?_ ?_<;>intro hc4
    ·refine .mV V (.fV H 0 V (.lV H 0 V (.nV V (.iV V (.kT V (.nil ?_))))));exact ⟨⟨Z0k hc4,V,V,V,U⟩,H.wk (by omega)⟩
    ·refine .ps 5 V (.kF V (.nil ?_));exact ⟨⟨Z0l hc4,V,V,V,U⟩,H.wk (by omega)⟩
   refine .na H λH=>?_;refine .wh h V ?_ ?_<;>intro h
   ·refine .skip (.then (.inBlock (.tR 8 V H λb7 G H=>(.fV H 0 V (.lV H 0 V (.mV V ?_))))));obtain ⟨x3,q3,h⟩:=bs h;refine .jV q3 V (.Zd V V V V (.pV V (.nV V (.iV V (.na H λH=>?_)))));refine .wh h V ?_ ?_<;>intro h
    ·refine .tR 8 V H λb8 G H=>(.fV H 0 V (.lV H 0 V (.mV V ?_)));obtain ⟨x4,q4,h⟩:=bs h;refine .jV q4 V (.Zd V V V V (.pV V (.aV V (.aV V (.na H λH=>(.ret ?_))))));obtain rfl:=sj h;exact ⟨nofun,(.inr ⟨_,V,V,(Ends.H (xs:=[(vi x4.Index),(vb true)]) (.inr V) H (.tmp (v:=(vi x4.Index)) V (.tmp (v:=(vb true)) V .nil)) (.two (.cons (.c (.v _)) (.cons (.c (.v _)) .nil))))⟩)⟩
    refine .skip (.Z5 4 V H λb9 G H=>(.mV V (.mV V (.iV V (.aV V (.na H λH=>?_))))));obtain rfl:=sj h;exact ⟨V,EI V,H⟩
   refine .exit ?_;obtain rfl:=sj h;exact ⟨nofun,(.inl ⟨_,V,V,U,(H.erase 0)⟩)⟩
  ·rintro x e G (⟨a2,rfl,rfl,he,H⟩|⟨r',rfl,rfl,hE⟩)
   ·replace h:=jgo h;obtain ⟨e,rfl⟩:=he.ex;refine .tR 2 V H λb10 G H=>(.aV V (.aV V (.na H λH=>(.ret ?_))));obtain rfl:=sj h;exact Ends.eR V
   ·replace h:=jret h;obtain rfl:=sj h;exact hE
 refine .skip (.then (.tR 2 V H λb11 G H=>(.mV V (.aV V (.na H λH=>(.inBlock ?_))))));obtain ⟨y3,hj3,h⟩:=bs h;obtain ⟨n2,hj3⟩:=ZG.1 hj3;refine .mono (Runs.loopO hj3 (λs2 e G=>Z4 e [(2,(vi by')),(3,(.ptr (b1+0) 4 0)),(10,(vi s2))]/\Hs G [.blk (b1+0) 64 (vF f)]) (λy3 x e G=>(∃ a3,y3=(.go a3)/\x = .exit 2/\Z4 e []/\Hs G [])\/(∃ r',y3=(.ret r')/\x = .ret/\Ends CX Tryz.f103.results.toList (.tup [(vi r'.1),(vb r'.2)]) x e G)) ⟨EI V,H⟩ ?_) ?_
 ·intro s2 e G hI z h;obtain ⟨he,H⟩:=hI;obtain ⟨e,rfl⟩:=he.ex;unfold Z0A.s1 at h;refine .then (.tR 2 V H λb12 G H=>(.mV V (.cV (Z5f V) V (.na H λH=>?_))));refine .wh h V ?_ ?_<;>intro h
  ·refine .skip (.then (.inBlock (.tR 3 V H λb13 G H=>(.LV (vF f) H 0 V (.mV V ?_)))));obtain ⟨x5,q5,h⟩:=bs h;refine .cV (gran_some_fn q5) V (.na H λH=>?_);refine .wh h V ?_ ?_<;>intro h
   ·refine .tR 3 V H λb14 G H=>(.mV V (.aV V (.aV V (.na H λH=>(.ret ?_)))));obtain rfl:=sj h;exact ⟨nofun,(.inr ⟨_,V,V,(Ends.H (xs:=[(vi s2),(vb true)]) (.inr V) H (.tmp (v:=(vi s2)) V (.tmp (v:=(vb true)) V .nil)) (.two (.cons (.c (.v _)) (.cons (.c (.v _)) .nil))))⟩)⟩
   refine .skip (.Z5 4 V H λb15 G H=>(.mV V (.mV V (.iV V (.aV V (.na H λH=>?_))))));obtain rfl:=sj h;exact ⟨V,EI V,H⟩
  refine .exit ?_;obtain rfl:=sj h;exact ⟨nofun,(.inl ⟨_,V,V,U,(H.erase 0)⟩)⟩
 ·rintro x e G (⟨a4,rfl,rfl,he,H⟩|⟨r',rfl,rfl,hE⟩)
  ·replace h:=jgo h;obtain ⟨e,rfl⟩:=he.ex;refine .tR 2 V H λb16 G H=>(.aV V (.aV V (.na H λH=>(.ret ?_))));obtain rfl:=sj h;exact Ends.eR V
  ·replace h:=jret h;obtain rfl:=sj h;exact hE
theorem ZDU {f:Form} {i:Int} {r:Int×Bool} (h:Z3E f i=some r):Fn CX 80 [(.agg (vs (Form.cs f))),(vi i)] (.tup [(vi r.1),(vb r.2)]):=by
 refine Fn.go Tryz.func80 V λG H=>?_;unfold Z3E at h;refine .tR 3 V H λb1 G H=>(.bxc (cs:=(vF f)) H V V V λG H=>(.aV V (.aV V (.na H λH=>(.then (.tR 2 V H λb2 G H=>(.mV V (.iV V ?_))))))));refine .na H λH=>?_;refine .wh h V ?_ ?_<;>intro h
 ·refine .tR 2 V H λb3 G H=>(.aV V (.aV V (.na H λH=>(.ret ?_))));obtain rfl:=sj h;exact Ends.eR V
 refine .skip (.tR 9 V H λb4 G H=>(.LV (vF f) H 0 V (.mV V (.iV V (.min2 V V V ?_)))));obtain ⟨x1,q1,h⟩:=bs h;refine .cV (ZAq q1) V (.xV V (.xV V (.aV V (.aV V (.na H λH=>(.ret ?_))))));obtain rfl:=sj h;exact Ends.eR V
theorem ZDL {f:Form} {i:Int} {r:Int×Bool} (h:Z2B f i=some r):Fn CX 81 [(.agg (vs (Form.cs f))),(vi i)] (.tup [(vi r.1),(vb r.2)]):=by
 refine Fn.go Tryz.func81 V λG H=>?_;unfold Z2B at h;refine .tR 3 V H λb1 G H=>(.bxc (cs:=(vF f)) H V V V λG H=>(.aV V (.aV V (.na H λH=>(.then (.tR 2 V H λb2 G H=>(.mV V (.iV V ?_))))))));refine .na H λH=>?_;refine .wh h V ?_ ?_<;>intro h
 ·refine .tR 2 V H λb3 G H=>(.aV V (.aV V (.na H λH=>(.ret ?_))));obtain rfl:=sj h;exact Ends.eR V
 refine .skip (.tR 9 V H λb4 G H=>(.LV (vF f) H 0 V (.mV V (.iV V (.max2 V V V ?_)))));obtain ⟨x1,q1,h⟩:=bs h;refine .cV (ZAq q1) V (.xV V (.xV V (.aV V (.aV V (.na H λH=>(.ret ?_))))));obtain rfl:=sj h;exact Ends.eR V
theorem Z6Y {a:(List Span)} {b:(List Span)} {r:Bool} (h:Z1E a b=some r):Fn CX 82 [(vl Span.cs a),(vl Span.cs b)] (vb r):=by
 refine Fn.go Tryz.func82 V λG H=>?_;unfold Z1E at h;refine .tR 1 V H λb1 G H=>(.aV V (.na H λH=>(.then (.Z0C 23 V (by kernel_rfl) H λb2 G H B2=>(.mV V (.nV V (.iV V (.mV V ?_))))))));refine .md H 4 [(12,(vb (((a.length:Int)==0)||((b.length:Int)==0)))),(0,(vl Span.cs a)),(1,(vl Span.cs b))] [] rfl ?_ λe G H=>?_
 ·refine .split V V ?_ ?_<;>intro hc1
  ·refine .ps 3 V (.kT V (.nil ?_));exact ⟨⟨or_T hc1,V,V,U⟩,H.wk (by omega)⟩
  ·refine .mV V (.nV V (.iV V (.kF V (.nil ?_))));exact ⟨⟨or_F hc1,V,V,U⟩,H.wk (by omega)⟩
 refine .mV V ?_;obtain ⟨y1,hj1,h⟩:=bs h;refine .md H 13 [(26,(vb y1))] [] V ?_ λe G H=>?_
 ·refine .sp hj1 V ?_ ?_<;>intro h
  ·refine .ps 12 V (.kT V (.nil ?_));obtain rfl:=sj h;exact ⟨EI V,H.wk (by omega)⟩
  refine .mV V (.mV V (.nV V (.iV V (.wt V V ?_))));obtain ⟨x1,q1,h⟩:=bs h;refine .jV q1 V (.wt V V (.Zd V V V V (.pV V (.mV V (.wt V V ?_)))));obtain ⟨x2,q2,h⟩:=bs h;refine .jV q2 V (.wt V V (.Zd V V V V (.pV V (.iV V (.kF V (.nil ?_))))));obtain rfl:=sj h;exact ⟨EI V,H.wk (by omega)⟩
 refine .aV V (.na H λH=>(.ret ?_));obtain rfl:=sj h;exact Ends.eR V
theorem ZDY {f:Form} {i:Int} {r:Bool} (h:Z2h f i=some r):Fn CX 52 [(.agg (vs (Form.cs f))),(vi i)] (vb r):=by
 refine Fn.go Tryz.func52 V λG H=>?_;unfold Z2h at h;refine .tR 2 V H λb1 G H=>(.bxc (cs:=(vF f)) H V V V λG H=>(.aV V (.na H λH=>(.tR 8 V H λb2 G H=>(.LV (vF f) H 0 V (.mV V ?_))))));obtain ⟨x1,q1,h⟩:=bs h;refine .cV (Z70 q1) V (.m1 (.tup [(vl Span.cs x1.1),(vi x1.2)]) V V (.xV V (.xV V (.aV V (.aV V (.na H λH=>(.then (.tR 2 V H λb3 G H=>?_))))))));refine .mV V (.iV V (.na H λH=>?_));refine .wh h V ?_ ?_<;>intro h
 ·refine .tR 1 V H λb4 G H=>(.aV V (.na H λH=>(.ret ?_)));obtain rfl:=sj h;exact Ends.eR V
 refine .skip (.tR 8 V H λb5 G H=>(.LV (vF f) H 0 V (.mV V ?_)));obtain ⟨x2,q2,h⟩:=bs h;refine .cV (ZDU q2) V (.m1 (.tup [(vi x2.1),(vb x2.2)]) V V (.xV V (.xV V (.aV V (.aV V (.na H λH=>(.tR 8 V H λb6 G H=>(.LV (vF f) H 0 V ?_))))))));refine .mV V ?_;obtain ⟨x3,q3,h⟩:=bs h;refine .cV (ZDL q3) V (.m1 (.tup [(vi x3.1),(vb x3.2)]) V V (.xV V (.xV V (.aV V (.aV V (.na H λH=>(.tR 2 V H λb7 G H=>(.a1 .nils V V ?_))))))));refine .a1 .nils V V (.na H λH=>(.then ?_));obtain ⟨y1,hj1,h⟩:=bs h;refine .mono (Q:=λx e G=>(∃ a1,∃ (w1:PV),RO w1 (a1.map Span.cs)/\y1=(.go a1)/\x = .normal/\Z4 e [(2,(.ptr (b1+0) 4 0)),(5,(vl Span.cs x1.1)),(9,(vi x3.1)),(10,(vb x3.2)),(11,w1),(12,.nils)]/\Hs G [.blk (b1+0) 64 (vF f)])\/(∃ r',y1=(.ret r')/\x = .ret/\Ends CX Tryz.f52.results.toList (vb r') x e G)) ?_ ?_
 ·replace h:=hj1;refine .tR 1 V H λb8 G H=>(.mV V (.na H λH=>?_));refine .wh h V ?_ ?_<;>intro h
  ·refine .tR 8 V H λb9 G H=>(.LV (vF f) H 0 V (.mV V ?_));obtain ⟨x4,q4,h⟩:=bs h;refine .cV (Z70 q4) V (.m1 (.tup [(vl Span.cs x4.1),(vi x4.2)]) V V (.xV V (.xV V (.aV V (.aV V (.na H λH=>(.tR 2 V H λb10 G H=>(.mV V ?_))))))));refine .iV V (.na H λH=>?_);refine .wh h V ?_ ?_<;>intro h
   ·refine .tR 1 V H λb11 G H=>(.aV V (.na H λH=>(.ret ?_)));obtain rfl:=sj h;exact (.inr ⟨_,V,V,(Ends.H (xs:=[(vb false)]) (.inr V) H (.tmp (v:=(vb false)) V .nil) (.one (.c (.v _))))⟩)
   refine .skip ?_;obtain rfl:=sj h;exact (.inl ⟨_,(vl Span.cs x4.1),.inr V,V,V,EI V,H⟩)
  refine .skip ?_;obtain rfl:=sj h;exact (.inl ⟨_,.nils,.inl ⟨V,V⟩,V,V,EI V,H⟩)
 ·rintro x e G (⟨a2,w2,hw2,rfl,rfl,he,H⟩|⟨r',rfl,rfl,hE⟩)
  ·replace h:=jgo h;obtain ⟨e,rfl⟩:=he.ex;refine .then ?_;obtain ⟨y2,hj2,h⟩:=bs h;refine .mono (Q:=λx e G=>(∃ a3,∃ (w3:PV),RO w3 (a3.map Span.cs)/\y2=(.go a3)/\x = .normal/\Z4 e [(5,(vl Span.cs x1.1)),(11,w2),(12,w3)]/\Hs G [])\/(∃ r',y2=(.ret r')/\x = .ret/\Ends CX Tryz.f52.results.toList (vb r') x e G)) ?_ ?_
   ·replace h:=hj2;refine .tR 1 V H λb12 G H=>(.mV V (.na H λH=>?_));refine .wh h V ?_ ?_<;>intro h
    ·refine .tR 8 V H λb13 G H=>(.LV (vF f) H 0 V (.mV V ?_));obtain ⟨x5,q5,h⟩:=bs h;refine .cV (Z70 q5) V (.m1 (.tup [(vl Span.cs x5.1),(vi x5.2)]) V V (.xV V (.xV V (.aV V (.aV V (.na H λH=>(.tR 2 V H λb14 G H=>(.mV V ?_))))))));refine .iV V (.na H λH=>?_);refine .wh h V ?_ ?_<;>intro h
     ·refine .tR 1 V H λb15 G H=>(.aV V (.na H λH=>(.ret ?_)));obtain rfl:=sj h;exact (.inr ⟨_,V,V,(Ends.H (xs:=[(vb false)]) (.inr V) H (.tmp (v:=(vb false)) V .nil) (.one (.c (.v _))))⟩)
     refine .skip ?_;obtain rfl:=sj h;exact (.inl ⟨_,(vl Span.cs x5.1),.inr V,V,V,EI V,(H.erase 0)⟩)
    refine .skip ?_;obtain rfl:=sj h;exact (.inl ⟨_,.nils,.inl ⟨V,V⟩,V,V,EI V,(H.erase 0)⟩)
   ·rintro x e G (⟨a4,w4,hw4,rfl,rfl,he,H⟩|⟨r',rfl,rfl,hE⟩)
    ·replace h:=jgo h;obtain ⟨e,rfl⟩:=he.ex;refine .tR 14 V H λb16 G H=>(.m1 w2 V V (.mV V ?_));obtain ⟨x6,q6,h⟩:=bs h;refine .callX (xs:=[w2,(vl Span.cs x1.1)]) (ys:=[(vl Span.cs a2),(vl Span.cs x1.1)]) H V (.cons (.c (.ro hw2)) (.cons (.c (.v _)) .nil)) (Z6Y q6) V V nofun V λG H=>(.mV V ?_);obtain ⟨y3,hj3,h⟩:=bs h;refine .md H 4 [(58,(vb y3)),(11,w2),(12,w4)] [] V ?_ λe G H=>?_
     ·refine .sp hj3 V ?_ ?_<;>intro h
      ·refine .mV V (.m1 w4 V V (.wt V V ?_));obtain ⟨x7,q7,h⟩:=bs h;refine .callX (xs:=[(vl Span.cs x1.1),w4]) (ys:=[(vl Span.cs x1.1),(vl Span.cs a4)]) H V (.cons (.c (.v _)) (.cons (.c (.ro hw4)) .nil)) (Z6Y q7) V V nofun V λG H=>(.kT V (.nil ?_));obtain rfl:=sj h;exact ⟨EI V,H.wk (by omega)⟩
      refine .ps 3 V (.kF V (.nil ?_));obtain rfl:=sj h;exact ⟨EI V,H.wk (by omega)⟩
     refine .mV V ?_;obtain ⟨y4,hj4,h⟩:=bs h;refine .md H 4 [(63,(vb y4))] [] V ?_ λe G H=>?_
     ·refine .sp hj4 V ?_ ?_<;>intro h
      ·refine .m1 w2 V V (.m1 w4 V V (.wt V V ?_));obtain ⟨x8,q8,h⟩:=bs h;refine .callX (xs:=[w2,w4]) (ys:=[(vl Span.cs a2),(vl Span.cs a4)]) H V (.cons (.c (.ro hw2)) (.cons (.c (.ro hw4)) .nil)) (Z6Y q8) V V nofun V λG H=>(.kT V (.nil ?_));obtain rfl:=sj h;exact ⟨EI V,H.wk (by omega)⟩
      refine .ps 3 V (.kF V (.nil ?_));obtain rfl:=sj h;exact ⟨EI V,H.wk (by omega)⟩
     refine .aV V (.na H λH=>(.ret ?_));obtain rfl:=sj h;exact Ends.eR V
    ·replace h:=jret h;obtain rfl:=sj h;exact hE
  ·replace h:=jret h;obtain rfl:=sj h;exact hE
theorem Z9k {f:Form} {r:Int} (h:Z09 f=some r):Fn CX 30 [(.agg (vs (Form.cs f)))] (vi r):=by
 refine Fn.go Tryz.func30 V λG H=>?_;unfold Z09 at h;refine .tR 2 V H λb1 G H=>(.bxc (cs:=(vF f)) H V V V λG H=>(.aV V (.na H λH=>(.then (.tR 15 V H λb2 G H=>(.fV H 0 V (.lV H 0 V (.nV V ?_))))))));refine .iV V (.mV V ?_);refine .md H 5 [(14,(vb ((decide ((f.Core.length:Int)>6000))||(decide ((f.Odd.length:Int)>6000))))),(1,(.ptr (b1+0) 4 0))] [.blk (b1+0) 64 (vF f)] rfl ?_ λe G H=>?_
 ·refine .split V V ?_ ?_<;>intro hc1
  ·refine .ps 4 V (.kT V (.nil ?_));exact ⟨⟨or_T hc1,V,U⟩,H.wk (by omega)⟩
  ·refine .fV H 0 V (.lV H 0 V (.nV V (.iV V (.kF V (.nil ?_)))));exact ⟨⟨or_F hc1,V,U⟩,H.wk (by omega)⟩
 refine .mV V ?_;obtain ⟨y1,hj1,h⟩:=bs h;refine .md H 4 [(19,(vb y1)),(1,(.ptr (b1+0) 4 0))] [.blk (b1+0) 64 (vF f)] V ?_ λe G H=>?_
 ·refine .sp hj1 V ?_ ?_<;>intro h
  ·refine .ps 3 V (.kT V (.nil ?_));obtain rfl:=sj h;exact ⟨EI V,H.wk (by omega)⟩
  refine .LV (vF f) H 0 V (.wt V V ?_);obtain ⟨x1,q1,h⟩:=bs h;refine .cV (ZB1 q1) V (.iV V (.kF V (.nil ?_)));obtain rfl:=sj h;exact ⟨EI V,H.wk (by omega)⟩
 refine .na H λH=>?_;refine .wh h V ?_ ?_<;>intro h
 ·refine .tR 1 V H λb3 G H=>(.aV V (.na H λH=>(.ret ?_)));obtain rfl:=sj h;exact Ends.eR V
 refine .skip (.then (.tR 8 V H λb4 G H=>(.LV (vF f) H 0 V ?_)));obtain ⟨x2,q2,h⟩:=bs h;refine .cV (gran_shape_fn q2) V (.tV V (.mV V ?_));obtain ⟨y2,hj2,h⟩:=bs h;refine .md H 4 [(27,(vb y2)),(1,(.ptr (b1+0) 4 0))] [.blk (b1+0) 64 (vF f)] V ?_ λe G H=>?_
 ·refine .sp hj2 V ?_ ?_<;>intro h
  ·refine .ps 3 V (.kT V (.nil ?_));obtain rfl:=sj h;exact ⟨EI V,H.wk (by omega)⟩
  refine .LV (vF f) H 0 V (.wt V V ?_);obtain ⟨x3,q3,h⟩:=bs h;refine .cV (gran_turns_fn q3) V (.tV V (.kF V (.nil ?_)));obtain rfl:=sj h;exact ⟨EI V,H.wk (by omega)⟩
 refine .na H λH=>?_;refine .wh h V ?_ ?_<;>intro h
 ·refine .tR 1 V H λb5 G H=>(.aV V (.na H λH=>(.ret ?_)));obtain rfl:=sj h;exact Ends.eR V
 refine .skip (.then (.tR 4 V H λb6 G H=>(.fV H 0 V (.lV H 0 V (.nV V (.mV V (.na H λH=>(.inBlock ?_))))))));obtain ⟨y3,hj3,h⟩:=bs h;obtain ⟨n1,hj3⟩:=ZG.1 hj3;refine .mono (Runs.loopO hj3 (λs1 e G=>Z4 e [(1,(.ptr (b1+0) 4 0)),(29,(vl Granule.cs f.Odd)),(30,(vi (f.Odd.length:Int))),(31,(vi s1))]/\Hs G [.blk (b1+0) 64 (vF f)]) (λy3 x e G=>(∃ a1,y3=(.go a1)/\x = .exit 0/\Z4 e []/\Hs G [])\/(∃ r',y3=(.ret r')/\x = .ret/\Ends CX Tryz.f30.results.toList (vi r') x e G)) ⟨EI V,H⟩ ?_) ?_
 ·intro s1 e G hI z h;obtain ⟨he,H⟩:=hI;obtain ⟨e,rfl⟩:=he.ex;unfold Z09.s0 at h;refine .tR 1 V H λb7 G H=>(.iV V (.na H λH=>(.then ?_)));refine .wh h V ?_ ?_<;>intro h
  ·refine .skip (.then (.inBlock (.tR 4 V H λb8 G H=>?_)));obtain ⟨x4,q4,h⟩:=bs h;refine .jV q4 V (.qV [(.int .i64 x4.Index),(.sl (x4.Ticks.map Span.cs))] V (.alc (cs:=[(vi 0),.nils]) H V V λG H=>(.sV [(vi x4.Index),(vl Span.cs x4.Ticks)] H 0 V λG H=>(.na H λH=>(.tR 5 V H λb9 G H=>(.LV (vF f) H 1 V (.fV H 0 V (.lV H 0 V ?_))))))));obtain ⟨x5,q5,h⟩:=bs h;refine .cV (ZDY q5) V (.tV V (.na H λH=>?_));refine .wh h V ?_ ?_<;>intro h
   ·refine .tR 1 V H λb10 G H=>(.aV V (.na H λH=>(.ret ?_)));obtain rfl:=sj h;exact ⟨nofun,(.inr ⟨_,V,V,(Ends.H (xs:=[(vi 50)]) (.inr V) H (.tmp (v:=(vi 50)) V .nil) (.one (.c (.v _))))⟩)⟩
   refine .skip (.Z5 2 V H λb11 G H=>(.iV V (.mV V (.na H λH=>?_))));obtain rfl:=sj h;exact ⟨V,EI V,(H.erase 0)⟩
  refine .exit ?_;obtain rfl:=sj h;exact ⟨nofun,(.inl ⟨_,V,V,U,(H.erase 0)⟩)⟩
 ·rintro x e G (⟨a2,rfl,rfl,he,H⟩|⟨r',rfl,rfl,hE⟩)
  ·replace h:=jgo h;obtain ⟨e,rfl⟩:=he.ex;refine .tR 1 V H λb12 G H=>(.aV V (.na H λH=>(.ret ?_)));obtain rfl:=sj h;exact Ends.eR V
  ·replace h:=jret h;obtain rfl:=sj h;exact hE
theorem Z5N {l:(List Span)} {r:Span×Bool} (h:Z1f l=some r):Fn CX 61 [(vl Span.cs l)] (.tup [(.agg (vs (Span.cs r.1))),(vb r.2)]):=by
 refine Fn.go Tryz.func61 V λG H=>?_;unfold Z1f at h;refine .tR 2 V H λb1 G H=>(.alc (cs:=[(vi 0),(vi 0)]) H V V λG H=>(.aV V (.na H λH=>(.then (.tR 3 V H λb2 G H=>(.mV V (.nV V (.iV V ?_))))))));refine .na H λH=>?_;refine .wh h V ?_ ?_<;>intro h
 ·refine .tR 3 V H λb3 G H=>(.bV [(vi 0),(vi 0)] V (.sV [(vi 0),(vi 0)] H 0 V λG H=>(.aV V (.na H λH=>(.ret ?_)))));obtain rfl:=sj h;exact (Ends.H (xs:=[(.agg [(vi 0),(vi 0)]),(vb false)]) (.inr V) H (.agg (cs:=[(vi 0),(vi 0)]) 0 V V V V V V V (.tmp (v:=(vb false)) V .nil)) (.two (.cons (.p V) (.cons (.c (.v _)) .nil))))
 refine .skip (.then (.Z0C 14 V (by kernel_rfl) H λb4 G H B4=>(.mV V ?_)));obtain ⟨x1,q1,h⟩:=bs h;refine .jV q1 V (.Zd V V V V (.pV V (.mV V (.mV V (.nV V (.iV V ?_))))));obtain ⟨x2,q2,h⟩:=bs h;refine .jV q2 V (.Zd V V V V (.pV V (.bV [(vi x1.From),(vi x2.To)] V (.Z2p (cells':=[(vi x1.From),(vi x2.To)]) H 0 V V V V V V V V V (λ_=>.inl ⟨B4 0 _ V _ V,(Z4t (by kernel_rfl))⟩) λG H=>(.aV V (.na H λH=>(.ret ?_)))))));obtain rfl:=sj h;exact (Ends.H (xs:=[(.agg [(vi x1.From),(vi x2.To)]),(vb true)]) (.inr V) H (.agg (cs:=[(vi x1.From),(vi x2.To)]) 0 V V V V V V V (.tmp (v:=(vb true)) V .nil)) (.two (.cons (.p V) (.cons (.c (.v _)) .nil))))
end Go.Dn

namespace Go.Dn
open Go Go.Proofs
set_option maxRecDepth 100000
set_option maxHeartbeats 4000000
theorem Z9u {f:Form} {r:Bool} (h:ZW f=some r):Fn CX 38 [(.agg (vs (Form.cs f)))] (vb r):=by
 refine Fn.go Tryz.func38 V λG H=>?_;unfold ZW at h;refine .tR 2 V H λb1 G H=>(.bxc (cs:=(vF f)) H V V V λG H=>(.aV V (.na H λH=>(.then (.tR 13 V H λb2 G H=>(.LV (vF f) H 0 V ?_))))));obtain ⟨x1,q1,h⟩:=bs h;refine .cV (Z9T q1) V (.tV V (.mV V ?_));obtain ⟨y1,hj1,h⟩:=bs h;refine .md H 4 [(16,(vb y1)),(1,(.ptr (b1+0) 4 0))] [.blk (b1+0) 64 (vF f)] V ?_ λe G H=>?_
 ·refine .sp hj1 V ?_ ?_<;>intro h
  ·refine .ps 3 V (.kT V (.nil ?_));obtain rfl:=sj h;exact ⟨EI V,H.wk (by omega)⟩
  refine .LV (vF f) H 0 V (.wt V V ?_);obtain ⟨x2,q2,h⟩:=bs h;refine .cV (Z9k q2) V (.iV V (.kF V (.nil ?_)));obtain rfl:=sj h;exact ⟨EI V,H.wk (by omega)⟩
 refine .mV V ?_;refine .md H 4 [(21,(vb (y1||(decide (f.Period>200))))),(1,(.ptr (b1+0) 4 0))] [.blk (b1+0) 64 (vF f)] rfl ?_ λe G H=>?_
 ·refine .split V V ?_ ?_<;>intro hc2
  ·refine .ps 3 V (.kT V (.nil ?_));exact ⟨⟨or_T hc2,V,U⟩,H.wk (by omega)⟩
  ·refine .fV H 0 V (.lV H 0 V (.iV V (.kF V (.nil ?_))));exact ⟨⟨or_F hc2,V,U⟩,H.wk (by omega)⟩
 refine .na H λH=>?_;refine .wh h V ?_ ?_<;>intro h
 ·refine .tR 1 V H λb3 G H=>(.aV V (.na H λH=>(.ret ?_)));obtain rfl:=sj h;exact Ends.eR V
 refine .skip (.then (.tR 4 V H λb4 G H=>(.fV H 0 V (.lV H 0 V (.nV V (.mV V (.na H λH=>(.inBlock ?_))))))));obtain ⟨y2,hj2,h⟩:=bs h;obtain ⟨n1,hj2⟩:=ZG.1 hj2;refine .mono (Runs.loopO hj2 (λs1 e G=>Z4 e [(1,(.ptr (b1+0) 4 0)),(23,(vl (cL Span.cs) f.Core)),(24,(vi (f.Core.length:Int))),(25,(vi s1))]/\Hs G [.blk (b1+0) 64 (vF f)]) (λy2 x e G=>(∃ a1,y2=(.go a1)/\x = .exit 0/\Z4 e [(1,(.ptr (b1+0) 4 0))]/\Hs G [.blk (b1+0) 64 (vF f)])\/(∃ r',y2=(.ret r')/\x = .ret/\Ends CX Tryz.f38.results.toList (vb r') x e G)) ⟨EI V,H⟩ ?_) ?_
 ·intro s1 e G hI z h;obtain ⟨he,H⟩:=hI;obtain ⟨e,rfl⟩:=he.ex;unfold ZW.s0 at h;refine .tR 1 V H λb5 G H=>(.iV V (.na H λH=>(.then ?_)));refine .wh h V ?_ ?_<;>intro h
  ·refine .skip (.then (.inBlock (.tR 3 V H λb6 G H=>?_)));obtain ⟨x3,q3,h⟩:=bs h;refine .jV q3 V (.pV V (.aV V (.na H λH=>(.tR 8 V H λb7 G H=>(.mV V ?_)))));obtain ⟨x4,q4,h⟩:=bs h;refine .cV (Z5N q4) V (.m1 (.tup [(.agg [(vi x4.1.From),(vi x4.1.To)]),(vb x4.2)]) V V (.xV V (.xV V (.alc (cs:=[(vi 0),(vi 0)]) H V V λG H=>(.sV [(vi x4.1.From),(vi x4.1.To)] H 0 V λG H=>(.aV V (.na H λH=>(.tR 11 V H λb8 G H=>?_))))))));refine .mV V (.mV V ?_);refine .md H 9 [(44,(vb (x4.2&&((decide (x4.1.From<(-100)))||(decide (x4.1.To>100)))))),(1,(.ptr (b1+0) 4 0)),(23,(vl (cL Span.cs) f.Core)),(24,(vi (f.Core.length:Int))),(25,(vi s1))] [.blk (b1+0) 64 (vF f)] rfl ?_ λe G H=>?_
   ·refine .split V V ?_ ?_<;>intro hc5
    ·refine .fV H 0 V (.lV H 0 V (.iV V (.mV V ?_)));refine .md H 4 [(43,(vb ((decide (x4.1.From<(-100)))||(decide (x4.1.To>100))))),(1,(.ptr (b1+0) 4 0)),(23,(vl (cL Span.cs) f.Core)),(24,(vi (f.Core.length:Int))),(25,(vi s1)),(35,(vb true))] [.blk (b1+0) 64 (vF f)] rfl ?_ λe G H=>?_
     ·refine .split V V ?_ ?_<;>intro hc6
      ·refine .ps 3 V (.kT V (.nil ?_));exact ⟨⟨or_T hc6,V,V,V,V,V,U⟩,(H.erase 0).wk (by omega)⟩
      ·refine .fV H 0 V (.lV H 0 V (.iV V (.kF V (.nil ?_))));exact ⟨⟨or_F hc6,V,V,V,V,V,U⟩,(H.erase 0).wk (by omega)⟩
     refine .kT V (.nil ?_);exact ⟨⟨Z0k hc5,V,V,V,V,U⟩,H.wk (by omega)⟩
    ·refine .ps 8 V (.kF V (.nil ?_));exact ⟨⟨Z0l hc5,V,V,V,V,U⟩,(H.erase 0).wk (by omega)⟩
   refine .na H λH=>?_;refine .wh h V ?_ ?_<;>intro h
   ·refine .tR 1 V H λb9 G H=>(.aV V (.na H λH=>(.ret ?_)));obtain rfl:=sj h;exact ⟨nofun,(.inr ⟨_,V,V,(Ends.H (xs:=[(vb false)]) (.inr V) H (.tmp (v:=(vb false)) V .nil) (.one (.c (.v _))))⟩)⟩
   refine .skip (.Z5 2 V H λb10 G H=>(.iV V (.mV V (.na H λH=>?_))));obtain rfl:=sj h;exact ⟨V,EI V,H⟩
  refine .exit ?_;obtain rfl:=sj h;exact ⟨nofun,(.inl ⟨_,V,V,EI V,H⟩)⟩
 ·rintro x e G (⟨a2,rfl,rfl,he,H⟩|⟨r',rfl,rfl,hE⟩)
  ·replace h:=jgo h;obtain ⟨e,rfl⟩:=he.ex;refine .then (.tR 4 V H λb11 G H=>(.fV H 0 V (.lV H 0 V (.nV V (.mV V (.na H λH=>(.inBlock ?_)))))));obtain ⟨y3,hj3,h⟩:=bs h;obtain ⟨n2,hj3⟩:=ZG.1 hj3;refine .mono (Runs.loopO hj3 (λs2 e G=>Z4 e [(47,(vl Granule.cs f.Odd)),(48,(vi (f.Odd.length:Int))),(49,(vi s2))]/\Hs G []) (λy3 x e G=>(∃ a3,y3=(.go a3)/\x = .exit 2/\Z4 e []/\Hs G [])\/(∃ r',y3=(.ret r')/\x = .ret/\Ends CX Tryz.f38.results.toList (vb r') x e G)) ⟨EI V,(H.erase 0)⟩ ?_) ?_
   ·intro s2 e G hI z h;obtain ⟨he,H⟩:=hI;obtain ⟨e,rfl⟩:=he.ex;unfold ZW.s1 at h;refine .tR 1 V H λb12 G H=>(.iV V (.na H λH=>(.then ?_)));refine .wh h V ?_ ?_<;>intro h
    ·refine .skip (.then (.inBlock (.tR 4 V H λb13 G H=>?_)));obtain ⟨x5,q5,h⟩:=bs h;refine .jV q5 V (.qV [(.int .i64 x5.Index),(.sl (x5.Ticks.map Span.cs))] V (.alc (cs:=[(vi 0),.nils]) H V V λG H=>(.sV [(vi x5.Index),(vl Span.cs x5.Ticks)] H 0 V λG H=>(.na H λH=>(.tR 8 V H λb14 G H=>(.fV H 0 V (.lV H 0 V (.iV V ?_))))))));refine .mV V ?_;refine .md H 4 [(60,(vb ((decide (x5.Index<(-100)))||(decide (x5.Index>100))))),(47,(vl Granule.cs f.Odd)),(48,(vi (f.Odd.length:Int))),(49,(vi s2))] [] rfl ?_ λe G H=>?_
     ·refine .split V V ?_ ?_<;>intro hc9
      ·refine .ps 3 V (.kT V (.nil ?_));exact ⟨⟨or_T hc9,V,V,V,U⟩,(H.erase 0).wk (by omega)⟩
      ·refine .fV H 0 V (.lV H 0 V (.iV V (.kF V (.nil ?_))));exact ⟨⟨or_F hc9,V,V,V,U⟩,(H.erase 0).wk (by omega)⟩
     refine .na H λH=>?_;refine .wh h V ?_ ?_<;>intro h
     ·refine .tR 1 V H λb15 G H=>(.aV V (.na H λH=>(.ret ?_)));obtain rfl:=sj h;exact ⟨nofun,(.inr ⟨_,V,V,(Ends.H (xs:=[(vb false)]) (.inr V) H (.tmp (v:=(vb false)) V .nil) (.one (.c (.v _))))⟩)⟩
     refine .skip (.Z5 2 V H λb16 G H=>(.iV V (.mV V (.na H λH=>?_))));obtain rfl:=sj h;exact ⟨V,EI V,H⟩
    refine .exit ?_;obtain rfl:=sj h;exact ⟨nofun,(.inl ⟨_,V,V,U,H⟩)⟩
   ·rintro x e G (⟨a4,rfl,rfl,he,H⟩|⟨r',rfl,rfl,hE⟩)
    ·replace h:=jgo h;obtain ⟨e,rfl⟩:=he.ex;refine .tR 1 V H λb17 G H=>(.aV V (.na H λH=>(.ret ?_)));obtain rfl:=sj h;exact Ends.eR V
    ·replace h:=jret h;obtain rfl:=sj h;exact hE
  ·replace h:=jret h;obtain rfl:=sj h;exact hE
theorem Z60 {i:Int} {many:Int} {r:Bool} (h:Z0b i many=r):Fn CX 31 [(vi i),(vi many)] (vb r):=by
 refine Fn.go Tryz.func31 V λG H=>?_;unfold Z0b at h;refine .tR 1 V H λb1 G H=>(.aV V (.na H λH=>(.tR 8 V H λb2 G H=>(.mV V (.iV V (.mV V ?_))))));refine .md H 4 [(11,(vb ((decide (i>=0))&&(decide (i<many)))))] [] V ?_ λe G H=>?_
 ·refine .split V V ?_ ?_<;>intro hc1
  ·refine .mV V (.mV V (.iV V (.kT V (.nil ?_))));exact ⟨⟨Z0k hc1,U⟩,H.wk (by omega)⟩
  ·refine .ps 3 V (.kF V (.nil ?_));exact ⟨⟨Z0l hc1,U⟩,H.wk (by omega)⟩
 refine .aV V (.na H λH=>(.ret ?_));subst h;exact Ends.eR V
theorem Z52 {s:(List Form)} {f:Form->Option Bool} {C:List Res} {cv0:PV} (hs0:cv0.one=true) (hp0:cv0.pure=true->C=[]) (hf0:∀ z0 y,f z0=some y->CloH CX cv0 [(.agg (vs (Form.cs z0)))] (vb y) C) {r:Int} (h:ZN s f=some r):FnH CX 53 [(vl Form.cs s),cv0] (vi r) C:=by
 refine FnH.of Tryz.func53 V V V V (Z2A V (Z2A (Z1g hs0) all_nil)) V (λh=>hp0 (Z26 h 1 V)) ?_;intro G L hC H;unfold ZN at h;refine .tR 1 V H λb1 G H=>(.aV V (.na H λH=>(.then (.tR 3 V H λb2 G H=>(.mV V (.nV V (.mV V (.na H λH=>?_))))))));refine .inBlock ?_;obtain ⟨y1,hj1,h⟩:=bs h;obtain ⟨n1,hj1⟩:=ZG.1 hj1;refine .mono (Runs.loopO hj1 (λs1 e G=>Z4 e [(0,(vl Form.cs s)),(1,cv0),(7,(vi (s.length:Int))),(8,(vi s1))]/\Hs G (L)) (λy1 x e G=>(∃ a1,y1=(.go a1)/\x = .exit 0/\Z4 e []/\Hs G (L))\/(∃ r',y1=(.ret r')/\x = .ret/\EndsH CX Tryz.f53.results.toList (vi r') L x e G)) ⟨EI V,H⟩ ?_) ?_
 ·intro s1 e G hI z h;obtain ⟨he,H⟩:=hI;obtain ⟨e,rfl⟩:=he.ex;unfold ZN.s0 at h;refine .tR 1 V H λb3 G H=>(.iV V (.na H λH=>(.then ?_)));refine .wh h V ?_ ?_<;>intro h
  ·refine .skip (.then (.inBlock (.tR 2 V H λb4 G H=>(.mV V (.aV V (.na H λH=>(.tR 6 V H λb5 G H=>(.m1 cv0 V V ?_))))))));refine .mV V (.mV V ?_);obtain ⟨x1,q1,h⟩:=bs h;refine .jV q1 V (.qV [(.int .i64 x1.Period),(.int .i64 x1.Count),(.sl (x1.Core.map (cL Span.cs))),(.sl (x1.Odd.map Granule.cs))] V ?_);obtain ⟨x2,q2,h⟩:=bs h;refine .callV (cv:=cv0) (ys:=[(.agg (vs (Form.cs x1)))]) (r:=(vb x2)) H V V (hf0 x1 _ q2) hC nofun V λG H=>(.na H λH=>?_);refine .wh h V ?_ ?_<;>intro h
   ·refine .tR 2 V H λb6 G H=>(.mV V (.aV V (.na H λH=>(.ret ?_))));obtain rfl:=sj h;exact ⟨nofun,(.inr ⟨_,V,V,(EndsH.H (xs:=[(vi s1)]) (.inr V) H (.tmp (v:=(vi s1)) V .nil) (.one (.c (.v _))) 0 V)⟩)⟩
   refine .skip (.Z5 2 V H λb7 G H=>(.iV V (.mV V (.na H λH=>?_))));obtain rfl:=sj h;exact ⟨V,EI V,H⟩
  refine .exit ?_;obtain rfl:=sj h;exact ⟨nofun,(.inl ⟨_,V,V,U,H⟩)⟩
 ·rintro x e G (⟨a2,rfl,rfl,he,H⟩|⟨r',rfl,rfl,hE⟩)
  ·replace h:=jgo h;obtain ⟨e,rfl⟩:=he.ex;refine .tR 1 V H λb8 G H=>(.aV V (.na H λH=>(.ret ?_)));obtain rfl:=sj h;exact (EndsH.H (xs:=[(vi (-1))]) (.inr V) H (.tmp (v:=(vi (-1))) V .nil) (.one (.c (.v _))) 0 V)
  ·replace h:=jret h;obtain rfl:=sj h;exact hE
theorem Z4g {s:(List Form)} {f:Form->Option Bool} {C:List Res} {cv0:PV} (hs0:cv0.one=true) (hp0:cv0.pure=true->C=[]) (hf0:∀ z0 y,f z0=some y->CloH CX cv0 [(.agg (vs (Form.cs z0)))] (vb y) C) {r:Bool} (h:Zs s f=some r):FnH CX 32 [(vl Form.cs s),cv0] (vb r) C:=by
 refine FnH.of Tryz.func32 V V V V (Z2A V (Z2A (Z1g hs0) all_nil)) V (λh=>hp0 (Z26 h 1 V)) ?_;intro G L hC H;unfold Zs at h;refine .tR 1 V H λb1 G H=>(.aV V (.na H λH=>(.tR 5 V H λb2 G H=>(.mV V (.m1 cv0 V V ?_)))));obtain ⟨x1,q1,h⟩:=bs h;refine .Z4V (ys:=[(vl Form.cs s),cv0]) (r:=(vi x1)) H V (Z52 (C:=C) hs0 hp0 hf0 q1) hC nofun V λG H=>(.iV V (.aV V (.na H λH=>(.ret ?_))));obtain rfl:=sj h;exact (EndsH.H (xs:=[(vb (decide (x1>=0)))]) (.inr V) H (.tmp (v:=(vb (decide (x1>=0)))) V .nil) (.one (.c (.v _))) 0 V)
theorem ZDE {f:Form} {r:Bool} (h:Z1H f=some r):Fn CX 29 [(.agg (vs (Form.cs f)))] (vb r):=by
 refine Fn.go Tryz.func29 V λG H=>?_;unfold Z1H at h;refine .tR 2 V H λb1 G H=>(.bxc (cs:=(vF f)) H V V V λG H=>(.aV V (.na H λH=>(.tR 4 V H λb2 G H=>(.LV (vF f) H 0 V ?_)))));obtain ⟨x1,q1,h⟩:=bs h;refine .cV (Z9k q1) V (.iV V (.aV V (.na H λH=>(.ret ?_))));obtain rfl:=sj h;exact Ends.eR V
theorem Z5g {s:(List Con)} {f:Con->Option Bool} {C:List Res} {cv0:PV} (hs0:cv0.one=true) (hp0:cv0.pure=true->C=[]) (hf0:∀ z0 y,f z0=some y->CloH CX cv0 [(.agg (vs (Con.cs z0)))] (vb y) C) {r:Int} (h:ZR s f=some r):FnH CX 54 [(vl Con.cs s),cv0] (vi r) C:=by
 refine FnH.of Tryz.func54 V V V V (Z2A V (Z2A (Z1g hs0) all_nil)) V (λh=>hp0 (Z26 h 1 V)) ?_;intro G L hC H;unfold ZR at h;refine .tR 1 V H λb1 G H=>(.aV V (.na H λH=>(.then (.tR 3 V H λb2 G H=>(.mV V (.nV V (.mV V (.na H λH=>?_))))))));refine .inBlock ?_;obtain ⟨y1,hj1,h⟩:=bs h;obtain ⟨n1,hj1⟩:=ZG.1 hj1;refine .mono (Runs.loopO hj1 (λs1 e G=>Z4 e [(0,(vl Con.cs s)),(1,cv0),(7,(vi (s.length:Int))),(8,(vi s1))]/\Hs G (L)) (λy1 x e G=>(∃ a1,y1=(.go a1)/\x = .exit 0/\Z4 e []/\Hs G (L))\/(∃ r',y1=(.ret r')/\x = .ret/\EndsH CX Tryz.f54.results.toList (vi r') L x e G)) ⟨EI V,H⟩ ?_) ?_
 ·intro s1 e G hI z h;obtain ⟨he,H⟩:=hI;obtain ⟨e,rfl⟩:=he.ex;unfold ZR.s0 at h;refine .tR 1 V H λb3 G H=>(.iV V (.na H λH=>(.then ?_)));refine .wh h V ?_ ?_<;>intro h
  ·refine .skip (.then (.inBlock (.tR 2 V H λb4 G H=>(.mV V (.aV V (.na H λH=>(.tR 6 V H λb5 G H=>(.m1 cv0 V V ?_))))))));refine .mV V (.mV V ?_);obtain ⟨x1,q1,h⟩:=bs h;refine .jV q1 V (.qV [(.int .i64 x1.X),(.int .i64 x1.Y),(.int .i64 x1.Form),(.int .i64 x1.Range.Low),(.int .i64 x1.Range.High),(.bool x1.Range.HasLow),(.bool x1.Range.HasHigh)] V ?_);obtain ⟨x2,q2,h⟩:=bs h;refine .callV (cv:=cv0) (ys:=[(.agg (vs (Con.cs x1)))]) (r:=(vb x2)) H V V (hf0 x1 _ q2) hC nofun V λG H=>(.na H λH=>?_);refine .wh h V ?_ ?_<;>intro h
   ·refine .tR 2 V H λb6 G H=>(.mV V (.aV V (.na H λH=>(.ret ?_))));obtain rfl:=sj h;exact ⟨nofun,(.inr ⟨_,V,V,(EndsH.H (xs:=[(vi s1)]) (.inr V) H (.tmp (v:=(vi s1)) V .nil) (.one (.c (.v _))) 0 V)⟩)⟩
   refine .skip (.Z5 2 V H λb7 G H=>(.iV V (.mV V (.na H λH=>?_))));obtain rfl:=sj h;exact ⟨V,EI V,H⟩
  refine .exit ?_;obtain rfl:=sj h;exact ⟨nofun,(.inl ⟨_,V,V,U,H⟩)⟩
 ·rintro x e G (⟨a2,rfl,rfl,he,H⟩|⟨r',rfl,rfl,hE⟩)
  ·replace h:=jgo h;obtain ⟨e,rfl⟩:=he.ex;refine .tR 1 V H λb8 G H=>(.aV V (.na H λH=>(.ret ?_)));obtain rfl:=sj h;exact (EndsH.H (xs:=[(vi (-1))]) (.inr V) H (.tmp (v:=(vi (-1))) V .nil) (.one (.c (.v _))) 0 V)
  ·replace h:=jret h;obtain rfl:=sj h;exact hE
theorem Z4y {s:(List Con)} {f:Con->Option Bool} {C:List Res} {cv0:PV} (hs0:cv0.one=true) (hp0:cv0.pure=true->C=[]) (hf0:∀ z0 y,f z0=some y->CloH CX cv0 [(.agg (vs (Con.cs z0)))] (vb y) C) {r:Bool} (h:Z05 s f=some r):FnH CX 33 [(vl Con.cs s),cv0] (vb r) C:=by
 refine FnH.of Tryz.func33 V V V V (Z2A V (Z2A (Z1g hs0) all_nil)) V (λh=>hp0 (Z26 h 1 V)) ?_;intro G L hC H;unfold Z05 at h;refine .tR 1 V H λb1 G H=>(.aV V (.na H λH=>(.tR 5 V H λb2 G H=>(.mV V (.m1 cv0 V V ?_)))));obtain ⟨x1,q1,h⟩:=bs h;refine .Z4V (ys:=[(vl Con.cs s),cv0]) (r:=(vi x1)) H V (Z5g (C:=C) hs0 hp0 hf0 q1) hC nofun V λG H=>(.iV V (.aV V (.na H λH=>(.ret ?_))));obtain rfl:=sj h;exact (EndsH.H (xs:=[(vb (decide (x1>=0)))]) (.inr V) H (.tmp (v:=(vb (decide (x1>=0)))) V .nil) (.one (.c (.v _))) 0 V)
theorem tag_scoped_fn {r':Range} {r:Bool} (h:Z4K r'=r):Fn CX 48 [(.agg (vs (Range.cs r')))] (vb r):=by
 refine Fn.go Tryz.func48 V λG H=>?_;unfold Z4K at h;refine .tR 2 V H λb1 G H=>(.bxc (cs:=(vR r')) H V V V λG H=>(.aV V (.na H λH=>(.tR 17 V H λb2 G H=>(.fV H 0 V (.lV H 0 V (.mV V ?_)))))));refine .md H 4 [(9,(vb (r'.HasLow||(r'.Low==0)))),(1,(.ptr (b1+0) 4 0))] [.blk (b1+0) 27 (vR r')] rfl ?_ λe G H=>?_
 ·refine .split V V ?_ ?_<;>intro hc1
  ·refine .ps 3 V (.kT V (.nil ?_));exact ⟨⟨or_T hc1,V,U⟩,H.wk (by omega)⟩
  ·refine .fV H 0 V (.lV H 0 V (.iV V (.kF V (.nil ?_))));exact ⟨⟨or_F hc1,V,U⟩,H.wk (by omega)⟩
 refine .mV V ?_;refine .md H 8 [(18,(vb ((r'.HasLow||(r'.Low==0))&&(r'.HasHigh||(r'.High==0)))))] [] rfl ?_ λe G H=>?_
 ·refine .split V V ?_ ?_<;>intro hc2
  ·refine .fV H 0 V (.lV H 0 V (.mV V ?_));refine .md H 4 [(17,(vb (r'.HasHigh||(r'.High==0)))),(10,(vb true))] [] rfl ?_ λe G H=>?_
   ·refine .split V V ?_ ?_<;>intro hc3
    ·refine .ps 3 V (.kT V (.nil ?_));exact ⟨⟨or_T hc3,V,U⟩,(H.erase 0).wk (by omega)⟩
    ·refine .fV H 0 V (.lV H 0 V (.iV V (.kF V (.nil ?_))));exact ⟨⟨or_F hc3,V,U⟩,(H.erase 0).wk (by omega)⟩
   refine .kT V (.nil ?_);exact ⟨⟨Z0k hc2,U⟩,H.wk (by omega)⟩
  ·refine .ps 7 V (.kF V (.nil ?_));exact ⟨⟨Z0l hc2,U⟩,(H.erase 0).wk (by omega)⟩
 refine .aV V (.na H λH=>(.ret ?_));subst h;exact Ends.eR V
theorem tag_right_fn {n:Net} {c:Con} {r:Bool} (h:Z3n n c=r):Fn CX 28 [(.agg (vs (Net.cs n))),(.agg (vs (Con.cs c)))] (vb r):=by
 refine Fn.go Tryz.func28 V λG H=>?_;unfold Z3n at h;refine .tR 3 V H λb1 G H=>(.bxc (cs:=(vN n)) H V V V λG H=>(.bxc (cs:=(vC c)) H V V V λG H=>(.aV V (.na H λH=>(.tR 26 V H λb2 G H=>(.fV H 0 V (.lV H 0 V (.fV H 1 V ?_))))))));refine .lV H 1 V (.cV (Z60 V) V (.mV V ?_));refine .md H 6 [(16,(vb ((Z0b c.X n.Vars)&&(Z0b c.Y n.Vars)))),(2,(.ptr (b1+0) 3 0)),(3,(.ptr (b1+1) 7 0))] [.blk (b1+1) 42 (vC c),.blk (b1+0) 25 (vN n)] V ?_ λe G H=>?_
 ·refine .split V V ?_ ?_<;>intro hc1
  ·refine .fV H 0 V (.lV H 0 V (.fV H 1 V (.lV H 1 V (.cV (Z60 V) V (.kT V (.nil ?_))))));exact ⟨⟨Z0k hc1,V,V,U⟩,H.wk (by omega)⟩
  ·refine .ps 5 V (.kF V (.nil ?_));exact ⟨⟨Z0l hc1,V,V,U⟩,H.wk (by omega)⟩
 refine .mV V ?_;refine .md H 7 [(24,(vb (((Z0b c.X n.Vars)&&(Z0b c.Y n.Vars))&&(Z0b c.Form (n.Forms.length:Int))))),(3,(.ptr (b1+1) 7 0))] [.blk (b1+1) 42 (vC c)] V ?_ λe G H=>?_
 ·refine .split V V ?_ ?_<;>intro hc2
  ·refine .fV H 0 V (.lV H 0 V (.fV H 1 V (.lV H 1 V (.nV V (.cV (Z60 V) V (.kT V (.nil ?_)))))));exact ⟨⟨Z0k hc2,V,U⟩,(H.erase 1).wk (by omega)⟩
  ·refine .ps 6 V (.kF V (.nil ?_));exact ⟨⟨Z0l hc2,V,U⟩,(H.erase 1).wk (by omega)⟩
 refine .mV V ?_;refine .md H 4 [(29,(vb ((((Z0b c.X n.Vars)&&(Z0b c.Y n.Vars))&&(Z0b c.Form (n.Forms.length:Int)))&&(Z4K c.Range))))] [] V ?_ λe G H=>?_
 ·refine .split V V ?_ ?_<;>intro hc3
  ·refine .fV H 0 V (.LV (vR c.Range) H 0 V (.cV (tag_scoped_fn (V:Z4K c.Range=_)) V (.kT V (.nil ?_))));exact ⟨⟨Z0k hc3,U⟩,(H.erase 0).wk (by omega)⟩
  ·refine .ps 3 V (.kF V (.nil ?_));exact ⟨⟨Z0l hc3,U⟩,(H.erase 0).wk (by omega)⟩
 refine .aV V (.na H λH=>(.ret ?_));subst h;exact Ends.eR V
theorem ZDe {c:Con} {p1':Net} {id0':Nat} {r:Bool} (h:Z0m c p1'=r):FnH CX 27 [(.agg (vs (Con.cs c))),(.ptr id0' 3 0)] (vb r) [.blk id0' 25 (vN p1')]:=by
 refine FnH.of Tryz.func27 V V V V V V (λh=>by have:=Z26 h 1 V;cases this) ?_;intro G L hC H;have hC0:=hC;obtain ⟨k0',hk0',hC⟩:=hC.inv;unfold Z0m at h;refine .tR 2 V H λb1 G H=>(.bxc (cs:=(vC c)) H V V V λG H=>(.aV V (.na H λH=>(.tR 5 V H λb2 G H=>(.Z4N (cs:=(vN p1')) H (k0'+1) hk0' V V V V V V nofun V (.LV (vC c) H 0 V (.cV (tag_right_fn (V:Z3n p1' c=_)) V (.tV V ?_))))))));refine .aV V (.na H λH=>(.ret ?_));subst h;exact (EndsH.H (xs:=[(vb (!(Z3n p1' c)))]) (.inr V) H (.tmp (v:=(vb (!(Z3n p1' c)))) V .nil) (.one (.c (.v _))) 1 V)
theorem Z7n {n:Net} {r:Int} (h:Z2H n=some r):Fn CX 8 [(.agg (vs (Net.cs n)))] (vi r):=by
 refine Fn.go Tryz.func8 V λG H=>?_;unfold Z2H at h;refine .tR 2 V H λb1 G H=>(.bxc (cs:=(vN n)) H V V V λG H=>(.aV V (.na H λH=>(.tR 2 V H λb2 G H=>(.Z7y (fs:=[]) (cs:=[(.ptr (b1+0) 3 0)]) V V V V (.a1 (.clo 27 [] [(.ptr (b1+0) 3 0)]) V V (.na H λH=>(.tR 1 V H λb3 G H=>?_))))))));refine .aV V (.na H λH=>(.then ?_));obtain ⟨y1,hj1,h⟩:=bs h;refine .mono (Q:=λx e G=>(∃ a1,y1=(.go a1)/\x = .normal/\Z4 e []/\Hs G [])\/(∃ r',y1=(.ret r')/\x = .ret/\Ends CX Tryz.f8.results.toList (vi r') x e G)) ?_ ?_
 ·replace h:=hj1;refine .inBlock ?_;obtain ⟨y2,hj2,h⟩:=bs h;refine .mono (Q:=λx e G=>(∃ a2,y2=(.go a2)/\x = .normal/\Z4 e []/\Hs G [])\/(∃ r',y2=(.ret r')/\x = .ret/\Ends CX Tryz.f8.results.toList (vi r') x e G)) ?_ ?_
  ·replace h:=hj2;refine .then ?_;refine .jn h .normal (λy3=>[(1,(.ptr (b1+0) 3 0)),(3,(.clo 27 [] [(.ptr (b1+0) 3 0)])),(4,(.v (.fn 29))),(6,(vb y3))]) (λy3=>[.blk (b1+0) 25 (vN n)]) (λy3 h=>?_) λy3 e G H h=>?_
   ·refine .tR 5 V H λb4 G H=>(.fV H 0 V (.lV H 0 V (.cV (Z60 V) V (.tV V (.aV V (.na H λH=>?_))))));refine .wh h V ?_ ?_<;>intro h
    ·refine .skip ?_;obtain rfl:=sj h;exact ⟨V,EI V,H⟩
    refine .tR 5 V H λb5 G H=>(.fV H 0 V (.lV H 0 V (.nV V (.iV V (.aV V (.na H λH=>?_))))));refine .wh h V ?_ ?_<;>intro h
    ·refine .skip ?_;obtain rfl:=sj h;exact ⟨V,EI V,H⟩
    refine .Z5 5 V H λb6 G H=>(.fV H 0 V (.lV H 0 V (.nV V (.iV V (.aV V (.na H λH=>?_))))));obtain rfl:=sj h;exact ⟨V,EI V,H⟩
   refine .wh h V ?_ ?_<;>intro h
   ·refine .tR 1 V H λb7 G H=>(.aV V (.na H λH=>(.ret ?_)));obtain rfl:=sj h;exact (.inr ⟨_,V,V,(Ends.H (xs:=[(vi 230)]) (.inr V) H (.tmp (v:=(vi 230)) V .nil) (.one (.c (.v _))))⟩)
   refine .then ?_;refine .jn h .normal (λy4=>[(19,(vb y4))]) (λy4=>[]) (λy4 h=>?_) λy4 e G H h=>?_
   ·refine .tR 5 V H λb8 G H=>(.fV H 0 V (.lV H 0 V (.mV V ?_)));obtain ⟨x1,q1,h⟩:=bs h;refine .Z4V (ys:=[(vl Form.cs n.Forms),(.v (.fn 29))]) (r:=(vb x1)) H V (Z4g (C:=[]) V (λ_=>V) (λz0 y hz=>(CloH.fn (Fn.toH (ZDE hz) _))) q1) .nil nofun V λG H=>(.aV V (.na H λH=>?_));refine .wh h V ?_ ?_<;>intro h
    ·refine .skip ?_;obtain rfl:=sj h;exact ⟨V,EI V,(H.erase 0)⟩
    refine .Z5 5 V H λb9 G H=>(.fV H 0 V (.lV H 0 V (.m1 (.clo 27 [] [(.ptr (b1+0) 3 0)]) V V ?_)));obtain ⟨x2,q2,h⟩:=bs h;refine .Z4V (ys:=[(vl Con.cs n.Cons),(.clo 27 [] [(.ptr (b1+0) 3 0)])]) (r:=(vb x2)) H V (Z4y (C:=[.blk (b1+0) 25 (vN n)]) V (λh=>by simp [PV.pure] at h) (λz0 y hz=>(CloH.clo (ZDe (Option.some.inj hz)))) q2) (.cons 0 V .nil) nofun V λG H=>(.aV V (.na H λH=>?_));obtain rfl:=sj h;exact ⟨V,EI V,(H.erase 0)⟩
   refine .wh h V ?_ ?_<;>intro h
   ·refine .tR 1 V H λb10 G H=>(.aV V (.na H λH=>(.ret ?_)));obtain rfl:=sj h;exact (.inr ⟨_,V,V,(Ends.H (xs:=[(vi 230)]) (.inr V) H (.tmp (v:=(vi 230)) V .nil) (.one (.c (.v _))))⟩)
   refine .skip ?_;obtain rfl:=sj h;exact (.inl ⟨_,V,V,U,H⟩)
  ·rintro x e G (⟨a3,rfl,rfl,he,H⟩|⟨r',rfl,rfl,hE⟩)
   ·replace h:=jgo h;obtain ⟨e,rfl⟩:=he.ex;obtain rfl:=sj h;exact (.inl ⟨_,V,V,U,H⟩)
   ·replace h:=jret h;obtain rfl:=sj h;exact (.inr ⟨_,V,V,hE⟩)
 ·rintro x e G (⟨a4,rfl,rfl,he,H⟩|⟨r',rfl,rfl,hE⟩)
  ·replace h:=jgo h;obtain ⟨e,rfl⟩:=he.ex;refine .tR 1 V H λb11 G H=>(.aV V (.na H λH=>(.ret ?_)));obtain rfl:=sj h;exact Ends.eR V
  ·replace h:=jret h;obtain rfl:=sj h;exact hE
theorem ZB2 {n:Net} {r:Bool} (h:Zh n=some r):Fn CX 12 [(.agg (vs (Net.cs n)))] (vb r):=by
 refine Fn.go Tryz.func12 V λG H=>?_;unfold Zh at h;refine .tR 2 V H λb1 G H=>(.bxc (cs:=(vN n)) H V V V λG H=>(.aV V (.na H λH=>(.then (.tR 15 V H λb2 G H=>(.fV H 0 V (.lV H 0 V (.nV V ?_))))))));refine .iV V (.mV V ?_);refine .md H 5 [(14,(vb ((decide ((n.Forms.length:Int)>4))||(decide ((n.Cons.length:Int)>8))))),(1,(.ptr (b1+0) 3 0))] [.blk (b1+0) 25 (vN n)] rfl ?_ λe G H=>?_
 ·refine .split V V ?_ ?_<;>intro hc1
  ·refine .ps 4 V (.kT V (.nil ?_));exact ⟨⟨or_T hc1,V,U⟩,H.wk (by omega)⟩
  ·refine .fV H 0 V (.lV H 0 V (.nV V (.iV V (.kF V (.nil ?_)))));exact ⟨⟨or_F hc1,V,U⟩,H.wk (by omega)⟩
 refine .mV V ?_;refine .md H 4 [(19,(vb (((decide ((n.Forms.length:Int)>4))||(decide ((n.Cons.length:Int)>8)))||(decide (n.Vars>8))))),(1,(.ptr (b1+0) 3 0))] [.blk (b1+0) 25 (vN n)] rfl ?_ λe G H=>?_
 ·refine .split V V ?_ ?_<;>intro hc2
  ·refine .ps 3 V (.kT V (.nil ?_));exact ⟨⟨or_T hc2,V,U⟩,H.wk (by omega)⟩
  ·refine .fV H 0 V (.lV H 0 V (.iV V (.kF V (.nil ?_))));exact ⟨⟨or_F hc2,V,U⟩,H.wk (by omega)⟩
 refine .na H λH=>?_;refine .wh h V ?_ ?_<;>intro h
 ·refine .tR 1 V H λb3 G H=>(.aV V (.na H λH=>(.ret ?_)));obtain rfl:=sj h;exact Ends.eR V
 refine .skip (.then (.tR 4 V H λb4 G H=>(.fV H 0 V (.lV H 0 V (.nV V (.mV V (.na H λH=>(.inBlock ?_))))))));obtain ⟨y1,hj1,h⟩:=bs h;obtain ⟨n1,hj1⟩:=ZG.1 hj1;refine .mono (Runs.loopO hj1 (λs1 e G=>Z4 e [(1,(.ptr (b1+0) 3 0)),(21,(vl Form.cs n.Forms)),(22,(vi (n.Forms.length:Int))),(23,(vi s1))]/\Hs G [.blk (b1+0) 25 (vN n)]) (λy1 x e G=>(∃ a1,y1=(.go a1)/\x = .exit 0/\Z4 e [(1,(.ptr (b1+0) 3 0))]/\Hs G [.blk (b1+0) 25 (vN n)])\/(∃ r',y1=(.ret r')/\x = .ret/\Ends CX Tryz.f12.results.toList (vb r') x e G)) ⟨EI V,H⟩ ?_) ?_
 ·intro s1 e G hI z h;obtain ⟨he,H⟩:=hI;obtain ⟨e,rfl⟩:=he.ex;unfold Zh.s0 at h;refine .tR 1 V H λb5 G H=>(.iV V (.na H λH=>(.then ?_)));refine .wh h V ?_ ?_<;>intro h
  ·refine .skip (.then (.inBlock (.tR 4 V H λb6 G H=>?_)));obtain ⟨x1,q1,h⟩:=bs h;refine .jV q1 V (.qV [(.int .i64 x1.Period),(.int .i64 x1.Count),(.sl (x1.Core.map (cL Span.cs))),(.sl (x1.Odd.map Granule.cs))] V (.alc (cs:=[(vi 0),(vi 0),.nils,.nils]) H V V λG H=>(.sV (vF x1) H 0 V λG H=>(.na H λH=>(.tR 3 V H λb7 G H=>(.LV (vF x1) H 0 V ?_))))));obtain ⟨x2,q2,h⟩:=bs h;refine .cV (Z9u q2) V (.tV V (.na H λH=>?_));refine .wh h V ?_ ?_<;>intro h
   ·refine .tR 1 V H λb8 G H=>(.aV V (.na H λH=>(.ret ?_)));obtain rfl:=sj h;exact ⟨nofun,(.inr ⟨_,V,V,(Ends.H (xs:=[(vb false)]) (.inr V) H (.tmp (v:=(vb false)) V .nil) (.one (.c (.v _))))⟩)⟩
   refine .skip (.Z5 2 V H λb9 G H=>(.iV V (.mV V (.na H λH=>?_))));obtain rfl:=sj h;exact ⟨V,EI V,(H.erase 0)⟩
  refine .exit ?_;obtain rfl:=sj h;exact ⟨nofun,(.inl ⟨_,V,V,EI V,H⟩)⟩
 ·rintro x e G (⟨a2,rfl,rfl,he,H⟩|⟨r',rfl,rfl,hE⟩)
  ·replace h:=jgo h;obtain ⟨e,rfl⟩:=he.ex;refine .tR 4 V H λb10 G H=>(.LV (vN n) H 0 V ?_);obtain ⟨x3,q3,h⟩:=bs h;refine .cV (Z7n q3) V (.iV V (.aV V (.na H λH=>(.ret ?_))));obtain rfl:=sj h;exact Ends.eR V
  ·replace h:=jret h;obtain rfl:=sj h;exact hE
theorem ZAt {n:Net} {r:Bool} (h:Z0p n=some r):Fn CX 19 [(.agg (vs (Net.cs n)))] (vb r):=by
 refine Fn.go Tryz.func19 V λG H=>?_;unfold Z0p at h;refine .tR 2 V H λb1 G H=>(.bxc (cs:=(vN n)) H V V V λG H=>(.aV V (.na H λH=>(.then (.tR 8 V H λb2 G H=>(.LV (vN n) H 0 V ?_))))));obtain ⟨x1,q1,h⟩:=bs h;refine .cV (ZB2 q1) V (.tV V (.mV V ?_));refine .md H 4 [(12,(vb ((!x1)||(decide (n.Vars>5))))),(1,(.ptr (b1+0) 3 0))] [.blk (b1+0) 25 (vN n)] rfl ?_ λe G H=>?_
 ·refine .split V V ?_ ?_<;>intro hc1
  ·refine .ps 3 V (.kT V (.nil ?_));exact ⟨⟨or_T hc1,V,U⟩,H.wk (by omega)⟩
  ·refine .fV H 0 V (.lV H 0 V (.iV V (.kF V (.nil ?_))));exact ⟨⟨or_F hc1,V,U⟩,H.wk (by omega)⟩
 refine .na H λH=>?_;refine .wh h V ?_ ?_<;>intro h
 ·refine .tR 1 V H λb3 G H=>(.aV V (.na H λH=>(.ret ?_)));obtain rfl:=sj h;exact Ends.eR V
 refine .skip (.then (.tR 4 V H λb4 G H=>(.fV H 0 V (.lV H 0 V (.nV V (.mV V (.na H λH=>(.inBlock ?_))))))));obtain ⟨y1,hj1,h⟩:=bs h;obtain ⟨n1,hj1⟩:=ZG.1 hj1;refine .mono (Runs.loopO hj1 (λs1 e G=>Z4 e [(14,(vl Con.cs n.Cons)),(15,(vi (n.Cons.length:Int))),(16,(vi s1))]/\Hs G []) (λy1 x e G=>(∃ a1,y1=(.go a1)/\x = .exit 0/\Z4 e []/\Hs G [])\/(∃ r',y1=(.ret r')/\x = .ret/\Ends CX Tryz.f19.results.toList (vb r') x e G)) ⟨EI V,(H.erase 0)⟩ ?_) ?_
 ·intro s1 e G hI z h;obtain ⟨he,H⟩:=hI;obtain ⟨e,rfl⟩:=he.ex;unfold Z0p.s0 at h;refine .tR 1 V H λb5 G H=>(.iV V (.na H λH=>(.then ?_)));refine .wh h V ?_ ?_<;>intro h
  ·refine .skip (.then (.inBlock (.tR 4 V H λb6 G H=>?_)));obtain ⟨x2,q2,h⟩:=bs h;refine .jV q2 V (.qV [(.int .i64 x2.X),(.int .i64 x2.Y),(.int .i64 x2.Form),(.int .i64 x2.Range.Low),(.int .i64 x2.Range.High),(.bool x2.Range.HasLow),(.bool x2.Range.HasHigh)] V (.alc (cs:=[(vi 0),(vi 0),(vi 0),(vi 0),(vi 0),(vb false),(vb false)]) H V V λG H=>(.sV (vC x2) H 0 V λG H=>(.na H λH=>(.tR 22 V H λb7 G H=>(.fV H 0 V (.fV H 0 V (.lV H 0 V ?_))))))));refine .iV V (.mV V ?_);refine .md H 5 [(29,(vb ((decide (x2.Range.Low>200))||(decide (x2.Range.Low<(-200)))))),(4,(.ptr (b6+2) 7 0)),(14,(vl Con.cs n.Cons)),(15,(vi (n.Cons.length:Int))),(16,(vi s1))] [.blk (b6+2) 42 (vC x2)] rfl ?_ λe G H=>?_
   ·refine .split V V ?_ ?_<;>intro hc4
    ·refine .ps 4 V (.kT V (.nil ?_));exact ⟨⟨or_T hc4,V,V,V,V,U⟩,H.wk (by omega)⟩
    ·refine .fV H 0 V (.fV H 0 V (.lV H 0 V (.iV V (.kF V (.nil ?_)))));exact ⟨⟨or_F hc4,V,V,V,V,U⟩,H.wk (by omega)⟩
   refine .mV V ?_;refine .md H 5 [(35,(vb (((decide (x2.Range.Low>200))||(decide (x2.Range.Low<(-200))))||(decide (x2.Range.High>200))))),(4,(.ptr (b6+2) 7 0)),(14,(vl Con.cs n.Cons)),(15,(vi (n.Cons.length:Int))),(16,(vi s1))] [.blk (b6+2) 42 (vC x2)] rfl ?_ λe G H=>?_
   ·refine .split V V ?_ ?_<;>intro hc5
    ·refine .ps 4 V (.kT V (.nil ?_));exact ⟨⟨or_T hc5,V,V,V,V,U⟩,H.wk (by omega)⟩
    ·refine .fV H 0 V (.fV H 0 V (.lV H 0 V (.iV V (.kF V (.nil ?_)))));exact ⟨⟨or_F hc5,V,V,V,V,U⟩,H.wk (by omega)⟩
   refine .mV V ?_;refine .md H 5 [(41,(vb ((((decide (x2.Range.Low>200))||(decide (x2.Range.Low<(-200))))||(decide (x2.Range.High>200)))||(decide (x2.Range.High<(-200)))))),(14,(vl Con.cs n.Cons)),(15,(vi (n.Cons.length:Int))),(16,(vi s1))] [] rfl ?_ λe G H=>?_
   ·refine .split V V ?_ ?_<;>intro hc6
    ·refine .ps 4 V (.kT V (.nil ?_));exact ⟨⟨or_T hc6,V,V,V,U⟩,(H.erase 0).wk (by omega)⟩
    ·refine .fV H 0 V (.fV H 0 V (.lV H 0 V (.iV V (.kF V (.nil ?_)))));exact ⟨⟨or_F hc6,V,V,V,U⟩,(H.erase 0).wk (by omega)⟩
   refine .na H λH=>?_;refine .wh h V ?_ ?_<;>intro h
   ·refine .tR 1 V H λb8 G H=>(.aV V (.na H λH=>(.ret ?_)));obtain rfl:=sj h;exact ⟨nofun,(.inr ⟨_,V,V,(Ends.H (xs:=[(vb false)]) (.inr V) H (.tmp (v:=(vb false)) V .nil) (.one (.c (.v _))))⟩)⟩
   refine .skip (.Z5 2 V H λb9 G H=>(.iV V (.mV V (.na H λH=>?_))));obtain rfl:=sj h;exact ⟨V,EI V,H⟩
  refine .exit ?_;obtain rfl:=sj h;exact ⟨nofun,(.inl ⟨_,V,V,U,H⟩)⟩
 ·rintro x e G (⟨a2,rfl,rfl,he,H⟩|⟨r',rfl,rfl,hE⟩)
  ·replace h:=jgo h;obtain ⟨e,rfl⟩:=he.ex;refine .tR 1 V H λb10 G H=>(.aV V (.na H λH=>(.ret ?_)));obtain rfl:=sj h;exact Ends.eR V
  ·replace h:=jret h;obtain rfl:=sj h;exact hE
theorem Z3z {more:Con} {r:Net} (h:ZM more=r):Fn CX 36 [(.agg (vs (Con.cs more)))] (.agg (vs (Net.cs r))):=by
 subst h;exact Fn.intr V V V V
theorem ZBK {x':Int} {y:Int} {r:Int×Int} (h:Za x' y=r):Fn CX 126 [(vu x'),(vu y)] (.tup [(vu r.1),(vu r.2)]):=by
 refine Fn.go Tryz.func126 V λG H=>?_;unfold Za at h;refine .tR 2 V H λb1 G H=>(.aV V (.aV V (.na H λH=>(.then (.no V (.skip (.tR 8 V H λb2 G H=>(.mV V ?_))))))));refine .mV V (.cV (Z6D V) V (.m1 (.tup [(vu (Z0I x' y).1),(vu (Z0I x' y).2)]) V V (.xV V (.xV V (.aV V (.aV V (.na H λH=>(.tR 4 V H λb3 G H=>?_))))))));refine .mV V (.mV V (.aV V (.aV V (.na H λH=>(.ret ?_)))));subst h;exact Ends.eR V
theorem Z5W {x':(List Bound)} {count:Int} {r:(List Bound)} (h:ZP x' count=some r):FnO CX 107 [(vl Bound.cs x'),(vi count)] (λq A=>∃ (w1:PV),w1=q/\A=[.sl w1 57 2 (r.map Bound.cs) true]):=by
 refine FnO.of Tryz.func107 V V V V V V ?_;intro G T H;unfold ZP at h;refine .tR 1 V H λb1 G H=>(.a1 .nils V V (.na H λH=>(.then (.tR 2 V H λb2 G H=>(.mV V (.iV V (.na H λH=>?_)))))));refine .wh h V ?_ ?_<;>intro h
 ·cases h
 refine .skip (.tR 11 V H λb3 G H=>(.mV V (.nV V (.conv (m:=(x'.length:Int)) V V V V (.mV V (.conv (m:=count) V V V V (.cV (ZBK V) V (.m1 (.tup [(vu (Za (IntKind.u64.wrap (x'.length:Int)) (IntKind.u64.wrap count)).1),(vu (Za (IntKind.u64.wrap (x'.length:Int)) (IntKind.u64.wrap count)).2)]) V V ?_))))))));refine .xV V (.xV V (.aV V (.aV V (.na H λH=>(.then (.tR 6 V H λb4 G H=>(.mV V (.iV V ?_))))))));refine .mV V ?_;refine .md H 3 [(26,(vb ((decide (((Za (IntKind.u64.wrap (x'.length:Int)) (IntKind.u64.wrap count)).1)>0))||(decide (((Za (IntKind.u64.wrap (x'.length:Int)) (IntKind.u64.wrap count)).2)>9223372036854775807))))),(0,(vl Bound.cs x')),(6,(vu (Za (IntKind.u64.wrap (x'.length:Int)) (IntKind.u64.wrap count)).2))] (T) rfl ?_ λe G H=>?_
 ·refine .split V V ?_ ?_<;>intro hc2
  ·refine .ps 2 V (.kT V (.nil ?_));exact ⟨⟨or_T hc2,V,V,U⟩,H.wk (by omega)⟩
  ·refine .mV V (.iV V (.kF V (.nil ?_)));exact ⟨⟨or_F hc2,V,V,U⟩,H.wk (by omega)⟩
 refine .na H λH=>?_;refine .wh h V ?_ ?_<;>intro h
 ·cases h
 refine .skip (.tR 4 V H λb5 G H=>(.mV V (.conv (m:=(Za (IntKind.u64.wrap (x'.length:Int)) (IntKind.u64.wrap count)).2) V V V V ?_)));obtain ⟨x1,q1,h⟩:=bs h;refine .makeS (zs:=[(.int .i8 0),(.int .i64 0)]) (cc:=Bound.cs) H (by omega) (by omega) V V q1 V V V V V V V λG H=>(.aB V (.na H λH=>(.tR 4 V H λb6 G H=>(.mB V (.mV V (.copyS (c:=Bound.cs) (w:=(vl Bound.cs x')) (xs:=x1) (ys:=x') H 0 V V V V (.m (λ_=>V)) V V nofun V λG H=>(.aV V (.na H λH=>?_))))))));refine .then (.inBlock ?_);refine .lp h (λs1=>[(7,(.buf (b5+2) ((w64 ((Za (IntKind.u64.wrap (x'.length:Int)) (IntKind.u64.wrap count)).2))).toNat 2)),(8,(vi s1.1))]) (λs1=>(.sl (.buf (b5+2) ((w64 ((Za (IntKind.u64.wrap (x'.length:Int)) (IntKind.u64.wrap count)).2))).toNat 2) 57 2 (s1.2.map Bound.cs) true::T)) (.exit 0) (λy1=>[(7,(.buf (b5+2) ((w64 ((Za (IntKind.u64.wrap (x'.length:Int)) (IntKind.u64.wrap count)).2))).toNat 2))]) (λy1=>(.sl (.buf (b5+2) ((w64 ((Za (IntKind.u64.wrap (x'.length:Int)) (IntKind.u64.wrap count)).2))).toNat 2) 57 2 (y1.map Bound.cs) true::T)) (EI V) H (λs1 e G H z h=>?_) λy1 e G H h=>?_
 ·unfold ZP.s0 at h;refine .then (.tR 4 V H λb7 G H=>(.mV V (.mB V (.Z8c (c:=Bound.cs) (xs:=s1.2) H 0 V V V nofun V (.iV V (.na H λH=>?_))))));refine .wh h V ?_ ?_<;>intro h
  ·refine .skip (.inBlock (.Z0C 10 V (by kernel_rfl) H λb8 G H B8=>(.mV V (.mB V (.mV V ?_)))));obtain ⟨u1,q2,h⟩:=bs h;refine .viewA V V (cutA q2).1 (cutA q2).2 V V V V (.mB V (.mV V ?_));obtain ⟨u2,q3,h⟩:=bs h;refine .viewB V V (cutB q3).1 (cutB q3).2 V V V V (.copyW (c:=Bound.cs) (xs:=s1.2) (a:=(s1.1).toNat) (m:=((w64 ((Za (IntKind.u64.wrap (x'.length:Int)) (IntKind.u64.wrap count)).2))).toNat) H 0 V V V (win_le q3) V V (λ_=>.inl ⟨B8 0 _ V _ V,(λ_=>by kernel_rfl),nofun⟩) V λG H=>(.iV V (.aV V (.na H λH=>?_))));obtain rfl:=sj h;exact ⟨V,EI V,H⟩
  refine .exit ?_;obtain rfl:=sj h;exact ⟨nofun,⟨V,EI V,H⟩⟩
 refine .tR 2 V H λb9 G H=>(.mB V (.aB V (.na H λH=>(.ret ?_))));obtain rfl:=sj h;exact ⟨.inr V,_,Z25 H (.tmp (v:=(.buf (b5+2) ((w64 ((Za (IntKind.u64.wrap (x'.length:Int)) (IntKind.u64.wrap count)).2))).toNat 2)) V .nil),_,⟨(.buf (b5+2) ((w64 ((Za (IntKind.u64.wrap (x'.length:Int)) (IntKind.u64.wrap count)).2))).toNat 2),V,V⟩,H⟩
theorem stp_NewS_fn {n:Int} {r:(List (List Bound))×Int} (h:Z39 n=some r):FnO CX 86 [(vi n)] (λq A=>∃ (id2:Nat) (ids6:List PV),ids6.length=r.1.length/\ids6.length=(n).toNat/\q=(.tup [(.buf id2 ((n).toNat) 1),(vi r.2)])/\A=(.blk id2 58 ids6::famL 57 2 Bound.cs ids6 r.1)):=by
 refine FnO.of Tryz.func86 V V V V V V ?_;intro G T H;unfold Z39 at h;refine .tR 2 V H λb1 G H=>(.a1 .nils V V (.aV V (.na H λH=>(.then (.tR 6 V H λb2 G H=>(.mV V (.iV V (.mV V ?_))))))));refine .md H 3 [(11,(vb ((decide (n<0))||(decide (n>24))))),(0,(vi n))] (T) rfl ?_ λe G H=>?_
 ·refine .split V V ?_ ?_<;>intro hc1
  ·refine .ps 2 V (.kT V (.nil ?_));exact ⟨⟨or_T hc1,V,U⟩,H.wk (by omega)⟩
  ·refine .mV V (.iV V (.kF V (.nil ?_)));exact ⟨⟨or_F hc1,V,U⟩,H.wk (by omega)⟩
 refine .na H λH=>?_;refine .wh h V ?_ ?_<;>intro h
 ·refine .tR 2 V H λb3 G H=>(.a1 .nils V V (.aV V (.na H λH=>(.ret ?_))));cases h
 refine .skip (.tR 3 V H λb4 G H=>(.mV V ?_));obtain ⟨x1,q1,h⟩:=bs h;obtain ⟨hn1,hr1,hx1⟩:=new?_some q1;refine .makeM H (by omega) (by omega) V V hn1 hr1 V V V V V V λG H=>?_;have hMs1:(List.replicate (n).toNat PV.nils).length=x1.length:=by rw [hx1,Y0T,Y0T]
 have hNs1:(List.replicate (n).toNat PV.nils).length=(n).toNat:=Y0T;replace H:=Has.nilFam (c:=Bound.cs) (rt:=57) (sz:=2) (T:=T) [.blk (b4+1) 58 (List.replicate (n).toNat PV.nils)] H (n).toNat;rw [<- hx1] at H;replace H:Has G _ _ (.blk (b4+1) 58 (List.replicate (n).toNat PV.nils)::(famL 57 2 Bound.cs (List.replicate (n).toNat PV.nils) x1++T)):=H;refine .aB V (.na H λH=>(.then (.tR 2 V H λb5 G H=>(.mV V (.mV V (.na H λH=>(.inBlock ?_)))))));obtain ⟨y1,hj1,h⟩:=bs h;obtain ⟨n1,hj1⟩:=ZG.1 hj1;refine .mono (Runs.loopO hj1 (λs1 e G=>∃ (ids3:List PV),ids3.length=s1.2.length/\ids3.length=(n).toNat/\Z4 e [(0,(vi n)),(4,(.buf (b4+1) ((n).toNat) 1)),(14,(vi n)),(15,(vi s1.1))]/\Hs G (.blk (b4+1) 58 ids3::(famL 57 2 Bound.cs ids3 s1.2++T))) (λy1 x e G=>∃ (ids4:List PV),ids4.length=y1.length/\ids4.length=(n).toNat/\x = .exit 0/\Z4 e [(4,(.buf (b4+1) ((n).toNat) 1))]/\Hs G (.blk (b4+1) 58 ids4::(famL 57 2 Bound.cs ids4 y1++T))) ⟨(List.replicate (n).toNat PV.nils),hMs1,hNs1,EI V,H⟩ ?_) ?_
 ·intro s1 e G hI z h;obtain ⟨ids3,hMids3,hNids3,he,H⟩:=hI;obtain ⟨e,rfl⟩:=he.ex;unfold Z39.s0 at h;refine .tR 1 V H λb6 G H=>(.iV V (.na H λH=>(.then ?_)));refine .wh h V ?_ ?_<;>intro h
  ·refine .skip (.then (.inBlock (.tR 2 V H λb7 G H=>(.mV V (.aV V (.na H λH=>(.tR 8 V H λb8 G H=>(.mB V ?_))))))));refine .mV V (.bV [(.v (.int .i8 1)),(vi 0)] V (.Z27 (sz:=2) ([(Bound.mk 1 0)].map Bound.cs) H (by omega) (by omega) V V V V V V V V V λG H=>(.mV V ?_)));obtain ⟨x2,q2,h⟩:=bs h;refine .callFOX (xs:=[(.buf (b8+3) 1 2),(vi n)]) (ys:=[(vl Bound.cs [(Bound.mk 1 0)]),(vi n)]) H rfl (.cons (.c (.s 0 rfl)) (.cons (.c (.v _)) .nil)) (Z5W q2) rfl rfl rfl rfl nofun rfl ?_;rintro _ _ G ⟨w1,rfl,rfl⟩ H;obtain ⟨x3,q3,h⟩:=bs h;obtain ⟨v1,hv1,hr2⟩:=Z3a (rt:=57) (sz:=2) (c:=Bound.cs) hMids3 q3;refine .Z3J H 2 V hNids3 V V (at?_nn q3) (hNids3▸Z2M hv1) V V nofun V ?_;have hw1:=Z2M hv1;refine .Z2p (v:=w1) (ys:=[w1]) (cells':=(ids3.set (s1.1).toNat w1)) H 2 V hNids3 V V (H.slCells (k:=0) V) V V (Nat.ble_eq_true_of_le hw1) (ZD6 hw1) nofun λG H=>?_;have hMs2:(ids3.set (s1.1).toNat w1).length=(s1.2.set (s1.1).toNat x2).length:=by rw [Yw,Yw];exact hMids3
   have hNs2:(ids3.set (s1.1).toNat w1).length=(n).toNat:=by rw [Yw];exact hNids3
   replace H:Has G _ _ (.sl (.buf (b8+3) 1 2) 57 2 ([(Bound.mk 1 0)].map Bound.cs) false :: .blk (b4+1) 58 (ids3.set (s1.1).toNat w1)::(famL 57 2 Bound.cs (ids3.set (s1.1).toNat w1) (s1.2.set (s1.1).toNat x2)++T)):=H.rowPut (k:=2) rfl hMids3 hw1;refine .na H λH=>(.Z5 8 V H λb9 G H=>(.mB V (.mV V ?_)));obtain ⟨x4,q4,h⟩:=bs h;obtain ⟨v2,hv2,hr3⟩:=Z3a (rt:=57) (sz:=2) (c:=Bound.cs) hMs2 q4;refine .Z3J H 1 V hNs2 V V (at?_nn q4) (hNs2▸Z2M hv2) V V nofun V ?_;refine .ld v2 H 1 V hNs2 V V hv2 nofun V (.mV V (.bV [(.v (.int .i8 0)),(vi 0)] V ?_));obtain ⟨x5,q5,h⟩:=bs h;refine .Z1B H (2+(s1.1).toNat) (Z0P 2 V hr3) V V (at?_map q5) V V nofun V ?_;intro id1 hv3;refine .Z4E (id:=id1) (j:=0) (zs:=[(.int .i8 0),(.int .i64 0)]) (u:=x5) (u':=(Bound.mk 0 0)) H (2+(s1.1).toNat) (Z0P 2 V hr3) hv3 (by simp) q5 V (by simp) V V V V V V nofun λG H=>?_;have hMs3:(ids3.set (s1.1).toNat w1).length=((s1.2.set (s1.1).toNat x2).set (s1.1).toNat (x4.set (s1.1).toNat (Bound.mk 0 0))).length:=hMs2.trans (Yw ..).symm;replace H:Has G _ _ (.sl (.buf (b8+3) 1 2) 57 2 ([(Bound.mk 1 0)].map Bound.cs) false :: .blk (b4+1) 58 (ids3.set (s1.1).toNat w1)::(famL 57 2 Bound.cs (ids3.set (s1.1).toNat w1) ((s1.2.set (s1.1).toNat x2).set (s1.1).toNat (x4.set (s1.1).toNat (Bound.mk 0 0)))++T)):=H.famSet (k:=2) rfl hMs2 hv2;refine .na H λH=>(.Z5 2 V H λb10 G H=>(.iV V (.mV V (.na H λH=>?_))))
   obtain rfl:=sj h;exact ⟨V,(ids3.set (s1.1).toNat w1),hMs3,hNs2,EI V,(H.erase 0)⟩
  refine .exit ?_;obtain rfl:=sj h;exact ⟨nofun,⟨ids3,hMids3,hNids3,V,EI V,H⟩⟩
 ·rintro x e G ⟨ids5,hMids5,hNids5,rfl,he,H⟩;obtain ⟨e,rfl⟩:=he.ex;refine .tR 3 V H λb11 G H=>(.mB V (.aB V (.aV V (.na H λH=>(.ret ?_)))));obtain rfl:=sj h;exact ⟨.inr V,_,Z25 H (.tmp (v:=(.buf (b4+1) ((n).toNat) 1)) V (.tmp (v:=(vi 0)) V .nil)),_,⟨_,_,hMids5,hNids5,V,V⟩,H⟩
theorem Z6X {n:Int} {f:Int->Option Bool} {C:List Res} {cv0:PV} (hs0:cv0.one=true) (hp0:cv0.pure=true->C=[]) (hf0:∀ z0 y,f z0=some y->CloH CX cv0 [(vi z0)] (vb y) C) {r:Int} (h:Z0f n f=some r):FnH CX 116 [(vi n),cv0] (vi r) C:=by
 refine FnH.of Tryz.func116 V V V V (Z2A V (Z2A (Z1g hs0) all_nil)) V (λh=>hp0 (Z26 h 1 V)) ?_;intro G L hC H;unfold Z0f at h;refine .tR 1 V H λb1 G H=>(.aV V (.na H λH=>(.tR 3 V H λb2 G H=>(.mV V (.aV V (.aV V (.na H λH=>(.then ?_))))))));refine .inBlock ?_;refine .lp h (λs1=>[(1,cv0),(5,(vi s1.1)),(6,(vi s1.2))]) (λs1=>(L)) (.exit 0) (λy1=>[(5,(vi y1))]) (λy1=>(L)) (EI V) H (λs1 e G H z h=>?_) λy1 e G H h=>?_
 ·unfold Z0f.s0 at h;refine .then (.tR 3 V H λb3 G H=>(.mV V (.mV V (.iV V (.na H λH=>?_)))));refine .wh h V ?_ ?_<;>intro h
  ·refine .skip (.inBlock ?_);refine .jn h .normal (λy2=>[(1,cv0),(5,(vi y2.1)),(6,(vi y2.2))]) (λy2=>(L)) (λy2 h=>?_) λy2 e G H h=>?_
   ·refine .tR 7 V H λb4 G H=>(.mV V (.mV V (.iV V (.conv (m:=(w64 (s1.1+s1.2))) V V V V (.shr (m:=(IntKind.u64.wrap (w64 (s1.1+s1.2)))) (m':=1) V V (by decide) V (.conv (m:=((IntKind.u64.wrap (w64 (s1.1+s1.2))).fdiv (2 ^ 1))) V V V V (.aV V (.na H λH=>?_))))))));refine .tR 4 V H λb5 G H=>(.m1 cv0 V V (.mV V ?_));obtain ⟨x1,q1,h⟩:=bs h;refine .callV (cv:=cv0) (ys:=[(vi (w64 ((IntKind.u64.wrap (w64 (s1.1+s1.2))).fdiv (2 ^ 1))))]) (r:=(vb x1)) H V V (hf0 (w64 ((IntKind.u64.wrap (w64 (s1.1+s1.2))).fdiv (2 ^ 1))) _ q1) hC nofun V λG H=>(.tV V (.na H λH=>?_));refine .wh h V ?_ ?_<;>intro h
    ·refine .Z5 3 V H λb6 G H=>(.mV V (.iV V (.aV V (.na H λH=>?_))));obtain rfl:=sj h;exact ⟨V,EI V,H⟩
    refine .Z5 2 V H λb7 G H=>(.mV V (.aV V (.na H λH=>?_)));obtain rfl:=sj h;exact ⟨V,EI V,H⟩
   obtain rfl:=sj h;exact ⟨V,EI V,H⟩
  refine .exit ?_;obtain rfl:=sj h;exact ⟨nofun,⟨V,EI V,H⟩⟩
 refine .tR 2 V H λb8 G H=>(.mV V (.aV V (.na H λH=>(.ret ?_))));obtain rfl:=sj h;exact (EndsH.H (xs:=[(vi y1)]) (.inr V) H (.tmp (v:=(vi y1)) V .nil) (.one (.c (.v _))) 0 V)
theorem ZCh {k:Int} {r:Bool} (h:Z3p k=r):Fn CX 95 [(vi k)] (vb r):=by
 refine Fn.go Tryz.func95 V λG H=>?_;unfold Z3p at h;refine .tR 1 V H λb1 G H=>(.aV V (.na H λH=>(.tR 7 V H λb2 G H=>(.mV V (.iV V (.mV V ?_))))));refine .md H 3 [(8,(vb ((decide (k>=(-1099511627776)))&&(decide (k<=1099511627776)))))] [] V ?_ λe G H=>?_
 ·refine .split V V ?_ ?_<;>intro hc1
  ·refine .mV V (.iV V (.kT V (.nil ?_)));exact ⟨⟨Z0k hc1,U⟩,H.wk (by omega)⟩
  ·refine .ps 2 V (.kF V (.nil ?_));exact ⟨⟨Z0l hc1,U⟩,H.wk (by omega)⟩
 refine .aV V (.na H λH=>(.ret ?_));subst h;exact Ends.eR V
theorem ZCd {l:(List Span)} {r:Bool} (h:Z5v l=r):Fn CX 159 [(vl Span.cs l)] (vb r):=by
 refine Fn.go Tryz.func159 V λG H=>?_;unfold Z5v at h;refine .tR 1 V H λb1 G H=>(.aV V (.na H λH=>(.tR 4 V H λb2 G H=>(.mV V (.nV V (.iV V (.aV V (.na H λH=>?_))))))));refine .ret ?_;subst h;exact Ends.eR V
theorem canon_bare_fn {f:Form} {r:Bool} (h:Z4H f=some r):Fn CX 150 [(.agg (vs (Form.cs f)))] (vb r):=by
 refine Fn.go Tryz.func150 V λG H=>?_;unfold Z4H at h;refine .tR 2 V H λb1 G H=>(.bxc (cs:=(vF f)) H V V V λG H=>(.aV V (.na H λH=>(.tR 5 V H λb2 G H=>(.fV H 0 V (.lV H 0 V ?_))))));obtain ⟨x1,q1,h⟩:=bs h;refine .Z4V (ys:=[(vl (cL Span.cs) f.Core),(.v (.fn 159))]) (r:=(vb x1)) H V (Z2F (C:=[]) V (λ_=>V) (λz0 y hz=>(CloH.fn (Fn.toH (ZCd (Option.some.inj hz)) _))) q1) .nil nofun V λG H=>(.tV V (.aV V (.na H λH=>(.ret ?_))));obtain rfl:=sj h;exact Ends.eR V
theorem ZBA {n:Int} {G:Heap} {lo hi:Nat} {L:List Res} (H:Has G lo hi L):∃ r G',Z0X CX (.fn 151) [(vi n)] G=some (r,G')/\∃ i0':Nat,r=(.clo 160 [] [(.ptr i0' 1 0)])/\Hs G' (.blk i0' 3 [(vi n)]::L):=by
 refine callO_of (Post:=λr G'=>∃ i0':Nat,r=(.clo 160 [] [(.ptr i0' 1 0)])/\Hs G' (.blk i0' 3 [(vi n)]::L)) Tryz.func151 V V V V V V ?_;replace H:=H.all;refine .tR 2 V H λb1 G H=>(.bxc (cs:=[(vi n)]) H V V V λG H=>(.aV V (.na H λH=>(.tR 2 V H λb2 G H=>(.Z7y (fs:=[]) (cs:=[(.ptr (b1+0) 1 0)]) V V V V (.a1 (.clo 160 [] [(.ptr (b1+0) 1 0)]) V V (.na H λH=>(.ret ?_))))))));exact ⟨.inr V,[(.clo 160 [] [(.ptr (b1+0) 1 0)])],Z25 H (.tmp (v:=(.clo 160 [] [(.ptr (b1+0) 1 0)])) V .nil),(b1+0),V,H.all⟩
theorem Z9Z {S:Type} {p1':Int} {C:S->List Res->Prop} {yield:S->Int->Option (S×Bool)} {yid:Nat} {id0':Nat} (hy:YldH CX yid C (λz=>[(vi z)]) yield) (hcap:∀ s L,C s L->Sub [.blk id0' 3 [(vi p1')]] L) {st' r:S} (h:Z0D p1' yield st'=some r):ItF CX 160 [(.yld yid),(.ptr id0' 1 0)] C st' r:=by
 refine ItF.of Tryz.func160 V V V V V V V V ?_;intro G L hC H;have hc0:=hcap _ _ hC;obtain ⟨k0',hk0',hc0⟩:=hc0.inv;unfold Z0D at h;refine .tR 1 V H λb1 G H=>(.aV V (.na H λH=>(.inBlock ?_)));obtain ⟨y1,hj1,h⟩:=bs h;obtain ⟨n1,hj1⟩:=ZG.1 hj1;refine .mono (Runs.loopO hj1 (λs1 e G=>∃ (L:List Res),C s1.2 L/\Z4 e [(0,(.yld yid)),(1,(.ptr id0' 1 0)),(3,(vi s1.1))]/\Hs G (L)) (λy1 x e G=>(∃ a1,∃ (L:List Res),C a1 L/\y1=(.go a1)/\x = .exit 0/\Z4 e []/\Hs G (L))\/(∃ r',y1=(.ret r')/\x = .ret/\EndsI C r' x e G)) ⟨_,hC,EI V,H⟩ ?_) ?_
 ·intro s1 e G hI z h;obtain ⟨L,hC,he,H⟩:=hI;obtain ⟨e,rfl⟩:=he.ex;have hc0:=hcap _ _ hC;obtain ⟨k0',hk0',hc0⟩:=hc0.inv;unfold Z0D.s0 at h;refine .then (.tR 3 V H λb2 G H=>(.mV V (.ld (vi p1') H k0' hk0' V V V V nofun V (.iV V (.na H λH=>?_)))));refine .wh h V ?_ ?_<;>intro h
  ·refine .skip (.then (.inBlock (.tR 10 V H λb3 G H=>(.ld (vi p1') H k0' hk0' V V V V nofun V (.mV V ?_)))));obtain ⟨u1,q1,h⟩:=bs h;refine .rem (m:=p1') (m':=s1.1) V V (nz_ne q1) V (.iV V (.mV V ?_));obtain ⟨y2,hj2,h⟩:=bs h;refine .mid 5 (K1:=λe G=>∃ L,C y2.2 L/\Z4 e [(18,(vb y2.1)),(0,(.yld yid)),(1,(.ptr id0' 1 0)),(3,(vi s1.1))]/\Hs G (L)) V ?_ ?_
   ·refine .sp hj2 V ?_ ?_<;>intro h
    ·refine .m1 (.yld yid) V V (.mV V (.wt V V ?_));obtain ⟨x1,q2,h⟩:=bs h;refine .callY (z:=s1.1) (s':=x1.1) (b:=x1.2) [] H hC V V hy q2 V V λG L hC H=>?_;have hc0:=hcap _ _ hC;obtain ⟨k0',hk0',hc0⟩:=hc0.inv;refine .tV V (.kT V (.nil ?_));obtain rfl:=sj h;exact ⟨_,hC,EI V,H.all⟩
    refine .ps 4 V (.kF V (.nil ?_));obtain rfl:=sj h;exact ⟨_,hC,EI V,H.all⟩
   ·rintro e G ⟨L,hC,he,H⟩;obtain ⟨e,rfl⟩:=he.ex;have hc0:=hcap _ _ hC;obtain ⟨k0',hk0',hc0⟩:=hc0.inv;refine .na H λH=>?_;refine .wh h V ?_ ?_<;>intro h
    ·refine .ret ?_;obtain rfl:=sj h;exact ⟨nofun,(.inr ⟨_,V,V,(EndsI.H (.inr V) H 0 V hC)⟩)⟩
    refine .skip (.Z5 3 V H λb4 G H=>(.mV V (.iV V (.aV V (.na H λH=>?_)))));obtain rfl:=sj h;exact ⟨V,_,hC,EI V,H⟩
  refine .exit ?_;obtain rfl:=sj h;exact ⟨nofun,(.inl ⟨_,_,hC,V,V,U,H⟩)⟩
 ·rintro x e G (⟨a2,L,hC,rfl,rfl,he,H⟩|⟨r',rfl,rfl,hE⟩)
  ·replace h:=jgo h;obtain ⟨e,rfl⟩:=he.ex;have hc0:=hcap _ _ hC;obtain ⟨k0',hk0',hc0⟩:=hc0.inv;obtain rfl:=sj h;exact (EndsI.H (.inl V) H 0 V hC)
  ·replace h:=jret h;obtain rfl:=sj h;exact hE
theorem Z3M {s1':(List Span)} {s2':(List Span)} {eq:Span->Span->Option Bool} {C:List Res} {cv0:PV} (hs0:cv0.one=true) (hp0:cv0.pure=true->C=[]) (hf0:∀ z0 z1 y,eq z0 z1=some y->CloH CX cv0 [(.agg (vs (Span.cs z0))),(.agg (vs (Span.cs z1)))] (vb y) C) {r:Bool} (h:ZA s1' s2' eq=some r):FnH CX 164 [(vl Span.cs s1'),(vl Span.cs s2'),cv0] (vb r) C:=by
 refine FnH.of Tryz.func164 V V V V (Z2A V (Z2A V (Z2A (Z1g hs0) all_nil))) V (λh=>hp0 (Z26 h 2 V)) ?_;intro G L hC H;unfold ZA at h;refine .tR 1 V H λb1 G H=>(.aV V (.na H λH=>(.then (.tR 5 V H λb2 G H=>(.mV V (.nV V (.mV V (.nV V ?_))))))));refine .iV V (.na H λH=>?_);refine .wh h V ?_ ?_<;>intro h
 ·refine .tR 1 V H λb3 G H=>(.aV V (.na H λH=>(.ret ?_)));obtain rfl:=sj h;exact (EndsH.H (xs:=[(vb false)]) (.inr V) H (.tmp (v:=(vb false)) V .nil) (.one (.c (.v _))) 0 V)
 refine .skip (.then (.tR 3 V H λb4 G H=>(.mV V (.nV V (.mV V (.na H λH=>(.inBlock ?_)))))));obtain ⟨y1,hj1,h⟩:=bs h;obtain ⟨n1,hj1⟩:=ZG.1 hj1;refine .mono (Runs.loopO hj1 (λs1 e G=>Z4 e [(1,(vl Span.cs s2')),(2,cv0),(15,(vl Span.cs s1')),(16,(vi (s1'.length:Int))),(17,(vi s1))]/\Hs G (L)) (λy1 x e G=>(∃ a1,y1=(.go a1)/\x = .exit 0/\Z4 e []/\Hs G (L))\/(∃ r',y1=(.ret r')/\x = .ret/\EndsH CX Tryz.f164.results.toList (vb r') L x e G)) ⟨EI V,H⟩ ?_) ?_
 ·intro s1 e G hI z h;obtain ⟨he,H⟩:=hI;obtain ⟨e,rfl⟩:=he.ex;unfold ZA.s0 at h;refine .tR 1 V H λb5 G H=>(.iV V (.na H λH=>(.then ?_)));refine .wh h V ?_ ?_<;>intro h
  ·refine .skip (.then (.inBlock (.tR 6 V H λb6 G H=>(.mV V ?_))));obtain ⟨x1,q1,h⟩:=bs h;refine .jV q1 V (.qV [(.int .i64 x1.From),(.int .i64 x1.To)] V (.alc (cs:=[(vi 0),(vi 0)]) H V V λG H=>(.aV V (.sV [(vi x1.From),(vi x1.To)] H 0 V λG H=>(.na H λH=>(.tR 6 V H λb7 G H=>(.mV V (.mV V ?_))))))));obtain ⟨x2,q2,h⟩:=bs h;refine .jV q2 V (.qV [(.int .i64 x2.From),(.int .i64 x2.To)] V (.alc (cs:=[(vi 0),(vi 0)]) H V V λG H=>(.sV [(vi x2.From),(vi x2.To)] H 0 V λG H=>(.na H λH=>(.tR 5 V H λb8 G H=>(.m1 cv0 V V (.LV [(vi x1.From),(vi x1.To)] H 1 V (.LV [(vi x2.From),(vi x2.To)] H 0 V ?_))))))));obtain ⟨x3,q3,h⟩:=bs h;refine .callV (cv:=cv0) (ys:=[(.agg (vs (Span.cs x1))),(.agg (vs (Span.cs x2)))]) (r:=(vb x3)) H V V (hf0 x1 x2 _ q3) hC.push.push nofun V λG H=>(.tV V (.na H λH=>?_));refine .wh h V ?_ ?_<;>intro h
   ·refine .tR 1 V H λb9 G H=>(.aV V (.na H λH=>(.ret ?_)));obtain rfl:=sj h;exact ⟨nofun,(.inr ⟨_,V,V,(EndsH.H (xs:=[(vb false)]) (.inr V) H (.tmp (v:=(vb false)) V .nil) (.one (.c (.v _))) 2 V)⟩)⟩
   refine .skip (.Z5 2 V H λb10 G H=>(.iV V (.mV V (.na H λH=>?_))));obtain rfl:=sj h;exact ⟨V,EI V,((H.erase 1).erase 0)⟩
  refine .exit ?_;obtain rfl:=sj h;exact ⟨nofun,(.inl ⟨_,V,V,U,H⟩)⟩
 ·rintro x e G (⟨a2,rfl,rfl,he,H⟩|⟨r',rfl,rfl,hE⟩)
  ·replace h:=jgo h;obtain ⟨e,rfl⟩:=he.ex;refine .tR 1 V H λb11 G H=>(.aV V (.na H λH=>(.ret ?_)));obtain rfl:=sj h;exact (EndsH.H (xs:=[(vb true)]) (.inr V) H (.tmp (v:=(vb true)) V .nil) (.one (.c (.v _))) 0 V)
  ·replace h:=jret h;obtain rfl:=sj h;exact hE
theorem ZAP {x':Span} {y:Span} {p2':Int} {id0':Nat} {r:Bool} (h:Z1u x' y p2'=r):FnH CX 165 [(.agg (vs (Span.cs x'))),(.agg (vs (Span.cs y))),(.ptr id0' 1 0)] (vb r) [.blk id0' 3 [(vi p2')]]:=by
 refine FnH.of Tryz.func165 V V V V V V (λh=>by have:=Z26 h 2 V;cases this) ?_;intro G L hC H;have hC0:=hC;obtain ⟨k0',hk0',hC⟩:=hC.inv;unfold Z1u at h;refine .tR 3 V H λb1 G H=>(.bxc (cs:=[(vi x'.From),(vi x'.To)]) H V V V λG H=>(.bxc (cs:=[(vi y.From),(vi y.To)]) H V V V λG H=>(.aV V (.na H λH=>(.tR 17 V H λb2 G H=>(.fV H 0 V (.lV H 0 V (.fV H 1 V ?_))))))));refine .lV H 1 V (.iV V (.ld (vi p2') H (k0'+2) hk0' V V V V nofun V (.iV V (.mV V ?_))));refine .md H 8 [(21,(vb (((w64 (y.From-x'.From))==p2')&&((w64 (y.To-x'.To))==p2'))))] (L) V ?_ λe G H=>?_
 ·refine .split V V ?_ ?_<;>intro hc1
  ·refine .fV H 0 V (.lV H 0 V (.fV H 1 V (.lV H 1 V (.iV V (.wt V V (.ld (vi p2') H (k0'+2) hk0' V V V V nofun V (.iV V (.kT V ?_))))))));refine .nil ?_;exact ⟨⟨Z0k hc1,U⟩,((H.erase 1).erase 0).wk (by omega)⟩
  ·refine .ps 7 V (.kF V (.nil ?_));exact ⟨⟨Z0l hc1,U⟩,((H.erase 1).erase 0).wk (by omega)⟩
 refine .aV V (.na H λH=>(.ret ?_));subst h;exact (EndsH.H (xs:=[(vb (((w64 (y.From-x'.From))==p2')&&((w64 (y.To-x'.To))==p2')))]) (.inr V) H (.tmp (v:=(vb (((w64 (y.From-x'.From))==p2')&&((w64 (y.To-x'.To))==p2')))) V .nil) (.one (.c (.v _))) 0 V)
end Go.Dn

namespace Go.Dn
open Go Go.Proofs
set_option maxRecDepth 100000
set_option maxHeartbeats 4000000
theorem ZBo {a:(List Span)} {b:(List Span)} {by':Int} {r:Bool} (h:Z2o a b by'=some r):Fn CX 161 [(vl Span.cs a),(vl Span.cs b),(vi by')] (vb r):=by
 refine Fn.go Tryz.func161 V λG H=>?_;unfold Z2o at h;refine .tR 2 V H λb1 G H=>(.bxc (cs:=[(vi by')]) H V V V λG H=>(.aV V (.na H λH=>(.tR 5 V H λb2 G H=>(.mV V (.mV V (.Z7y (fs:=[]) (cs:=[(.ptr (b1+0) 1 0)]) V V V V ?_)))))));obtain ⟨x1,q1,h⟩:=bs h;refine .Z4V (ys:=[(vl Span.cs a),(vl Span.cs b),(.clo 165 [] [(.ptr (b1+0) 1 0)])]) (r:=(vb x1)) H V (Z3M (C:=[.blk (b1+0) 3 [(vi by')]]) V (λh=>by simp [PV.pure] at h) (λz0 z1 y hz=>(CloH.clo (ZAP (Option.some.inj hz)))) q1) (.cons 0 V .nil) nofun V λG H=>(.aV V (.na H λH=>(.ret ?_)));obtain rfl:=sj h;exact Ends.eR V
theorem canon_turn_fn {f:Form} {d:Int} {by':Int} {r:Bool} (h:Z19 f d by'=some r):Fn CX 152 [(.agg (vs (Form.cs f))),(vi d),(vi by')] (vb r):=by
 refine Fn.go Tryz.func152 V λG H=>?_;unfold Z19 at h;refine .tR 2 V H λb1 G H=>(.bxc (cs:=(vF f)) H V V V λG H=>(.aV V (.na H λH=>(.then (.tR 4 V H λb2 G H=>(.fV H 0 V (.lV H 0 V (.nV V ?_))))))));refine .mV V (.na H λH=>(.inBlock ?_));obtain ⟨y1,hj1,h⟩:=bs h;obtain ⟨n1,hj1⟩:=ZG.1 hj1;refine .mono (Runs.loopO hj1 (λs1 e G=>Z4 e [(1,(vi d)),(2,(vi by')),(3,(.ptr (b1+0) 4 0)),(12,(vl (cL Span.cs) f.Core)),(13,(vi (f.Core.length:Int))),(14,(vi s1))]/\Hs G [.blk (b1+0) 64 (vF f)]) (λy1 x e G=>(∃ a1,y1=(.go a1)/\x = .exit 0/\Z4 e []/\Hs G [])\/(∃ r',y1=(.ret r')/\x = .ret/\Ends CX Tryz.f152.results.toList (vb r') x e G)) ⟨EI V,H⟩ ?_) ?_
 ·intro s1 e G hI z h;obtain ⟨he,H⟩:=hI;obtain ⟨e,rfl⟩:=he.ex;unfold Z19.s0 at h;refine .tR 1 V H λb3 G H=>(.iV V (.na H λH=>(.then ?_)));refine .wh h V ?_ ?_<;>intro h
  ·refine .skip (.then ?_);obtain ⟨y2,hj2,h⟩:=bs h;refine .mono (Q:=λx e G=>(∃ a2,y2=(.go a2)/\x = .normal/\Z4 e [(1,(vi d)),(2,(vi by')),(3,(.ptr (b1+0) 4 0)),(12,(vl (cL Span.cs) f.Core)),(13,(vi (f.Core.length:Int))),(14,(vi s1))]/\Hs G [.blk (b1+0) 64 (vF f)])\/(∃ r',y2=(.ret r')/\x = .ret/\Ends CX Tryz.f152.results.toList (vb r') x e G)) ?_ ?_
   ·replace h:=hj2;refine .inBlock ?_;obtain ⟨y3,hj3,h⟩:=bs h;refine .mono (Q:=λx e G=>(∃ a3,y3=(.go a3)/\x = .normal/\Z4 e [(1,(vi d)),(2,(vi by')),(3,(.ptr (b1+0) 4 0)),(12,(vl (cL Span.cs) f.Core)),(13,(vi (f.Core.length:Int))),(14,(vi s1))]/\Hs G [.blk (b1+0) 64 (vF f)])\/(∃ r',y3=(.ret r')/\x = .ret/\Ends CX Tryz.f152.results.toList (vb r') x e G)) ?_ ?_
    ·replace h:=hj3;refine .tR 5 V H λb4 G H=>(.mV V ?_);obtain ⟨x1,q1,h⟩:=bs h;refine .jV q1 V (.pV V (.aV V (.aV V (.na H λH=>(.tR 4 V H λb5 G H=>(.mV V (.mV V (.iV V ?_))))))));refine .aV V (.na H λH=>(.tR 1 V H λb6 G H=>(.aV V (.na H λH=>(.then ?_)))));refine .jn h .normal (λy4=>[(1,(vi d)),(2,(vi by')),(3,(.ptr (b1+0) 4 0)),(8,(vl Span.cs x1)),(9,(vi y4.1)),(10,(vi y4.2)),(12,(vl (cL Span.cs) f.Core)),(13,(vi (f.Core.length:Int))),(14,(vi s1))]) (λy4=>[.blk (b1+0) 64 (vF f)]) (λy4 h=>?_) λy4 e G H h=>?_
     ·refine .tR 4 V H λb7 G H=>(.mV V (.fV H 0 V (.lV H 0 V (.iV V (.na H λH=>?_)))));refine .wh h V ?_ ?_<;>intro h
      ·refine .Z0C 8 V (by kernel_rfl) H λb8 G H B8=>(.mV V (.Z1 H 0 V V V V V (so (B8 0 _ V _ V)) V (.ld (vi f.Count) H 0 V V V V V (so (B8 0 _ V _ V)) V (.iV V (.Z1 H 0 V V V V V (so (B8 0 _ V _ V)) V (.ld (vi f.Period) H 0 V V V V V (so (B8 0 _ V _ V)) V (.aV V (.aV V ?_))))))));refine .na H λH=>?_;obtain rfl:=sj h;exact ⟨V,EI V,H⟩
      refine .skip ?_;obtain rfl:=sj h;exact ⟨V,EI V,H⟩
     refine .tR 11 V H λb9 G H=>(.mV V (.fV H 0 V (.lV H 0 V (.mV V ?_))));obtain ⟨x2,q2,h⟩:=bs h;refine .jV q2 V (.pV V (.mV V (.mV V (.iV V ?_))));obtain ⟨x3,q3,h⟩:=bs h;refine .cV (ZBo q3) V (.tV V (.na H λH=>?_));refine .wh h V ?_ ?_<;>intro h
     ·refine .tR 1 V H λb10 G H=>(.aV V (.na H λH=>(.ret ?_)));obtain rfl:=sj h;exact (.inr ⟨_,V,V,(Ends.H (xs:=[(vb false)]) (.inr V) H (.tmp (v:=(vb false)) V .nil) (.one (.c (.v _))))⟩)
     refine .skip ?_;obtain rfl:=sj h;exact (.inl ⟨_,V,V,EI V,H⟩)
    ·rintro x e G (⟨a4,rfl,rfl,he,H⟩|⟨r',rfl,rfl,hE⟩)
     ·replace h:=jgo h;obtain ⟨e,rfl⟩:=he.ex;obtain rfl:=sj h;exact (.inl ⟨_,V,V,EI V,H⟩)
     ·replace h:=jret h;obtain rfl:=sj h;exact (.inr ⟨_,V,V,hE⟩)
   ·rintro x e G (⟨a5,rfl,rfl,he,H⟩|⟨r',rfl,rfl,hE⟩)
    ·replace h:=jgo h;obtain ⟨e,rfl⟩:=he.ex;refine .Z5 2 V H λb11 G H=>(.iV V (.mV V (.na H λH=>?_)));obtain rfl:=sj h;exact ⟨V,EI V,H⟩
    ·replace h:=jret h;obtain rfl:=sj h;exact ⟨nofun,(.inr ⟨_,V,V,hE⟩)⟩
  refine .exit ?_;obtain rfl:=sj h;exact ⟨nofun,(.inl ⟨_,V,V,U,(H.erase 0)⟩)⟩
 ·rintro x e G (⟨a6,rfl,rfl,he,H⟩|⟨r',rfl,rfl,hE⟩)
  ·replace h:=jgo h;obtain ⟨e,rfl⟩:=he.ex;refine .tR 1 V H λb12 G H=>(.aV V (.na H λH=>(.ret ?_)));obtain rfl:=sj h;exact Ends.eR V
  ·replace h:=jret h;obtain rfl:=sj h;exact hE
theorem Z3l {l:List Span} {r:List Span} (h:clone? 16 l=some r):Fn CX 134 [(vl Span.cs l)] (vl Span.cs r):=by
 obtain ⟨h1,rfl⟩:=clone_some h;refine Fn.intr ?_ V V V;rw [cx_intr134];unfold Z81
 dsimp only
 rw [if_pos ⟨by simp [Span.cs],by simpa using h1⟩]
theorem canon_core_fn {f:Form} {r:Form} (h:Z01 f=some r):Fn CX 132 [(.agg (vs (Form.cs f)))] (.agg (vs (Form.cs r))):=by
 refine Fn.go Tryz.func132 V λG H=>?_;unfold Z01 at h;refine .tR 2 V H λb1 G H=>(.bxc (cs:=(vF f)) H V V V λG H=>(.alc (cs:=[(vi 0),(vi 0),.nils,.nils]) H V V λG H=>(.na H λH=>(.scope (.tR 3 V H λb2 G H=>(.bV [(vi 0),(vi 0),.nils,.nils] V (.alc (cs:=[(vi 0),(vi 0),.nils,.nils]) H V V λG H=>(.sV [(vi 0),(vi 0),.nils,.nils] H 0 V λG H=>?_))))))));refine .na H λH=>(.then (.tR 2 V H λb3 G H=>(.LV (vF f) H 2 V ?_)));obtain ⟨x1,q1,h⟩:=bs h;refine .cV (canon_bare_fn q1) V (.na H λH=>?_);refine .wh h V ?_ ?_<;>intro h
 ·refine .tR 2 V H λb4 G H=>(.LV [(vi 0),(vi 0),.nils,.nils] H 0 V (.sV [(vi 0),(vi 0),.nils,.nils] H 1 V λG H=>(.na H λH=>(.ret ?_))));obtain rfl:=sj h;exact (Ends.H (xs:=[(.agg [(vi 0),(vi 0),.nils,.nils])]) (.inr V) H (.agg (cs:=[(vi 0),(vi 0),.nils,.nils]) 1 V V V V V V V .nil) (.one (.a (.cons (.v _) (.cons (.v _) (.cons .n (.cons .n .nil)))))))
 refine .skip (.then (.label (.then ?_)));obtain ⟨y1,hj1,h⟩:=bs h;refine .mono (Q:=λx e G=>∃ (w1:PV),x = .normal/\Z4 e [(2,(.ptr (b1+1) 4 0)),(3,(.ptr (b2+1) 4 0))]/\Hs G [.sl w1 97 1 (y1.1.map (cL Span.cs)) true,.blk (b2+1) 64 [(vi y1.2.1),(vi y1.2.2),w1,.nils],.blk (b1+1) 64 [(vi 0),(vi 0),.nils,.nils]]) ?_ ?_
 ·replace h:=hj1;refine .tR 3 V H λb5 G H=>(.fV H 2 V (.lV H 2 V ?_));refine .callO (ys:=[(vi f.Count)]) rfl (ZBA H) nofun rfl ?_;rintro _ G ⟨id1,rfl,H⟩;refine .na H λH=>(.inBlock ?_);replace H:=H.pushNil 97 1 true;obtain ⟨y2,hj2,h⟩:=bs h;refine .rangeH H rfl (λs2 M=>∃ (w4:PV),M=[.sl w4 97 1 (s2.1.map (cL Span.cs)) true,.blk id1 3 [(vi f.Count)],.blk (b2+1) 64 [(vi s2.2.1),(vi s2.2.2),w4,.nils],.blk (b1+1) 64 [(vi 0),(vi 0),.nils,.nils],.blk (b1+0) 64 (vF f)]) (λz2=>[(vi z2)]) (Z01.b0 f) (λp=>if p=0 then none else some (.exit 0)) rfl (λp=>by (repeat' split)<;>exact ⟨_,rfl⟩) (r:=y2) ⟨.nils,rfl⟩ (λ_=>rfl) (λ_=>rfl) ?_ (λid hy=>Z9Z hy (λs L hL=>by obtain ⟨M,hM,rfl⟩:=hL;obtain ⟨_,rfl⟩:=hM;exact (.cons 2 rfl .nil)) hj2) ?_
  ·intro R0 R1 s2 z2 s' p h G M O hM H;obtain ⟨w4,rfl⟩:=hM;unfold Z01.b0 at h;refine .env [(17,(vi z2)),(1,(.ptr (b1+0) 4 0)),(2,(.ptr (b1+1) 4 0)),(3,(.ptr (b2+1) 4 0)),(16,(.clo 160 [] [(.ptr id1 1 0)]))] (EI V) λe=>(.Z5 1 V H λb6 G H=>(.aV V (.na H λH=>?_)));refine ⟨V,[.sl w4 97 1 (s2.1.map (cL Span.cs)) true,.blk id1 3 [(vi f.Count)],.blk (b2+1) 64 [(vi s2.2.1),(vi s2.2.2),w4,.nils],.blk (b1+1) 64 [(vi 0),(vi 0),.nils,.nils],.blk (b1+0) 64 (vF f)],H,?_⟩;intro G H;refine .inBlock (.then (.Z0C 14 V (by kernel_rfl) H λb7 G H B7=>(.Z1 H 5 V V V V V (so (B7 5 _ V _ V)) V (.ld (vi f.Period) H 5 V V V V V (so (B7 5 _ V _ V)) V (.Z1 H 5 V V V V V (so (B7 5 _ V _ V)) V (.ld (vi f.Count) H 5 V V V V V (so (B7 5 _ V _ V)) V (.mV V ?_)))))));obtain ⟨u1,q2,h⟩:=bs h;refine .quo (m:=f.Count) (m':=z2) V V (nz_ne q2) V ?_;obtain ⟨x2,q3,h⟩:=bs h;refine .cV (Z45 q3) V (.m1 (.tup [(vi x2.1),(vi x2.2.1),(vi x2.2.2)]) V V (.xV V (.xV V (.xV V (.aV V (.aV V (.aV V (.na H λH=>?_))))))));refine .then (.tR 9 V H λb8 G H=>(.mV V (.iV V (.mV V ?_))));obtain ⟨y3,hj3,h⟩:=bs h;refine .md H 6 [(37,(vb y3)),(1,(.ptr (b1+0) 4 0)),(2,(.ptr (b1+1) 4 0)),(3,(.ptr (b2+1) 4 0)),(4,(vi z2)),(5,(vi x2.1))] (R1 :: .sl w4 97 1 (s2.1.map (cL Span.cs)) true :: .blk id1 3 [(vi f.Count)] :: .blk (b2+1) 64 [(vi s2.2.1),(vi s2.2.2),w4,.nils] :: .blk (b1+1) 64 [(vi 0),(vi 0),.nils,.nils] :: .blk (b1+0) 64 (vF f)::O) V ?_ λe G H=>?_
   ·refine .sp hj3 V ?_ ?_<;>intro h
    ·refine .ps 5 V (.kT V (.nil ?_));obtain rfl:=sj h;exact ⟨EI V,H.wk (by omega)⟩
    refine .LV (vF f) H 5 V (.mV V (.mV V (.wt V V ?_)));obtain ⟨x3,q4,h⟩:=bs h;refine .cV (canon_turn_fn q4) V (.tV V (.kF V (.nil ?_)));obtain rfl:=sj h;exact ⟨EI V,H.wk (by omega)⟩
   refine .na H λH=>?_;refine .wh h V ?_ ?_<;>intro h
   ·refine .exit ?_;obtain ⟨rfl,rfl⟩:=Prod.mk.inj (Option.some.inj h);exact ⟨⟨V,(iff_of_true V V)⟩,_,⟨w4,V⟩,H⟩
   refine .skip (.tR 6 V H λb9 G H=>(.mV V (.mV V (.fV H 3 V (.sV [(vi x2.1),(vi s2.2.2),w4,.nils] H 3 V λG H=>(.fV H 3 V (.sV [(vi x2.1),(vi z2),w4,.nils] H 3 V λG H=>(.na H λH=>?_))))))));refine .then (.tR 6 V H λb10 G H=>(.fV H 5 V (.lV H 5 V (.mV V ?_))));obtain ⟨x4,q5,h⟩:=bs h;refine .sliceP01 (c:=(cL Span.cs)) q5 V V V V (λ_=>V) V (.nV V (.mV V (.na H λH=>(.inBlock ?_))));obtain ⟨y4,hj4,h⟩:=bs h;obtain ⟨n1,hj4⟩:=ZG.1 hj4;refine .mono (Runs.loopO hj4 (λs3 e G=>∃ (w7:PV),Z4 e [(2,(.ptr (b1+1) 4 0)),(3,(.ptr (b2+1) 4 0)),(45,(vl (cL Span.cs) x4)),(46,(vi (x4.length:Int))),(47,(vi s3.1))]/\Hs G (R1 :: .sl w7 97 1 (s3.2.map (cL Span.cs)) true :: .blk id1 3 [(vi f.Count)] :: .blk (b2+1) 64 [(vi x2.1),(vi z2),w7,.nils] :: .blk (b1+1) 64 [(vi 0),(vi 0),.nils,.nils] :: .blk (b1+0) 64 (vF f)::O)) (λy4 x e G=>∃ (w8:PV),x = .exit 2/\Z4 e [(2,(.ptr (b1+1) 4 0)),(3,(.ptr (b2+1) 4 0))]/\Hs G (R1 :: .sl w8 97 1 (y4.map (cL Span.cs)) true :: .blk id1 3 [(vi f.Count)] :: .blk (b2+1) 64 [(vi x2.1),(vi z2),w8,.nils] :: .blk (b1+1) 64 [(vi 0),(vi 0),.nils,.nils] :: .blk (b1+0) 64 (vF f)::O)) ⟨w4,EI V,H⟩ ?_) ?_
   ·intro s3 e G hI z h;obtain ⟨w7,he,H⟩:=hI;obtain ⟨e,rfl⟩:=he.ex;unfold Z01.s1 at h;refine .tR 1 V H λb11 G H=>(.iV V (.na H λH=>(.then ?_)));refine .wh h V ?_ ?_<;>intro h
    ·refine .skip (.then (.inBlock (.tR 3 V H λb12 G H=>?_)));obtain ⟨x5,q6,h⟩:=bs h;refine .jV q6 V (.pV V (.aV V (.na H λH=>(.Z0C 8 V (by kernel_rfl) H λb13 G H B13=>(.Z1 H 3 V V V V V (so (B13 3 _ V _ V)) V (.ld w7 H 3 V V V V V (so (B13 3 _ V _ V)) V (.mV V ?_)))))));obtain ⟨x6,q7,h⟩:=bs h;refine .cV (Z3l q7) V (.Z27 (sz:=1) ([x6].map (cL Span.cs)) H (by omega) (by omega) V V V V V V V V V λG H=>?_);obtain ⟨x7,q8,h⟩:=bs h;refine .Z33 (c:=(cL Span.cs)) (v:=w7) (w:=(.buf (b13+4) 1 1)) (xs:=s3.2) (ys:=[x6]) H (by omega) (by omega) 2 V V V (.s 0 V) q8 V V V V V (λh=>⟨(λid ho=>.inl ⟨B13 1 _ V id ho,(λ_=>by kernel_rfl),nofun⟩),(λid ho=>.inr ⟨4,(by cases ho;rfl),(λh=>nomatch h),by kernel_rfl,by decide⟩)⟩) V λw9 G H=>(.Z1 H 4 V V V V V (so (B13 3 _ V _ V)) V (.Z2p (v:=w9) (ys:=[w9]) (cells':=[(vi x2.1),(vi z2),w9,.nils]) H 4 V V V V (H.slCells (k:=2) V) V V V V (λ_=>.inl ⟨B13 3 _ V _ V,(Z4t (by kernel_rfl))⟩) λG H=>(.na H λH=>(.Z5 2 V H λb14 G H=>(.iV V (.mV V (.na H λH=>?_)))))));obtain rfl:=sj h;exact ⟨V,w9,EI V,(H.erase 0)⟩
    refine .exit ?_;obtain rfl:=sj h;exact ⟨nofun,⟨w7,V,EI V,H⟩⟩
   ·rintro x e G ⟨w10,rfl,he,H⟩;obtain ⟨e,rfl⟩:=he.ex;refine .exit ?_;obtain ⟨rfl,rfl⟩:=Prod.mk.inj (Option.some.inj h);exact ⟨⟨V,(iff_of_false nofun nofun)⟩,_,⟨w10,V⟩,H⟩
  ·intro x G M hx hM H;obtain ⟨w11,rfl⟩:=hM;cases hc0_:(y2.2==0)
   ·replace h:=cond_F hc0_ h;have hx:x = .exit 0:=by simpa [ne_of_beq_false hc0_,Z8R] using hx.symm
    subst hx;obtain rfl:=sj h;exact ⟨w11,V,EI V,((H.erase 4).erase 1)⟩
   ·replace h:=cond_T hc0_ h;have hx:x = .normal:=by rw [eq_of_beq hc0_] at hx;exact (Option.some.inj hx).symm
    subst hx;obtain rfl:=sj h;exact ⟨w11,V,EI V,((H.erase 4).erase 1)⟩
 ·rintro x e G ⟨w12,rfl,he,H⟩;obtain ⟨e,rfl⟩:=he.ex;refine .tR 2 V H λb15 G H=>(.LV [(vi y1.2.1),(vi y1.2.2),w12,.nils] H 1 V (.sV [(vi y1.2.1),(vi y1.2.2),w12,.nils] H 2 V λG H=>(.na H λH=>(.ret ?_))));obtain rfl:=sj h;exact (Ends.H (xs:=[(.agg [(vi y1.2.1),(vi y1.2.2),w12,.nils])]) (.inr V) H (.agg (cs:=[(vi y1.2.1),(vi y1.2.2),w12,.nils]) 2 V V V V V V V .nil) (.one (.a (.cons (.v _) (.cons (.v _) (.cons (.s 0 V) (.cons .n .nil)))))))
theorem Z6R {s1':(List Span)} {s2':(List Span)} {r:Bool} (h:Zb s1' s2'=some r):Fn CX 162 [(vl Span.cs s1'),(vl Span.cs s2')] (vb r):=by
 refine Fn.go Tryz.func162 V λG H=>?_;unfold Zb at h;refine .tR 1 V H λb1 G H=>(.aV V (.na H λH=>(.then (.tR 5 V H λb2 G H=>(.mV V (.nV V (.mV V (.nV V ?_))))))));refine .iV V (.na H λH=>?_);refine .wh h V ?_ ?_<;>intro h
 ·refine .tR 1 V H λb3 G H=>(.aV V (.na H λH=>(.ret ?_)));obtain rfl:=sj h;exact Ends.eR V
 refine .skip (.then (.tR 3 V H λb4 G H=>(.mV V (.nV V (.mV V (.na H λH=>(.inBlock ?_)))))));obtain ⟨y1,hj1,h⟩:=bs h;obtain ⟨n1,hj1⟩:=ZG.1 hj1;refine .mono (Runs.loopO hj1 (λs1 e G=>Z4 e [(0,(vl Span.cs s1')),(1,(vl Span.cs s2')),(12,(vi (s1'.length:Int))),(13,(vi s1))]/\Hs G []) (λy1 x e G=>(∃ a1,y1=(.go a1)/\x = .exit 0/\Z4 e []/\Hs G [])\/(∃ r',y1=(.ret r')/\x = .ret/\Ends CX Tryz.f162.results.toList (vb r') x e G)) ⟨EI V,H⟩ ?_) ?_
 ·intro s1 e G hI z h;obtain ⟨he,H⟩:=hI;obtain ⟨e,rfl⟩:=he.ex;unfold Zb.s0 at h;refine .tR 1 V H λb5 G H=>(.iV V (.na H λH=>(.then ?_)));refine .wh h V ?_ ?_<;>intro h
  ·refine .skip (.then (.inBlock (.tR 2 V H λb6 G H=>(.mV V (.aV V (.na H λH=>(.then (.Z0C 9 V (by kernel_rfl) H λb7 G H B7=>?_))))))));refine .mV V (.mV V ?_);obtain ⟨x1,q1,h⟩:=bs h;refine .jV q1 V (.qV [(.int .i64 x1.From),(.int .i64 x1.To)] V (.mV V (.mV V ?_)));obtain ⟨x2,q2,h⟩:=bs h;refine .jV q2 V (.qV [(.int .i64 x2.From),(.int .i64 x2.To)] V (.binA (u:=(.agg [(vi x1.From),(vi x1.To)])) (w:=(.agg [(vi x2.From),(vi x2.To)])) (r:=.bool (!((x1.From==x2.From)&&((x1.To==x2.To)&&true)))) V V (by kernel_rfl) (λ_=>Z6n V V V V) V (.na H λH=>?_)));refine .wh h V ?_ ?_<;>intro h
   ·refine .tR 1 V H λb8 G H=>(.aV V (.na H λH=>(.ret ?_)));obtain rfl:=sj h;exact ⟨nofun,(.inr ⟨_,V,V,(Ends.H (xs:=[(vb false)]) (.inr V) H (.tmp (v:=(vb false)) V .nil) (.one (.c (.v _))))⟩)⟩
   refine .skip (.Z5 2 V H λb9 G H=>(.iV V (.mV V (.na H λH=>?_))));obtain rfl:=sj h;exact ⟨V,EI V,H⟩
  refine .exit ?_;obtain rfl:=sj h;exact ⟨nofun,(.inl ⟨_,V,V,U,H⟩)⟩
 ·rintro x e G (⟨a2,rfl,rfl,he,H⟩|⟨r',rfl,rfl,hE⟩)
  ·replace h:=jgo h;obtain ⟨e,rfl⟩:=he.ex;refine .tR 1 V H λb10 G H=>(.aV V (.na H λH=>(.ret ?_)));obtain rfl:=sj h;exact Ends.eR V
  ·replace h:=jret h;obtain rfl:=sj h;exact hE
theorem spans_Same_fn {a:(List Span)} {b:(List Span)} {r:Bool} (h:Z4L a b=some r):Fn CX 153 [(vl Span.cs a),(vl Span.cs b)] (vb r):=by
 refine Fn.go Tryz.func153 V λG H=>?_;unfold Z4L at h;refine .tR 1 V H λb1 G H=>(.aV V (.na H λH=>(.tR 4 V H λb2 G H=>(.mV V (.mV V ?_)))));obtain ⟨x1,q1,h⟩:=bs h;refine .cV (Z6R q1) V (.aV V (.na H λH=>(.ret ?_)));obtain rfl:=sj h;exact Ends.eR V
theorem ZDn {f:Form} {g:Granule} {r:Bool} (h:Z3m f g=some r):Fn CX 133 [(.agg (vs (Form.cs f))),(.agg (vs (Granule.cs g)))] (vb r):=by
 refine Fn.go Tryz.func133 V λG H=>?_;unfold Z3m at h;refine .tR 3 V H λb1 G H=>(.bxc (cs:=(vF f)) H V V V λG H=>(.bxc (cs:=[(vi g.Index),(vl Span.cs g.Ticks)]) H V V V λG H=>(.aV V (.na H λH=>(.tR 9 V H λb2 G H=>(.LV (vF f) H 1 V (.fV H 0 V (.lV H 0 V ?_))))))));obtain ⟨x1,q1,h⟩:=bs h;refine .cV (Z70 q1) V (.m1 (.tup [(vl Span.cs x1.1),(vi x1.2)]) V V (.xV V (.xV V (.aV V (.aV V (.na H λH=>(.tR 9 V H λb3 G H=>(.mV V ?_))))))));refine .iV V (.mV V ?_);obtain ⟨y1,hj1,h⟩:=bs h;refine .md H 5 [(21,(vb y1))] [] V ?_ λe G H=>?_
 ·refine .sp hj1 V ?_ ?_<;>intro h
  ·refine .mV V (.fV H 0 V (.lV H 0 V (.wt V V ?_)));obtain ⟨x2,q2,h⟩:=bs h;refine .cV (spans_Same_fn q2) V (.kT V (.nil ?_));obtain rfl:=sj h;exact ⟨EI V,((H.erase 1).erase 0).wk (by omega)⟩
  refine .ps 4 V (.kF V (.nil ?_));obtain rfl:=sj h;exact ⟨EI V,((H.erase 1).erase 0).wk (by omega)⟩
 refine .aV V (.na H λH=>(.ret ?_));obtain rfl:=sj h;exact Ends.eR V
theorem canon_Form_fn {f:Form} {r:Form} (h:Z0q f=some r):Fn CX 114 [(.agg (vs (Form.cs f)))] (.agg (vs (Form.cs r))):=by
 refine Fn.go Tryz.func114 V λG H=>?_;unfold Z0q at h;refine .tR 2 V H λb1 G H=>(.bxc (cs:=(vF f)) H V V V λG H=>(.alc (cs:=[(vi 0),(vi 0),.nils,.nils]) H V V λG H=>(.na H λH=>(.tR 4 V H λb2 G H=>(.LV (vF f) H 1 V ?_)))));obtain ⟨x1,q1,h⟩:=bs h;refine .cV (canon_core_fn q1) V (.alc (cs:=[(vi 0),(vi 0),.nils,.nils]) H V V λG H=>(.sV (vF x1) H 0 V λG H=>(.na H λH=>(.tR 1 V H λb3 G H=>(.a1 .nils V V (.na H λH=>(.then (.tR 4 V H λb4 G H=>?_))))))));refine .fV H 2 V (.lV H 2 V (.nV V (.mV V (.na H λH=>(.inBlock ?_)))));replace H:=H.pushNil 99 2 true;obtain ⟨y1,hj1,h⟩:=bs h;obtain ⟨n1,hj1⟩:=ZG.1 hj1;refine .mono (Runs.loopO hj1 (λs2 e G=>∃ (w3:PV),Z4 e [(2,(.ptr (b1+1) 4 0)),(3,(.ptr (b2+2) 4 0)),(4,w3),(10,(vl Granule.cs f.Odd)),(11,(vi (f.Odd.length:Int))),(12,(vi s2.1))]/\Hs G [.sl w3 99 2 (s2.2.map Granule.cs) true,.blk (b2+2) 64 (vF x1),.blk (b1+1) 64 [(vi 0),(vi 0),.nils,.nils]]) (λy1 x e G=>∃ (w4:PV),x = .exit 0/\Z4 e [(2,(.ptr (b1+1) 4 0)),(3,(.ptr (b2+2) 4 0)),(4,w4)]/\Hs G [.sl w4 99 2 (y1.map Granule.cs) true,.blk (b2+2) 64 (vF x1),.blk (b1+1) 64 [(vi 0),(vi 0),.nils,.nils]]) ⟨.nils,EI V,(H.erase 3)⟩ ?_) ?_
 ·intro s2 e G hI z h;obtain ⟨w3,he,H⟩:=hI;obtain ⟨e,rfl⟩:=he.ex;unfold Z0q.s0 at h;refine .tR 1 V H λb5 G H=>(.iV V (.na H λH=>(.then ?_)));refine .wh h V ?_ ?_<;>intro h
  ·refine .skip (.then ?_);obtain ⟨y2,hj2,h⟩:=bs h;refine .mono (Q:=λx e G=>∃ (w5:PV),x = .normal/\Z4 e [(2,(.ptr (b1+1) 4 0)),(3,(.ptr (b2+2) 4 0)),(4,w5),(10,(vl Granule.cs f.Odd)),(11,(vi (f.Odd.length:Int))),(12,(vi s2.1))]/\Hs G [.sl w5 99 2 (y2.map Granule.cs) true,.blk (b2+2) 64 (vF x1),.blk (b1+1) 64 [(vi 0),(vi 0),.nils,.nils]]) ?_ ?_
   ·replace h:=hj2;refine .inBlock ?_;obtain ⟨y3,hj3,h⟩:=bs h;refine .mono (Q:=λx e G=>∃ (w6:PV),x = .normal/\Z4 e [(2,(.ptr (b1+1) 4 0)),(3,(.ptr (b2+2) 4 0)),(4,w6),(10,(vl Granule.cs f.Odd)),(11,(vi (f.Odd.length:Int))),(12,(vi s2.1))]/\Hs G [.sl w6 99 2 (y3.map Granule.cs) true,.blk (b2+2) 64 (vF x1),.blk (b1+1) 64 [(vi 0),(vi 0),.nils,.nils]]) ?_ ?_
    ·replace h:=hj3;refine .tR 4 V H λb6 G H=>?_;obtain ⟨x2,q2,h⟩:=bs h;refine .jV q2 V (.qV [(.int .i64 x2.Index),(.sl (x2.Ticks.map Span.cs))] V (.alc (cs:=[(vi 0),.nils]) H V V λG H=>(.sV [(vi x2.Index),(vl Span.cs x2.Ticks)] H 0 V λG H=>(.na H λH=>(.tR 4 V H λb7 G H=>(.LV (vF x1) H 2 V (.LV [(vi x2.Index),(vl Span.cs x2.Ticks)] H 0 V ?_)))))));obtain ⟨x3,q3,h⟩:=bs h;refine .cV (ZDn q3) V (.tV V (.na H λH=>?_));refine .wh h V ?_ ?_<;>intro h
     ·refine .Z0C 10 V (by kernel_rfl) H λb8 G H B8=>(.m1 w3 V V (.Z1 H 0 V V V V V (so (B8 0 _ V _ V)) V (.ld (vi x2.Index) H 0 V V V V V (so (B8 0 _ V _ V)) V (.Z1 H 0 V V V V V (so (B8 0 _ V _ V)) V (.ld (vl Span.cs x2.Ticks) H 0 V V V V V (so (B8 0 _ V _ V)) V ?_)))));obtain ⟨x4,q4,h⟩:=bs h;refine .cV (Z3l q4) V (.bV [(vi x2.Index),(vl Span.cs x4)] V (.Z27 (sz:=2) ([(Granule.mk x2.Index x4)].map Granule.cs) H (by omega) (by omega) V V V V V V V V V λG H=>?_));obtain ⟨x5,q5,h⟩:=bs h;refine .Z33 (c:=Granule.cs) (v:=w3) (w:=(.buf (b8+7) 1 2)) (xs:=s2.2) (ys:=[(Granule.mk x2.Index x4)]) H (by omega) (by omega) 2 V V V (.s 0 V) q5 V V V V V (λh=>⟨(λid ho=>.inl ⟨B8 1 _ V id ho,(λ_=>by kernel_rfl),nofun⟩),(λid ho=>.inr ⟨7,(by cases ho;rfl),(λh=>nomatch h),by kernel_rfl,by decide⟩)⟩) V λw7 G H=>(.a1 w7 V V (.na H λH=>?_));obtain rfl:=sj h;exact ⟨w7,V,EI V,((H.erase 1).erase 0)⟩
     refine .skip ?_;obtain rfl:=sj h;exact ⟨w3,V,EI V,(H.erase 0)⟩
    ·rintro x e G ⟨w8,rfl,he,H⟩;obtain ⟨e,rfl⟩:=he.ex;obtain rfl:=sj h;exact ⟨w8,V,EI V,H⟩
   ·rintro x e G ⟨w9,rfl,he,H⟩;obtain ⟨e,rfl⟩:=he.ex;refine .Z5 2 V H λb9 G H=>(.iV V (.mV V (.na H λH=>?_)));obtain rfl:=sj h;exact ⟨V,w9,EI V,H⟩
  refine .exit ?_;obtain rfl:=sj h;exact ⟨nofun,⟨w3,V,EI V,H⟩⟩
 ·rintro x e G ⟨w10,rfl,he,H⟩;obtain ⟨e,rfl⟩:=he.ex;refine .tR 3 V H λb10 G H=>(.m1 w10 V V (.fV H 1 V (.Z2p (v:=w10) (ys:=[w10]) (cells':=[(vi x1.Period),(vi x1.Count),(vl (cL Span.cs) x1.Core),w10]) H 1 V V V V (H.slCells (k:=0) V) V V V V nofun λG H=>(.na H λH=>(.tR 2 V H λb11 G H=>(.LV [(vi x1.Period),(vi x1.Count),(vl (cL Span.cs) x1.Core),w10] H 1 V (.sV [(vi x1.Period),(vi x1.Count),(vl (cL Span.cs) x1.Core),w10] H 2 V λG H=>(.na H λH=>?_))))))));refine .ret ?_;obtain rfl:=sj h;exact (Ends.H (xs:=[(.agg [(vi x1.Period),(vi x1.Count),(vl (cL Span.cs) x1.Core),w10])]) (.inr V) H (.agg (cs:=[(vi x1.Period),(vi x1.Count),(vl (cL Span.cs) x1.Core),w10]) 2 V V V V V V V .nil) (.one (.a (.cons (.v _) (.cons (.v _) (.cons (.v _) (.cons (.s 0 V) .nil)))))))
theorem size_made_fn {f:Form} {r:size_form} (h:Z2I f=some r):Fn CX 96 [(.agg (vs (Form.cs f)))] (.agg (vs (size_form.cs r))):=by
 refine Fn.go Tryz.func96 V λG H=>?_;unfold Z2I at h;refine .tR 2 V H λb1 G H=>(.bxc (cs:=(vF f)) H V V V λG H=>(.alc (cs:=[(vi 0),(vi 0),.nils,.nils,.nils]) H V V λG H=>(.na H λH=>(.tR 5 V H λb2 G H=>(.LV (vF f) H 1 V ?_)))));obtain ⟨x1,q1,h⟩:=bs h;refine .cV (canon_Form_fn q1) V (.bV [(vi x1.Period),(vi x1.Count),(vl (cL Span.cs) x1.Core),(vl Granule.cs x1.Odd),.nils] V (.alc (cs:=[(vi 0),(vi 0),.nils,.nils,.nils]) H V V λG H=>(.sV [(vi x1.Period),(vi x1.Count),(vl (cL Span.cs) x1.Core),(vl Granule.cs x1.Odd),.nils] H 0 V λG H=>(.na H λH=>(.then (.tR 5 V H λb3 G H=>(.fV H 0 V (.fV H 0 V ?_))))))));refine .lV H 0 V (.nV V (.mV V (.na H λH=>(.inBlock ?_))));replace H:=H.pushNil 152 3 true;obtain ⟨y1,hj1,h⟩:=bs h;obtain ⟨n1,hj1⟩:=ZG.1 hj1;refine .mono (Runs.loopO hj1 (λs2 e G=>∃ (w3:PV),Z4 e [(2,(.ptr (b1+1) 5 0)),(3,(.ptr (b2+3) 5 0)),(13,(vl (cL Span.cs) x1.Core)),(14,(vi (x1.Core.length:Int))),(15,(vi s2.1))]/\Hs G [.sl w3 152 3 (s2.2.map size_spot.cs) true,.blk (b2+3) 145 [(vi x1.Period),(vi x1.Count),(vl (cL Span.cs) x1.Core),(vl Granule.cs x1.Odd),w3],.blk (b1+1) 145 [(vi 0),(vi 0),.nils,.nils,.nils]]) (λy1 x e G=>∃ (w4:PV),x = .exit 0/\Z4 e [(2,(.ptr (b1+1) 5 0)),(3,(.ptr (b2+3) 5 0))]/\Hs G [.sl w4 152 3 (y1.map size_spot.cs) true,.blk (b2+3) 145 [(vi x1.Period),(vi x1.Count),(vl (cL Span.cs) x1.Core),(vl Granule.cs x1.Odd),w4],.blk (b1+1) 145 [(vi 0),(vi 0),.nils,.nils,.nils]]) ⟨.nils,EI V,(H.erase 3)⟩ ?_) ?_
 ·intro s2 e G hI z h;obtain ⟨w3,he,H⟩:=hI;obtain ⟨e,rfl⟩:=he.ex;unfold Z2I.s0 at h;refine .tR 1 V H λb4 G H=>(.iV V (.na H λH=>(.then ?_)));refine .wh h V ?_ ?_<;>intro h
  ·refine .skip (.then ?_);obtain ⟨y2,hj2,h⟩:=bs h;refine .mono (Q:=λx e G=>∃ (w5:PV),x = .normal/\Z4 e [(2,(.ptr (b1+1) 5 0)),(3,(.ptr (b2+3) 5 0)),(13,(vl (cL Span.cs) x1.Core)),(14,(vi (x1.Core.length:Int))),(15,(vi s2.1))]/\Hs G [.sl w5 152 3 (y2.map size_spot.cs) true,.blk (b2+3) 145 [(vi x1.Period),(vi x1.Count),(vl (cL Span.cs) x1.Core),(vl Granule.cs x1.Odd),w5],.blk (b1+1) 145 [(vi 0),(vi 0),.nils,.nils,.nils]]) ?_ ?_
   ·replace h:=hj2;refine .inBlock ?_;obtain ⟨y3,hj3,h⟩:=bs h;refine .mono (Q:=λx e G=>∃ (w6:PV),x = .normal/\Z4 e [(2,(.ptr (b1+1) 5 0)),(3,(.ptr (b2+3) 5 0)),(13,(vl (cL Span.cs) x1.Core)),(14,(vi (x1.Core.length:Int))),(15,(vi s2.1))]/\Hs G [.sl w6 152 3 (y3.map size_spot.cs) true,.blk (b2+3) 145 [(vi x1.Period),(vi x1.Count),(vl (cL Span.cs) x1.Core),(vl Granule.cs x1.Odd),w6],.blk (b1+1) 145 [(vi 0),(vi 0),.nils,.nils,.nils]]) ?_ ?_
    ·replace h:=hj3;refine .tR 5 V H λb5 G H=>(.mV V ?_);obtain ⟨x2,q2,h⟩:=bs h;refine .jV q2 V (.pV V (.aV V (.aV V (.na H λH=>(.tR 8 V H λb6 G H=>(.mV V ?_))))));obtain ⟨x3,q3,h⟩:=bs h;refine .cV (Z5N q3) V (.m1 (.tup [(.agg [(vi x3.1.From),(vi x3.1.To)]),(vb x3.2)]) V V (.xV V (.xV V (.alc (cs:=[(vi 0),(vi 0)]) H V V λG H=>(.sV [(vi x3.1.From),(vi x3.1.To)] H 0 V λG H=>(.aV V (.na H λH=>(.tR 1 V H λb7 G H=>?_))))))));refine .mV V (.na H λH=>?_);refine .wh h V ?_ ?_<;>intro h
     ·refine .Z5 13 V H λb8 G H=>(.fV H 2 V (.lV H 2 V (.mV V (.fV H 0 V (.lV H 0 V (.fV H 0 V (.lV H 0 V (.bV [(vi x3.1.From),(vi x3.1.To)] V ?_))))))));refine .bV [(vi s2.1),(vi x3.1.From),(vi x3.1.To)] V (.Z27 (sz:=3) ([(size_spot.mk s2.1 (size_place.mk x3.1.From x3.1.To))].map size_spot.cs) H (by omega) (by omega) V V V V V V V V V λG H=>?_);obtain ⟨x4,q4,h⟩:=bs h;refine .Z33 (c:=size_spot.cs) (v:=w3) (w:=(.buf (b8+9) 1 3)) (xs:=s2.2) (ys:=[(size_spot.mk s2.1 (size_place.mk x3.1.From x3.1.To))]) H (by omega) (by omega) 2 V V V (.s 0 V) q4 V V V V V nofun V λw7 G H=>(.fV H 3 V (.Z2p (v:=w7) (ys:=[w7]) (cells':=[(vi x1.Period),(vi x1.Count),(vl (cL Span.cs) x1.Core),(vl Granule.cs x1.Odd),w7]) H 3 V V V V (H.slCells (k:=2) V) V V V V nofun λG H=>(.na H λH=>?_)));obtain rfl:=sj h;exact ⟨w7,V,EI V,((H.erase 1).erase 0)⟩
     refine .skip ?_;obtain rfl:=sj h;exact ⟨w3,V,EI V,(H.erase 0)⟩
    ·rintro x e G ⟨w8,rfl,he,H⟩;obtain ⟨e,rfl⟩:=he.ex;obtain rfl:=sj h;exact ⟨w8,V,EI V,H⟩
   ·rintro x e G ⟨w9,rfl,he,H⟩;obtain ⟨e,rfl⟩:=he.ex;refine .Z5 2 V H λb9 G H=>(.iV V (.mV V (.na H λH=>?_)));obtain rfl:=sj h;exact ⟨V,w9,EI V,H⟩
  refine .exit ?_;obtain rfl:=sj h;exact ⟨nofun,⟨w3,V,EI V,H⟩⟩
 ·rintro x e G ⟨w10,rfl,he,H⟩;obtain ⟨e,rfl⟩:=he.ex;refine .tR 2 V H λb10 G H=>(.LV [(vi x1.Period),(vi x1.Count),(vl (cL Span.cs) x1.Core),(vl Granule.cs x1.Odd),w10] H 1 V (.sV [(vi x1.Period),(vi x1.Count),(vl (cL Span.cs) x1.Core),(vl Granule.cs x1.Odd),w10] H 2 V λG H=>(.na H λH=>(.ret ?_))));obtain rfl:=sj h;exact (Ends.H (xs:=[(.agg [(vi x1.Period),(vi x1.Count),(vl (cL Span.cs) x1.Core),(vl Granule.cs x1.Odd),w10])]) (.inr V) H (.agg (cs:=[(vi x1.Period),(vi x1.Count),(vl (cL Span.cs) x1.Core),(vl Granule.cs x1.Odd),w10]) 2 V V V V V V V .nil) (.one (.a (.cons (.v _) (.cons (.v _) (.cons (.v _) (.cons (.v _) (.cons (.s 0 V) .nil))))))))
theorem Z9V {n:Int} {p1':size_form} {p2':Int} {p3':Int} {id0':Nat} {id1':Nat} {id2':Nat} {r:Bool} (h:Z2K n p1' p2' p3'=some r):FnH CX 117 [(vi n),(.ptr id0' 5 0),(.ptr id1' 1 0),(.ptr id2' 1 0)] (vb r) [.blk id0' 145 (vG p1'),.blk id1' 3 [(vi p2')],.blk id2' 3 [(vi p3')]]:=by
 refine FnH.of Tryz.func117 V V V V V V (λh=>by have:=Z26 h 1 V;cases this) ?_;intro G L hC H;have hC0:=hC;obtain ⟨k0',hk0',hC⟩:=hC.inv;obtain ⟨k1',hk1',hC⟩:=hC.inv;obtain ⟨k2',hk2',hC⟩:=hC.inv;unfold Z2K at h;refine .tR 1 V H λb1 G H=>(.aV V (.na H λH=>(.then (.Z0C 16 V (by kernel_rfl) H λb2 G H B2=>(.Z1 H k0' hk0' V V V V (so (B2 (k0'+0) _ hk0' _ V)) V (.ld (vl size_spot.cs p1'.spots) H k0' hk0' V V V V (so (B2 (k0'+0) _ hk0' _ V)) V (.mV V ?_)))))));obtain ⟨x1,q1,h⟩:=bs h;refine .jV q1 V (.Zd V V V V (.Zd V V V V (.pV V (.ld (vi p2') H k1' hk1' V V V V (so (B2 (k1'+0) _ hk1' _ V)) V (.Z1 H k0' hk0' V V V V (so (B2 (k0'+0) _ hk0' _ V)) V (.Z1 H k0' hk0' V V V V (so (B2 (k0'+0) _ hk0' _ V)) V (.ld (vi p1'.Form.Period) H k0' hk0' V V V V (so (B2 (k0'+0) _ hk0' _ V)) V (.iV V ?_))))))));refine .iV V (.ld (vi p3') H k2' hk2' V V V V (so (B2 (k2'+0) _ hk2' _ V)) V (.iV V (.aV V (.na H λH=>(.ret ?_)))));obtain rfl:=sj h;exact (EndsH.H (xs:=[(vb (decide ((w64 (x1.place.last-(w64 (p2'*p1'.Form.Period))))>=p3')))]) (.inr V) H (.tmp (v:=(vb (decide ((w64 (x1.place.last-(w64 (p2'*p1'.Form.Period))))>=p3')))) V .nil) (.one (.c (.v _))) 0 V)
theorem Z9S {n:Int} {p1':size_form} {p2':Int} {p3':Int} {id0':Nat} {id1':Nat} {id2':Nat} {r:Bool} (h:Z2G n p1' p2' p3'=some r):FnH CX 118 [(vi n),(.ptr id0' 5 0),(.ptr id1' 1 0),(.ptr id2' 1 0)] (vb r) [.blk id0' 145 (vG p1'),.blk id1' 3 [(vi p2')],.blk id2' 3 [(vi p3')]]:=by
 refine FnH.of Tryz.func118 V V V V V V (λh=>by have:=Z26 h 1 V;cases this) ?_;intro G L hC H;have hC0:=hC;obtain ⟨k0',hk0',hC⟩:=hC.inv;obtain ⟨k1',hk1',hC⟩:=hC.inv;obtain ⟨k2',hk2',hC⟩:=hC.inv;unfold Z2G at h;refine .tR 1 V H λb1 G H=>(.aV V (.na H λH=>(.then (.Z0C 16 V (by kernel_rfl) H λb2 G H B2=>(.Z1 H k0' hk0' V V V V (so (B2 (k0'+0) _ hk0' _ V)) V (.ld (vl size_spot.cs p1'.spots) H k0' hk0' V V V V (so (B2 (k0'+0) _ hk0' _ V)) V (.mV V ?_)))))));obtain ⟨x1,q1,h⟩:=bs h;refine .jV q1 V (.Zd V V V V (.Zd V V V V (.pV V (.ld (vi p2') H k1' hk1' V V V V (so (B2 (k1'+0) _ hk1' _ V)) V (.Z1 H k0' hk0' V V V V (so (B2 (k0'+0) _ hk0' _ V)) V (.Z1 H k0' hk0' V V V V (so (B2 (k0'+0) _ hk0' _ V)) V (.ld (vi p1'.Form.Period) H k0' hk0' V V V V (so (B2 (k0'+0) _ hk0' _ V)) V (.iV V ?_))))))));refine .iV V (.ld (vi p3') H k2' hk2' V V V V (so (B2 (k2'+0) _ hk2' _ V)) V (.iV V (.aV V (.na H λH=>(.ret ?_)))));obtain rfl:=sj h;exact (EndsH.H (xs:=[(vb (decide ((w64 (x1.place.first+(w64 (p2'*p1'.Form.Period))))>p3')))]) (.inr V) H (.tmp (v:=(vb (decide ((w64 (x1.place.first+(w64 (p2'*p1'.Form.Period))))>p3')))) V .nil) (.one (.c (.v _))) 0 V)
theorem Z6l {f:size_form} {t:Int} {up:Bool} {r:Int} (h:Z0V f t up=some r):Fn CX 98 [(.agg (vs (size_form.cs f))),(vi t),(vb up)] (vi r):=by
 refine Fn.go Tryz.func98 V λG H=>?_;unfold Z0V at h;refine .tR 3 V H λb1 G H=>(.bxc (cs:=(vG f)) H V V V λG H=>(.bxc (cs:=[(vi t)]) H V V V λG H=>(.aV V (.na H λH=>(.then (.tR 1 V H λb2 G H=>(.mV V (.na H λH=>?_))))))));refine .wh h V ?_ ?_<;>intro h
 ·refine .then (.Z0C 24 V (by kernel_rfl) H λb3 G H B3=>(.Z1 H 1 V V V V V (so (B3 1 _ V _ V)) V (.ld (vl size_spot.cs f.spots) H 1 V V V V V (so (B3 1 _ V _ V)) V (.Z1 H 1 V V V V V (so (B3 1 _ V _ V)) V (.ld (vl size_spot.cs f.spots) H 1 V V V V V (so (B3 1 _ V _ V)) V (.nV V (.iV V ?_)))))));obtain ⟨x1,q1,h⟩:=bs h;refine .jV q1 V (.Zd V V V V (.Zd V V V V (.pV V (.ld (vi t) H 0 V V V V V (so (B3 0 _ V _ V)) V (.iV V (.Z1 H 1 V V V V V (so (B3 1 _ V _ V)) V (.Z1 H 1 V V V V V (so (B3 1 _ V _ V)) V (.ld (vi f.Form.Period) H 1 V V V V V (so (B3 1 _ V _ V)) V ?_))))))));obtain ⟨x2,q2,h⟩:=bs h;refine .cV (Z45 q2) V (.m1 (.tup [(vi x2.1),(vi x2.2.1),(vi x2.2.2)]) V V (.xV V (.xV V (.xV V (.alc (cs:=[(vi 0)]) H V V λG H=>(.Z2p (cells':=[(vi x2.1)]) H 0 V V V V V V V V V (λ_=>.inr ⟨20,V,by kernel_rfl,by decide⟩) λG H=>(.aV V (.aV V ?_))))))));refine .na H λH=>(.tR 6 V H λb4 G H=>(.fV H 2 V (.lV H 2 V (.nV V (.Z7y (fs:=[]) (cs:=[(.ptr (b1+0) 5 0),(.ptr (b3+20) 1 0),(.ptr (b1+1) 1 0)]) V V V V ?_)))))
  obtain ⟨x3,q3,h⟩:=bs h;refine .Z4V (ys:=[(vi (f.spots.length:Int)),(.clo 117 [] [(.ptr (b1+0) 5 0),(.ptr (b3+20) 1 0),(.ptr (b1+1) 1 0)])]) (r:=(vi x3)) H V (Z6X (C:=[.blk (b1+0) 145 (vG f),.blk (b3+20) 3 [(vi x2.1)],.blk (b1+1) 3 [(vi t)]]) V (λh=>by simp [PV.pure] at h) (λz0 y hz=>(CloH.clo (Z9V hz))) q3) (.cons 2 V (.cons 0 V (.cons 1 V .nil))) nofun V λG H=>(.aV V (.na H λH=>(.then (.Z0C 13 V (by kernel_rfl) H λb5 G H B5=>(.Z1 H 2 V V V V V (so (B5 2 _ V _ V)) V (.ld (vl size_spot.cs f.spots) H 2 V V V V V (so (B5 2 _ V _ V)) V (.mV V ?_)))))));obtain ⟨x4,q4,h⟩:=bs h;refine .jV q4 V (.Zd V V V V (.pV V (.ld (vi x2.1) H 0 V V V V V (so (B5 0 _ V _ V)) V (.Z1 H 2 V V V V V (so (B5 2 _ V _ V)) V (.Z1 H 2 V V V V V (so (B5 2 _ V _ V)) V (.ld (vi f.Form.Count) H 2 V V V V V (so (B5 2 _ V _ V)) V (.iV V (.iV V ?_))))))));refine .aV V (.na H λH=>(.ret ?_));obtain rfl:=sj h;exact Ends.eR V
 refine .skip (.then (.Z0C 20 V (by kernel_rfl) H λb6 G H B6=>(.ld (vi t) H 0 V V V V V (so (B6 0 _ V _ V)) V (.Z1 H 1 V V V V V (so (B6 1 _ V _ V)) V (.ld (vl size_spot.cs f.spots) H 1 V V V V V (so (B6 1 _ V _ V)) V ?_)))));obtain ⟨x5,q5,h⟩:=bs h;refine .jV q5 V (.Zd V V V V (.Zd V V V V (.pV V (.iV V (.Z1 H 1 V V V V V (so (B6 1 _ V _ V)) V (.Z1 H 1 V V V V V (so (B6 1 _ V _ V)) V (.ld (vi f.Form.Period) H 1 V V V V V (so (B6 1 _ V _ V)) V ?_)))))));obtain ⟨x6,q6,h⟩:=bs h;refine .cV (Z45 q6) V (.m1 (.tup [(vi x6.1),(vi x6.2.1),(vi x6.2.2)]) V V (.xV V (.xV V (.xV V (.alc (cs:=[(vi 0)]) H V V λG H=>(.Z2p (cells':=[(vi x6.1)]) H 0 V V V V V V V V V (λ_=>.inr ⟨16,V,by kernel_rfl,by decide⟩) λG H=>(.aV V (.aV V ?_))))))));refine .na H λH=>(.tR 6 V H λb7 G H=>(.fV H 2 V (.lV H 2 V (.nV V (.Z7y (fs:=[]) (cs:=[(.ptr (b1+0) 5 0),(.ptr (b6+16) 1 0),(.ptr (b1+1) 1 0)]) V V V V ?_)))));obtain ⟨x7,q7,h⟩:=bs h;refine .Z4V (ys:=[(vi (f.spots.length:Int)),(.clo 118 [] [(.ptr (b1+0) 5 0),(.ptr (b6+16) 1 0),(.ptr (b1+1) 1 0)])]) (r:=(vi x7)) H V (Z6X (C:=[.blk (b1+0) 145 (vG f),.blk (b6+16) 3 [(vi x6.1)],.blk (b1+1) 3 [(vi t)]]) V (λh=>by simp [PV.pure] at h) (λz0 y hz=>(CloH.clo (Z9S hz))) q7) (.cons 2 V (.cons 0 V (.cons 1 V .nil))) nofun V λG H=>(.aV V (.na H λH=>(.then (.Z0C 14 V (by kernel_rfl) H λb8 G H B8=>(.Z1 H 2 V V V V V (so (B8 2 _ V _ V)) V (.ld (vl size_spot.cs f.spots) H 2 V V V V V (so (B8 2 _ V _ V)) V (.mV V (.iV V ?_))))))))
 obtain ⟨x8,q8,h⟩:=bs h;refine .jV q8 V (.Zd V V V V (.pV V (.ld (vi x6.1) H 0 V V V V V (so (B8 0 _ V _ V)) V (.Z1 H 2 V V V V V (so (B8 2 _ V _ V)) V (.Z1 H 2 V V V V V (so (B8 2 _ V _ V)) V (.ld (vi f.Form.Count) H 2 V V V V V (so (B8 2 _ V _ V)) V (.iV V (.iV V ?_))))))));refine .aV V (.na H λH=>(.ret ?_));obtain rfl:=sj h;exact Ends.eR V
theorem ZA9 {g:Granule} {i:Int} {r:Int} (h:Z3P g i=r):Fn CX 136 [(.agg (vs (Granule.cs g))),(vi i)] (vi r):=by
 refine Fn.go Tryz.func136 V λG H=>?_;unfold Z3P at h;refine .tR 2 V H λb1 G H=>(.bxc (cs:=[(vi g.Index),(vl Span.cs g.Ticks)]) H V V V λG H=>(.aV V (.na H λH=>(.tR 5 V H λb2 G H=>(.fV H 0 V (.lV H 0 V (.mV V (.cV (Z6e V) V ?_))))))));refine .aV V (.na H λH=>(.ret ?_));subst h;exact Ends.eR V
theorem ZBt {f:size_form} {i:Int} {r:Int} (h:Z2s f i=some r):Fn CX 119 [(.agg (vs (size_form.cs f))),(vi i)] (vi r):=by
 refine Fn.go Tryz.func119 V λG H=>?_;unfold Z2s at h;refine .tR 2 V H λb1 G H=>(.bxc (cs:=(vG f)) H V V V λG H=>(.aV V (.na H λH=>(.tR 10 V H λb2 G H=>(.fV H 0 V (.fV H 0 V (.lV H 0 V (.mV V ?_))))))));obtain ⟨x1,q1,h⟩:=bs h;refine .Z4V (ys:=[(vl Granule.cs f.Form.Odd),(vi i),(.v (.fn 136))]) (r:=(.tup [(vi x1.1),(vb x1.2)])) H V (Z10 (C:=[]) V (λ_=>V) (λz0 z1 y hz=>(CloH.fn (Fn.toH (ZA9 (Option.some.inj hz)) _))) q1) .nil nofun V λG H=>(.m1 (.tup [(vi x1.1),(vb x1.2)]) V V (.xV V (.xV V (.aV V (.aV V (.na H λH=>(.then (.tR 2 V H λb3 G H=>?_))))))));refine .mV V (.tV V (.na H λH=>?_));refine .wh h V ?_ ?_<;>intro h
 ·refine .tR 1 V H λb4 G H=>(.aV V (.na H λH=>(.ret ?_)));obtain rfl:=sj h;exact Ends.eR V
 refine .skip (.tR 2 V H λb5 G H=>(.mV V (.aV V (.na H λH=>(.ret ?_)))));obtain rfl:=sj h;exact Ends.eR V
theorem ZBS {f:size_form} {i:Int} {r:Bool} (h:Z3T f i=some r):Fn CX 120 [(.agg (vs (size_form.cs f))),(vi i)] (vb r):=by
 refine Fn.go Tryz.func120 V λG H=>?_;unfold Z3T at h;refine .tR 2 V H λb1 G H=>(.bxc (cs:=(vG f)) H V V V λG H=>(.aV V (.na H λH=>(.tR 12 V H λb2 G H=>(.mV V (.fV H 0 V (.fV H 0 V (.lV H 0 V ?_))))))));obtain ⟨x1,q1,h⟩:=bs h;refine .cV (Z45 q1) V (.m1 (.tup [(vi x1.1),(vi x1.2.1),(vi x1.2.2)]) V V (.xV V (.xV V (.xV V (.aV V (.aV V (.aV V (.na H λH=>?_))))))));refine .tR 9 V H λb3 G H=>(.fV H 0 V (.fV H 0 V (.lV H 0 V (.mV V ?_))));obtain ⟨x2,q2,h⟩:=bs h;refine .jV q2 V (.pV V (.nV V (.iV V (.aV V (.na H λH=>(.ret ?_))))));obtain rfl:=sj h;exact Ends.eR V
theorem Z6U {f:size_form} {t:Int} {up:Bool} {r:Int×Bool} (h:Z6 f t up=some r):Fn CX 99 [(.agg (vs (size_form.cs f))),(vi t),(vb up)] (.tup [(vi r.1),(vb r.2)]):=by
 refine Fn.go Tryz.func99 V λG H=>?_;unfold Z6 at h;refine .tR 3 V H λb1 G H=>(.bxc (cs:=(vG f)) H V V V λG H=>(.aV V (.aV V (.na H λH=>(.tR 1 V H λb2 G H=>(.alc (cs:=[(vi 0),(vb false)]) H V V λG H=>(.na H λH=>(.tR 1 V H λb3 G H=>?_))))))));refine .aV V (.na H λH=>(.then ?_));refine .jn h .normal (λy1=>[(1,(vi t)),(2,(vb up)),(3,(.ptr (b1+0) 5 0)),(8,(.ptr (b2+0) 2 0)),(9,(vi y1))]) (λy1=>[.blk (b2+0) 148 [(vi 0),(vb false)],.blk (b1+0) 145 (vG f)]) (λy1 h=>?_) λy1 e G H h=>?_
 ·refine .tR 1 V H λb4 G H=>(.mV V (.na H λH=>?_));refine .wh h V ?_ ?_<;>intro h
  ·refine .Z5 1 V H λb5 G H=>(.aV V (.na H λH=>?_));obtain rfl:=sj h;exact ⟨V,EI V,H⟩
  refine .skip ?_;obtain rfl:=sj h;exact ⟨V,EI V,H⟩
 refine .then ?_;refine .jn h .normal (λy2=>[(1,(vi t)),(2,(vb up)),(3,(.ptr (b1+0) 5 0)),(8,(.ptr (b2+0) 2 0)),(9,(vi y1))]) (λy2=>[.blk (b2+0) 148 [(vi y2.1),(vb y2.2)],.blk (b1+0) 145 (vG f)]) (λy2 h=>?_) λy2 e G H h=>?_
 ·refine .tR 4 V H λb6 G H=>(.fV H 1 V (.fV H 1 V (.lV H 1 V (.iV V (.na H λH=>?_)))));refine .wh h V ?_ ?_<;>intro h
  ·refine .tR 5 V H λb7 G H=>(.LV (vG f) H 1 V (.mV V (.mV V ?_)));obtain ⟨x1,q1,h⟩:=bs h;refine .cV (Z6l q1) V (.aV V (.na H λH=>(.then (.inBlock ?_))));refine .lp h (λs1=>[(1,(vi t)),(2,(vb up)),(3,(.ptr (b1+0) 5 0)),(8,(.ptr (b2+0) 2 0)),(9,(vi y1)),(10,(vi s1))]) (λs1=>[.blk (b2+0) 148 [(vi 0),(vb false)],.blk (b1+0) 145 (vG f)]) (.exit 0) (λy3=>[(1,(vi t)),(2,(vb up)),(3,(.ptr (b1+0) 5 0)),(8,(.ptr (b2+0) 2 0)),(9,(vi y1)),(10,(vi y3))]) (λy3=>[.blk (b2+0) 148 [(vi 0),(vb false)],.blk (b1+0) 145 (vG f)]) (EI V) H (λs1 e G H z h=>?_) λy3 e G H h=>?_
   ·unfold Z6.s0 at h;refine .then (.tR 10 V H λb8 G H=>(.LV (vG f) H 1 V (.mV V ?_)));obtain ⟨x2,q2,h⟩:=bs h;refine .cV (ZBt q2) V (.iV V (.mV V ?_));obtain ⟨y4,hj4,h⟩:=bs h;refine .md H 5 [(33,(vb y4)),(1,(vi t)),(2,(vb up)),(3,(.ptr (b1+0) 5 0)),(8,(.ptr (b2+0) 2 0)),(9,(vi y1)),(10,(vi s1))] [.blk (b2+0) 148 [(vi 0),(vb false)],.blk (b1+0) 145 (vG f)] V ?_ λe G H=>?_
    ·refine .sp hj4 V ?_ ?_<;>intro h
     ·refine .ps 4 V (.kT V (.nil ?_));obtain rfl:=sj h;exact ⟨EI V,H.wk (by omega)⟩
     refine .LV (vG f) H 1 V (.mV V (.wt V V ?_));obtain ⟨x3,q3,h⟩:=bs h;refine .cV (ZBS q3) V (.tV V (.kF V (.nil ?_)));obtain rfl:=sj h;exact ⟨EI V,H.wk (by omega)⟩
    refine .na H λH=>?_;refine .wh h V ?_ ?_<;>intro h
    ·refine .skip (.inBlock (.Z5 4 V H λb9 G H=>(.mV V (.mV V (.iV V (.aV V (.na H λH=>?_)))))));obtain rfl:=sj h;exact ⟨V,EI V,H⟩
    refine .exit ?_;obtain rfl:=sj h;exact ⟨nofun,⟨V,EI V,H⟩⟩
   refine .Z5 6 V H λb10 G H=>(.mV V (.neg (m:=y1) V V (.mV V (.iV V (.Z27 (sz:=1) ([(w64 ((w64 (0-y1))*y3))].map (cI .i64)) H (by omega) (by omega) V V V V V V V V V λG H=>?_)))));obtain ⟨y5,hj5,h⟩:=bs h;refine .callI (PostA:=λr A=>r=(.tup [])/\A=[.sl (.buf (b10+4) 1 1) 3 1 (y5.1.map (cI .i64)) true,.blk (b2+0) 148 [(vi y5.2.1),(vb y5.2.2)],.blk (b1+0) 145 (vG f)]) (cv:=(.v (.fn 97))) (ys:=[(.ptr (b2+0) 2 0),(.buf (b10+4) 1 1)]) (L:=[]) [.sl (.buf (b10+4) 1 1) 3 1 ([(w64 ((w64 (0-y1))*y3))].map (cI .i64)) true,.blk (b2+0) 148 [(vi 0),(vb false)],.blk (b1+0) 145 (vG f)] H V V (λT1 hT H=>Z7R Tryz.func97 V (λ_=>V) V V V V ?_) nofun V ?_
   ·replace h:=hj5;refine .tR 3 V H λb11 G H=>(.mB V (.Z8c (c:=(cI .i64)) (xs:=[(w64 ((w64 (0-y1))*y3))]) H 0 V V V nofun V (.mV V (.na H λH=>(.inBlock ?_)))));refine .lp h (λs2=>[(0,(.ptr (b2+0) 2 0)),(6,(.buf (b10+4) 1 1)),(7,(vi s2.1)),(8,(vi s2.2.1))]) (λs2=>(.sl (.buf (b10+4) 1 1) 3 1 (s2.2.2.1.map (cI .i64)) true :: .blk (b2+0) 148 [(vi s2.2.2.2.1),(vb s2.2.2.2.2)] :: .blk (b1+0) 145 (vG f)::T1)) (.exit 0) (λy6=>[]) (λy6=>(.sl (.buf (b10+4) 1 1) 3 1 (y6.1.map (cI .i64)) true :: .blk (b2+0) 148 [(vi y6.2.1),(vb y6.2.2)] :: .blk (b1+0) 145 (vG f)::T1)) (EI V) H (λs2 e G H z h=>?_) λy6 e G H h=>?_
    ·unfold Z6.s1 at h;refine .tR 1 V H λb12 G H=>(.iV V (.na H λH=>(.then ?_)));refine .wh h V ?_ ?_<;>intro h
     ·refine .skip (.then ?_);refine .jn h .normal (λy7=>[(0,(.ptr (b2+0) 2 0)),(6,(.buf (b10+4) 1 1)),(7,(vi s2.1)),(8,(vi s2.2.1))]) (λy7=>(.sl (.buf (b10+4) 1 1) 3 1 (s2.2.2.1.map (cI .i64)) true :: .blk (b2+0) 148 [(vi y7.1),(vb y7.2)] :: .blk (b1+0) 145 (vG f)::T1)) (λy7 h=>?_) λy7 e G H h=>?_
      ·refine .inBlock ?_;refine .jn h .normal (λy8=>[(0,(.ptr (b2+0) 2 0)),(6,(.buf (b10+4) 1 1)),(7,(vi s2.1)),(8,(vi s2.2.1))]) (λy8=>(.sl (.buf (b10+4) 1 1) 3 1 (s2.2.2.1.map (cI .i64)) true :: .blk (b2+0) 148 [(vi y8.1),(vb y8.2)] :: .blk (b1+0) 145 (vG f)::T1)) (λy8 h=>?_) λy8 e G H h=>?_
       ·refine .tR 3 V H λb13 G H=>?_;obtain ⟨x4,q4,h⟩:=bs h;refine .Z1B H 0 V V V (at?_map q4) V V nofun V ?_;intro id1 hv1;refine .loadS (id:=id1) (j:=0) (w:=(.int .i64 x4)) H 0 V hv1 (by simp) (at?_map q4) V (by simp) V V V nofun V ?_;refine .aV V (.na H λH=>(.tR 13 V H λb14 G H=>(.mP V (.Z0i H 1 V V V nofun V (.fV H 1 V (.lV H 1 V (.tV V (.mV V ?_))))))));refine .md H 7 [(24,(vb ((!s2.2.2.2.2)||(decide (x4>s2.2.2.2.1))))),(0,(.ptr (b2+0) 2 0)),(5,(vi x4)),(6,(.buf (b10+4) 1 1)),(7,(vi s2.1)),(8,(vi s2.2.1))] (.sl (.buf (b10+4) 1 1) 3 1 (s2.2.2.1.map (cI .i64)) true :: .blk (b2+0) 148 [(vi s2.2.2.2.1),(vb s2.2.2.2.2)] :: .blk (b1+0) 145 (vG f)::T1) rfl ?_ λe G H=>?_
        ·refine .split V V ?_ ?_<;>intro hc6
         ·refine .ps 6 V (.kT V (.nil ?_));exact ⟨⟨or_T hc6,V,V,V,V,V,U⟩,H.wk (by omega)⟩
         ·refine .mV V (.mP V (.wt V V (.Z0i H 1 V V V nofun V (.fV H 1 V (.lV H 1 V (.iV V (.kF V (.nil ?_))))))));exact ⟨⟨or_F hc6,V,V,V,V,V,U⟩,H.wk (by omega)⟩
        refine .na H λH=>?_;refine .wh h V ?_ ?_<;>intro h
        ·refine .Z5 9 V H λb15 G H=>(.mP V (.mP V (.mV V (.Z0i H 1 V V V nofun V (.fV H 1 V (.sV [(vi x4),(vb s2.2.2.2.2)] H 1 V λG H=>(.Z0i H 1 V V V nofun V (.fV H 1 V ?_))))))));refine .sV [(vi x4),(vb true)] H 1 V λG H=>(.na H λH=>?_);obtain rfl:=sj h;exact ⟨V,EI V,H⟩
        refine .skip ?_;obtain rfl:=sj h;exact ⟨V,EI V,H⟩
       obtain rfl:=sj h;exact ⟨V,EI V,H⟩
      refine .Z5 2 V H λb16 G H=>(.iV V (.mV V (.na H λH=>?_)));obtain rfl:=sj h;exact ⟨V,EI V,H⟩
     refine .exit ?_;obtain rfl:=sj h;exact ⟨nofun,⟨V,U,H⟩⟩
    obtain rfl:=sj h;exact ⟨.inl V,_,Z25 H .nil,_,⟨V,V⟩,H⟩
   ·rintro _ _ G ⟨rfl,rfl⟩ H;refine .na H λH=>?_;obtain rfl:=sj h;exact ⟨V,EI V,(H.erase 0)⟩
  refine .skip ?_;obtain rfl:=sj h;exact ⟨V,EI V,H⟩
 refine .then (.tR 5 V H λb17 G H=>(.fV H 1 V (.fV H 1 V (.lV H 1 V (.nV V (.mV V (.na H λH=>(.inBlock ?_))))))));refine .lp h (λs3=>[(1,(vi t)),(2,(vb up)),(8,(.ptr (b2+0) 2 0)),(9,(vi y1)),(45,(vl Granule.cs f.Form.Odd)),(46,(vi (f.Form.Odd.length:Int))),(47,(vi s3.1))]) (λs3=>[.blk (b2+0) 148 [(vi s3.2.1),(vb s3.2.2)]]) (.exit 2) (λy9=>[(8,(.ptr (b2+0) 2 0)),(9,(vi y1))]) (λy9=>[.blk (b2+0) 148 [(vi y9.1),(vb y9.2)]]) (EI V) (H.erase 1) (λs3 e G H z h=>?_) λy9 e G H h=>?_
 ·unfold Z6.s2 at h;refine .tR 1 V H λb18 G H=>(.iV V (.na H λH=>(.then ?_)));refine .wh h V ?_ ?_<;>intro h
  ·refine .skip (.then ?_);refine .jn h .normal (λy10=>[(1,(vi t)),(2,(vb up)),(8,(.ptr (b2+0) 2 0)),(9,(vi y1)),(45,(vl Granule.cs f.Form.Odd)),(46,(vi (f.Form.Odd.length:Int))),(47,(vi s3.1))]) (λy10=>[.blk (b2+0) 148 [(vi y10.1),(vb y10.2)]]) (λy10 h=>?_) λy10 e G H h=>?_
   ·refine .inBlock ?_;refine .jn h .normal (λy11=>[(1,(vi t)),(2,(vb up)),(8,(.ptr (b2+0) 2 0)),(9,(vi y1)),(45,(vl Granule.cs f.Form.Odd)),(46,(vi (f.Form.Odd.length:Int))),(47,(vi s3.1))]) (λy11=>[.blk (b2+0) 148 [(vi y11.1),(vb y11.2)]]) (λy11 h=>?_) λy11 e G H h=>?_
    ·refine .tR 4 V H λb19 G H=>?_;obtain ⟨x5,q5,h⟩:=bs h;refine .jV q5 V (.qV [(.int .i64 x5.Index),(.sl (x5.Ticks.map Span.cs))] V (.alc (cs:=[(vi 0),.nils]) H V V λG H=>(.sV [(vi x5.Index),(vl Span.cs x5.Ticks)] H 0 V λG H=>(.na H λH=>(.tR 9 V H λb20 G H=>(.fV H 0 V (.lV H 0 V ?_)))))));obtain ⟨x6,q6,h⟩:=bs h;refine .cV (Z5N q6) V (.m1 (.tup [(.agg [(vi x6.1.From),(vi x6.1.To)]),(vb x6.2)]) V V (.xV V (.xV V (.alc (cs:=[(vi 0),(vi 0)]) H V V λG H=>(.sV [(vi x6.1.From),(vi x6.1.To)] H 0 V λG H=>(.aV V (.na H λH=>(.tR 20 V H λb21 G H=>?_))))))));refine .mV V (.mV V ?_);refine .md H 18 [(76,(vb (x6.2&&((up&&(decide (x6.1.To>=t)))||((!up)&&(decide (x6.1.From<=t))))))),(1,(vi t)),(2,(vb up)),(8,(.ptr (b2+0) 2 0)),(9,(vi y1)),(12,(.ptr (b19+2) 2 0)),(45,(vl Granule.cs f.Form.Odd)),(46,(vi (f.Form.Odd.length:Int))),(47,(vi s3.1))] [.blk (b19+2) 99 [(vi x5.Index),(vl Span.cs x5.Ticks)],.blk (b2+0) 148 [(vi s3.2.1),(vb s3.2.2)]] rfl ?_ λe G H=>?_
     ·refine .split V V ?_ ?_<;>intro hc9
      ·refine .mV V (.mV V ?_);refine .md H 5 [(65,(vb (up&&(decide (x6.1.To>=t))))),(1,(vi t)),(2,(vb up)),(8,(.ptr (b2+0) 2 0)),(9,(vi y1)),(12,(.ptr (b19+2) 2 0)),(13,(.ptr (b20+6) 2 0)),(45,(vl Granule.cs f.Form.Odd)),(46,(vi (f.Form.Odd.length:Int))),(47,(vi s3.1)),(58,(vb true))] [.blk (b20+6) 108 [(vi x6.1.From),(vi x6.1.To)],.blk (b19+2) 99 [(vi x5.Index),(vl Span.cs x5.Ticks)],.blk (b2+0) 148 [(vi s3.2.1),(vb s3.2.2)]] V ?_ λe G H=>?_
       ·refine .split V V ?_ ?_<;>intro hc10
        ·refine .fV H 0 V (.lV H 0 V (.mV V (.iV V (.kT V (.nil ?_)))));exact ⟨⟨Z0k hc10,V,V,V,V,V,V,V,V,V,V,U⟩,H.wk (by omega)⟩
        ·refine .ps 4 V (.kF V (.nil ?_));exact ⟨⟨Z0l hc10,V,V,V,V,V,V,V,V,V,V,U⟩,H.wk (by omega)⟩
       refine .mV V ?_;refine .md H 9 [(75,(vb ((up&&(decide (x6.1.To>=t)))||((!up)&&(decide (x6.1.From<=t)))))),(1,(vi t)),(2,(vb up)),(8,(.ptr (b2+0) 2 0)),(9,(vi y1)),(12,(.ptr (b19+2) 2 0)),(45,(vl Granule.cs f.Form.Odd)),(46,(vi (f.Form.Odd.length:Int))),(47,(vi s3.1)),(58,(vb true))] [.blk (b19+2) 99 [(vi x5.Index),(vl Span.cs x5.Ticks)],.blk (b2+0) 148 [(vi s3.2.1),(vb s3.2.2)]] rfl ?_ λe G H=>?_
       ·refine .split V V ?_ ?_<;>intro hc11
        ·refine .ps 8 V (.kT V (.nil ?_));exact ⟨⟨or_T hc11,V,V,V,V,V,V,V,V,V,U⟩,(H.erase 0).wk (by omega)⟩
        ·refine .mV V (.tV V (.mV V ?_));refine .md H 5 [(74,(vb ((!up)&&(decide (x6.1.From<=t))))),(1,(vi t)),(2,(vb up)),(8,(.ptr (b2+0) 2 0)),(9,(vi y1)),(12,(.ptr (b19+2) 2 0)),(45,(vl Granule.cs f.Form.Odd)),(46,(vi (f.Form.Odd.length:Int))),(47,(vi s3.1)),(58,(vb true)),(66,(vb false))] [.blk (b19+2) 99 [(vi x5.Index),(vl Span.cs x5.Ticks)],.blk (b2+0) 148 [(vi s3.2.1),(vb s3.2.2)]] V ?_ λe G H=>?_
         ·refine .split V V ?_ ?_<;>intro hc12
          ·refine .fV H 0 V (.lV H 0 V (.mV V (.iV V (.kT V (.nil ?_)))));exact ⟨⟨Z0k hc12,V,V,V,V,V,V,V,V,V,V,U⟩,(H.erase 0).wk (by omega)⟩
          ·refine .ps 4 V (.kF V (.nil ?_));exact ⟨⟨Z0l hc12,V,V,V,V,V,V,V,V,V,V,U⟩,(H.erase 0).wk (by omega)⟩
         refine .kF V (.nil ?_);exact ⟨⟨or_F hc11,V,V,V,V,V,V,V,V,V,U⟩,H.wk (by omega)⟩
       refine .kT V (.nil ?_);exact ⟨⟨Z0k hc9,V,V,V,V,V,V,V,V,U⟩,H.wk (by omega)⟩
      ·refine .ps 17 V (.kF V (.nil ?_));exact ⟨⟨Z0l hc9,V,V,V,V,V,V,V,V,U⟩,(H.erase 0).wk (by omega)⟩
     refine .na H λH=>?_;refine .wh h V ?_ ?_<;>intro h
     ·refine .Z5 7 V H λb22 G H=>(.mV V (.neg (m:=y1) V V (.fV H 0 V (.lV H 0 V (.iV V (.Z27 (sz:=1) ([(w64 ((w64 (0-y1))*x5.Index))].map (cI .i64)) H (by omega) (by omega) V V V V V V V V V λG H=>?_))))));obtain ⟨y12,hj12,h⟩:=bs h;refine .callI (PostA:=λr A=>r=(.tup [])/\A=[.sl (.buf (b22+5) 1 1) 3 1 (y12.1.map (cI .i64)) true,.blk (b19+2) 99 [(vi x5.Index),(vl Span.cs x5.Ticks)],.blk (b2+0) 148 [(vi y12.2.1),(vb y12.2.2)]]) (cv:=(.v (.fn 97))) (ys:=[(.ptr (b2+0) 2 0),(.buf (b22+5) 1 1)]) (L:=[]) [.sl (.buf (b22+5) 1 1) 3 1 ([(w64 ((w64 (0-y1))*x5.Index))].map (cI .i64)) true,.blk (b19+2) 99 [(vi x5.Index),(vl Span.cs x5.Ticks)],.blk (b2+0) 148 [(vi s3.2.1),(vb s3.2.2)]] H V V (λT2 hT H=>Z7R Tryz.func97 V (λ_=>V) V V V V ?_) nofun V ?_
      ·replace h:=hj12;refine .tR 3 V H λb23 G H=>(.mB V (.Z8c (c:=(cI .i64)) (xs:=[(w64 ((w64 (0-y1))*x5.Index))]) H 0 V V V nofun V (.mV V (.na H λH=>(.inBlock ?_)))));refine .lp h (λs4=>[(0,(.ptr (b2+0) 2 0)),(6,(.buf (b22+5) 1 1)),(7,(vi s4.1)),(8,(vi s4.2.1))]) (λs4=>(.sl (.buf (b22+5) 1 1) 3 1 (s4.2.2.1.map (cI .i64)) true :: .blk (b19+2) 99 [(vi x5.Index),(vl Span.cs x5.Ticks)] :: .blk (b2+0) 148 [(vi s4.2.2.2.1),(vb s4.2.2.2.2)]::T2)) (.exit 0) (λy13=>[]) (λy13=>(.sl (.buf (b22+5) 1 1) 3 1 (y13.1.map (cI .i64)) true :: .blk (b19+2) 99 [(vi x5.Index),(vl Span.cs x5.Ticks)] :: .blk (b2+0) 148 [(vi y13.2.1),(vb y13.2.2)]::T2)) (EI V) H (λs4 e G H z h=>?_) λy13 e G H h=>?_
       ·unfold Z6.s3 at h;refine .tR 1 V H λb24 G H=>(.iV V (.na H λH=>(.then ?_)));refine .wh h V ?_ ?_<;>intro h
        ·refine .skip (.then ?_);refine .jn h .normal (λy14=>[(0,(.ptr (b2+0) 2 0)),(6,(.buf (b22+5) 1 1)),(7,(vi s4.1)),(8,(vi s4.2.1))]) (λy14=>(.sl (.buf (b22+5) 1 1) 3 1 (s4.2.2.1.map (cI .i64)) true :: .blk (b19+2) 99 [(vi x5.Index),(vl Span.cs x5.Ticks)] :: .blk (b2+0) 148 [(vi y14.1),(vb y14.2)]::T2)) (λy14 h=>?_) λy14 e G H h=>?_
         ·refine .inBlock ?_;refine .jn h .normal (λy15=>[(0,(.ptr (b2+0) 2 0)),(6,(.buf (b22+5) 1 1)),(7,(vi s4.1)),(8,(vi s4.2.1))]) (λy15=>(.sl (.buf (b22+5) 1 1) 3 1 (s4.2.2.1.map (cI .i64)) true :: .blk (b19+2) 99 [(vi x5.Index),(vl Span.cs x5.Ticks)] :: .blk (b2+0) 148 [(vi y15.1),(vb y15.2)]::T2)) (λy15 h=>?_) λy15 e G H h=>?_
          ·refine .tR 3 V H λb25 G H=>?_;obtain ⟨x7,q7,h⟩:=bs h;refine .Z1B H 0 V V V (at?_map q7) V V nofun V ?_;intro id2 hv2;refine .loadS (id:=id2) (j:=0) (w:=(.int .i64 x7)) H 0 V hv2 (by simp) (at?_map q7) V (by simp) V V V nofun V ?_;refine .aV V (.na H λH=>(.tR 13 V H λb26 G H=>(.mP V (.Z0i H 2 V V V nofun V (.fV H 2 V (.lV H 2 V (.tV V (.mV V ?_))))))));refine .md H 7 [(24,(vb ((!s4.2.2.2.2)||(decide (x7>s4.2.2.2.1))))),(0,(.ptr (b2+0) 2 0)),(5,(vi x7)),(6,(.buf (b22+5) 1 1)),(7,(vi s4.1)),(8,(vi s4.2.1))] (.sl (.buf (b22+5) 1 1) 3 1 (s4.2.2.1.map (cI .i64)) true :: .blk (b19+2) 99 [(vi x5.Index),(vl Span.cs x5.Ticks)] :: .blk (b2+0) 148 [(vi s4.2.2.2.1),(vb s4.2.2.2.2)]::T2) rfl ?_ λe G H=>?_
           ·refine .split V V ?_ ?_<;>intro hc15
            ·refine .ps 6 V (.kT V (.nil ?_));exact ⟨⟨or_T hc15,V,V,V,V,V,U⟩,H.wk (by omega)⟩
            ·refine .mV V (.mP V (.wt V V (.Z0i H 2 V V V nofun V (.fV H 2 V (.lV H 2 V (.iV V (.kF V (.nil ?_))))))));exact ⟨⟨or_F hc15,V,V,V,V,V,U⟩,H.wk (by omega)⟩
           refine .na H λH=>?_;refine .wh h V ?_ ?_<;>intro h
           ·refine .Z5 9 V H λb27 G H=>(.mP V (.mP V (.mV V (.Z0i H 2 V V V nofun V (.fV H 2 V (.sV [(vi x7),(vb s4.2.2.2.2)] H 2 V λG H=>(.Z0i H 2 V V V nofun V (.fV H 2 V ?_))))))));refine .sV [(vi x7),(vb true)] H 2 V λG H=>(.na H λH=>?_);obtain rfl:=sj h;exact ⟨V,EI V,H⟩
           refine .skip ?_;obtain rfl:=sj h;exact ⟨V,EI V,H⟩
          obtain rfl:=sj h;exact ⟨V,EI V,H⟩
         refine .Z5 2 V H λb28 G H=>(.iV V (.mV V (.na H λH=>?_)));obtain rfl:=sj h;exact ⟨V,EI V,H⟩
        refine .exit ?_;obtain rfl:=sj h;exact ⟨nofun,⟨V,U,H⟩⟩
       obtain rfl:=sj h;exact ⟨.inl V,_,Z25 H .nil,_,⟨V,V⟩,H⟩
      ·rintro _ _ G ⟨rfl,rfl⟩ H;refine .na H λH=>?_;obtain rfl:=sj h;exact ⟨V,EI V,((H.erase 1).erase 0)⟩
     refine .skip ?_;obtain rfl:=sj h;exact ⟨V,EI V,(H.erase 0)⟩
    obtain rfl:=sj h;exact ⟨V,EI V,H⟩
   refine .Z5 2 V H λb29 G H=>(.iV V (.mV V (.na H λH=>?_)));obtain rfl:=sj h;exact ⟨V,EI V,H⟩
  refine .exit ?_;obtain rfl:=sj h;exact ⟨nofun,⟨V,EI V,H⟩⟩
 refine .then (.Z0C 9 V (by kernel_rfl) H λb30 G H B30=>(.mV V (.neg (m:=y1) V V (.Z1 H 0 V V V V V (so (B30 0 _ V _ V)) V (.ld (vi y9.1) H 0 V V V V V (so (B30 0 _ V _ V)) V (.iV V (.Z1 H 0 V V V V V (so (B30 0 _ V _ V)) V (.ld (vb y9.2) H 0 V V V V V (so (B30 0 _ V _ V)) V ?_))))))));refine .aV V (.aV V (.na H λH=>(.ret ?_)));obtain rfl:=sj h;exact Ends.eR V
end Go.Dn
