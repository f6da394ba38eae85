/- Part 3 of what the row stands on. -/
import Derived.KernelRfl
import Derived.Test.YtfknindefmcgdaaM2
set_option linter.unusedVariables false
set_option linter.unusedSimpArgs false
namespace Go.Dn
open Go
noncomputable section
structure Span where
 From:Int
 To:Int
 deriving DecidableEq
def Span.cs (x:Span):List FV:=[(.int .i64 x.From),(.int .i64 x.To)]
def Span.ok (x:Span):Prop:=okI .i64 x.From∧okI .i64 x.To
structure Granule where
 Index:Int
 Ticks:(List Span)
 deriving DecidableEq
def Granule.cs (x:Granule):List FV:=[(.int .i64 x.Index),(.sl (x.Ticks.map Span.cs))]
def Granule.ok (x:Granule):Prop:=okI .i64 x.Index∧okL 16 Span.ok x.Ticks
structure Form where
 Period:Int
 Count:Int
 Core:(List (List Span))
 Odd:(List Granule)
 deriving DecidableEq
def Form.cs (x:Form):List FV:=[(.int .i64 x.Period),(.int .i64 x.Count),(.sl (x.Core.map (cL Span.cs))),(.sl (x.Odd.map Granule.cs))]
def Form.ok (x:Form):Prop:=okI .i64 x.Period∧okI .i64 x.Count∧okL 24 (okL 16 Span.ok) x.Core∧okL 32 Granule.ok x.Odd
structure Bound where
 Inf:Int
 N:Int
 deriving DecidableEq
def Bound.cs (x:Bound):List FV:=[(.int .i8 x.Inf),(.int .i64 x.N)]
def Bound.ok (x:Bound):Prop:=okI .i8 x.Inf∧okI .i64 x.N
structure Range where
 Low:Int
 High:Int
 HasLow:Bool
 HasHigh:Bool
 deriving DecidableEq
def Range.cs (x:Range):List FV:=[(.int .i64 x.Low),(.int .i64 x.High),(.bool x.HasLow),(.bool x.HasHigh)]
def Range.ok (x:Range):Prop:=okI .i64 x.Low∧okI .i64 x.High∧okB x.HasLow∧okB x.HasHigh
structure size_place where
 first:Int
 last:Int
 deriving DecidableEq
def size_place.cs (x:size_place):List FV:=[(.int .i64 x.first),(.int .i64 x.last)]
def size_place.ok (x:size_place):Prop:=okI .i64 x.first∧okI .i64 x.last
structure size_spot where
 index:Int
 place:size_place
 deriving DecidableEq
def size_spot.cs (x:size_spot):List FV:=[(.int .i64 x.index),(.int .i64 x.place.first),(.int .i64 x.place.last)]
def size_spot.ok (x:size_spot):Prop:=okI .i64 x.index∧size_place.ok x.place
structure size_form where
 Form:Form
 spots:(List size_spot)
 deriving DecidableEq
def size_form.cs (x:size_form):List FV:=[(.int .i64 x.Form.Period),(.int .i64 x.Form.Count),(.sl (x.Form.Core.map (cL Span.cs))),(.sl (x.Form.Odd.map Granule.cs)),(.sl (x.spots.map size_spot.cs))]
def size_form.ok (x:size_form):Prop:=Form.ok x.Form∧okL 24 size_spot.ok x.spots
structure carry_asked where
 f:Form
 m:Int
 deriving DecidableEq
def carry_asked.cs (x:carry_asked):List FV:=[(.int .i64 x.f.Period),(.int .i64 x.f.Count),(.sl (x.f.Core.map (cL Span.cs))),(.sl (x.f.Odd.map Granule.cs)),(.int .i64 x.m)]
def carry_asked.ok (x:carry_asked):Prop:=Form.ok x.f∧okI .i64 x.m
structure Arr9_u32 where
 d0:Int
 d1:Int
 d2:Int
 d3:Int
 d4:Int
 d5:Int
 d6:Int
 d7:Int
 d8:Int
 deriving DecidableEq
def Arr9_u32.cs (x:Arr9_u32):List FV:=[(.int .u32 x.d0),(.int .u32 x.d1),(.int .u32 x.d2),(.int .u32 x.d3),(.int .u32 x.d4),(.int .u32 x.d5),(.int .u32 x.d6),(.int .u32 x.d7),(.int .u32 x.d8)]
def Arr9_u32.ok (x:Arr9_u32):Prop:=okI .u32 x.d0∧okI .u32 x.d1∧okI .u32 x.d2∧okI .u32 x.d3∧okI .u32 x.d4∧okI .u32 x.d5∧okI .u32 x.d6∧okI .u32 x.d7∧okI .u32 x.d8
structure epactref01_long where
 minus:Bool
 digits:Arr9_u32
 deriving DecidableEq
def epactref01_long.cs (x:epactref01_long):List FV:=[(.bool x.minus),(.int .u32 x.digits.d0),(.int .u32 x.digits.d1),(.int .u32 x.digits.d2),(.int .u32 x.digits.d3),(.int .u32 x.digits.d4),(.int .u32 x.digits.d5),(.int .u32 x.digits.d6),(.int .u32 x.digits.d7),(.int .u32 x.digits.d8)]
def epactref01_long.ok (x:epactref01_long):Prop:=okB x.minus∧Arr9_u32.ok x.digits
structure spans_border where
 at':Int
 a:Bool
 b:Bool
 deriving DecidableEq
def spans_border.cs (x:spans_border):List FV:=[(.int .i64 x.at'),(.bool x.a),(.bool x.b)]
def spans_border.ok (x:spans_border):Prop:=okI .i64 x.at'∧okB x.a∧okB x.b
def Z04.s0 (f:Form) (s1:Int × Int):Option ((Int × Int) ⊕ (Int)) :=
 (bif (decide (s1.2 < (f.Core.length:Int))) then
  (at? f.Core s1.2).bind fun x1 =>
  some (.inl ((w64 (s1.1 + (x1.length:Int))),(w64 (s1.2 + 1))))
 else
  some (.inr s1.1))
def Z04.s1 (f:Form) (s2:Int × Int):Option ((Int × Int) ⊕ (Int)) :=
 (bif (decide (s2.2 < (f.Odd.length:Int))) then
  (at? f.Odd s2.2).bind fun x2 =>
  some (.inl ((w64 (s2.1 + (x2.Ticks.length:Int))),(w64 (s2.2 + 1))))
 else
  some (.inr s2.1))
def Z04 (f:Form):Option (Int) :=
 (loopO (Z04.s0 f) (0,0)).bind fun (y1:Int) =>
 (loopO (Z04.s1 f) (y1,0)).bind fun (y2:Int) =>
 some y2
def Z0n (f:Form):Option (Bool) :=
 (
  (bif ((decide ((f.Core.length:Int)≤12)) && (decide ((f.Odd.length:Int)≤8))) then
   (Z04 f).bind fun x1 =>
   some (decide (x1≤60))
  else
   some false)).bind fun (y1:Bool) =>
 some y1
def Z0l (t:Int):Bool :=
 ((decide (t ≥ (-1099511627776))) && (decide (t≤1099511627776)))
def Z06.s0 (l:(List Span)) (s1:Int):Option ((Int) ⊕ (Jx (Unit) (Bool))) :=
 (bif (decide (s1 < (l.length:Int))) then
  (at? l s1).bind fun x1 =>
  (
   (bif (((!(Z0l x1.From)) || (!(Z0l x1.To))) || (decide (x1.From > x1.To))) then
    some true
   else
    (
     (bif (decide (s1 > 0)) then
      (at? l (w64 (s1 - 1))).bind fun x2 =>
      some (decide (x1.From < (w64 (x2.To + 2))))
     else
      some false)).bind fun (y3:Bool) =>
    some y3)).bind fun (y2:Bool) =>
  (bif y2 then
   some (.inr (.ret false))
  else
   some (.inl (w64 (s1 + 1))))
 else
  some (.inr (.go ())))
def Z06 (l:(List Span)):Option (Bool) :=
 (loopO (Z06.s0 l) 0).bind fun (y1:Jx (Unit) (Bool)) =>
 y1.elim (fun r' =>
   some r') fun a2 =>
 some true
def Z0x (i:Int):Bool :=
 ((decide (i ≥ (-1099511627776))) && (decide (i≤1099511627776)))
def Zi.s0 (f:Form) (s1:Int):Option ((Int) ⊕ (Jx (Unit) (Bool))) :=
 (bif (decide (s1 < (f.Core.length:Int))) then
  (at? f.Core s1).bind fun x1 =>
  (Z06 x1).bind fun x2 =>
  (bif (!x2) then
   some (.inr (.ret false))
  else
   some (.inl (w64 (s1 + 1))))
 else
  some (.inr (.go ())))
def Zi.s1 (f:Form) (s2:Int):Option ((Int) ⊕ (Jx (Unit) (Bool))) :=
 (bif (decide (s2 < (f.Odd.length:Int))) then
  (at? f.Odd s2).bind fun x3 =>
  (Z06 x3.Ticks).bind fun x4 =>
  (
   (bif ((!x4) || (!(Z0x x3.Index))) then
    some true
   else
    (
     (bif (decide (s2 > 0)) then
      (at? f.Odd (w64 (s2 - 1))).bind fun x5 =>
      some (decide (x3.Index≤x5.Index))
     else
      some false)).bind fun (y4:Bool) =>
    some y4)).bind fun (y3:Bool) =>
  (bif y3 then
   some (.inr (.ret false))
  else
   some (.inl (w64 (s2 + 1))))
 else
  some (.inr (.go ())))
def Zi (f:Form):Option (Bool) :=
 (bif ((((f.Count != (f.Core.length:Int)) || ((f.Count == 0) != (f.Period == 0))) || (decide (f.Period < 0))) || (decide (f.Period > 1099511627776))) then
  some false
 else
  (loopO (Zi.s0 f) 0).bind fun (y1:Jx (Unit) (Bool)) =>
  y1.elim (fun r' =>
    some r') fun a2 =>
  (loopO (Zi.s1 f) 0).bind fun (y2:Jx (Unit) (Bool)) =>
  y2.elim (fun r' =>
    some r') fun a4 =>
  some true)
def Z09.s0 (f:Form) (s2:Int × (List (List Span))):Option ((Int × (List (List Span))) ⊕ ((List (List Span)))) :=
 (bif (decide (s2.1 < (f.Core.length:Int))) then
  (
   (
    (at? f.Core s2.1).bind fun x1 =>
    (bif (decide ((x1.length:Int) > 0)) then
     (app? 24 s2.2 [x1]).bind fun x2 =>
     some x2
    else
     some s2.2)).bind fun (y3:(List (List Span))) =>
   some y3).bind fun (y2:(List (List Span))) =>
  some (.inl ((w64 (s2.1 + 1)),y2))
 else
  some (.inr s2.2))
def Z09.s1 (f:Form) (y1:(List (List Span))) (s3:Int):Option ((Int) ⊕ (Jx (Unit) (Bool))) :=
 (bif (decide (s3 < (y1.length:Int))) then
  (
   (
    (at? y1 s3).bind fun x3 =>
    (nz? (y1.length:Int)).bind fun u1 =>
    (at? y1 ((w64 (s3 + 1)).tmod (y1.length:Int))).bind fun x4 =>
    (
     (bif ((w64 (s3 + 1)) == (y1.length:Int)) then
      some f.Period
     else
      some 0)).bind fun (y7:Int) =>
    (at? x3 (w64 ((x3.length:Int) - 1))).bind fun x5 =>
    (at? x4 0).bind fun x6 =>
    (bif (decide (x5.To ≥ (w64 (x6.From + y7)))) then
     some (.ret false)
    else
     some (.go ()))).bind fun (y6:Jx (Unit) (Bool)) =>
   y6.elim (fun r' =>
     some (.ret r')) fun a4 =>
   some (.go ())).bind fun (y5:Jx (Unit) (Bool)) =>
  y5.elim (fun r' =>
    some (.inr (.ret r'))) fun a5 =>
  some (.inl (w64 (s3 + 1)))
 else
  some (.inr (.go ())))
def Z09 (f:Form):Option (Bool) :=
 (loopO (Z09.s0 f) (0,[])).bind fun (y1:(List (List Span))) =>
 (loopO (Z09.s1 f y1) 0).bind fun (y4:Jx (Unit) (Bool)) =>
 y4.elim (fun r' =>
   some r') fun a6 =>
 some true
def Z2.s0 (x':(List Granule)) (target:Int) (cmp:Granule→Int→Option Int) (s1:Int × Int):Option ((Int × Int) ⊕ (Int)) :=
 (bif (decide (s1.1 < s1.2)) then
  (
   (at? x' (w64 ((IntKind.u64.wrap (w64 (s1.1 + s1.2))).fdiv (2 ^ 1)))).bind fun x1 =>
   (cmp x1 target).bind fun x2 =>
   (bif (decide (x2 < 0)) then
    some ((w64 ((w64 ((IntKind.u64.wrap (w64 (s1.1 + s1.2))).fdiv (2 ^ 1))) + 1)),s1.2)
   else
    some (s1.1,(w64 ((IntKind.u64.wrap (w64 (s1.1 + s1.2))).fdiv (2 ^ 1)))))).bind fun (y2:Int × Int) =>
  some (.inl (y2.1,y2.2))
 else
  some (.inr s1.1))
def Z2 (x':(List Granule)) (target:Int) (cmp:Granule→Int→Option Int):Option (Int × Bool) :=
 (loopO (Z2.s0 x' target cmp) (0,(x'.length:Int))).bind fun (y1:Int) =>
 (
  (bif (decide (y1 < (x'.length:Int))) then
   (at? x' y1).bind fun x3 =>
   (cmp x3 target).bind fun x4 =>
   some (x4 == 0)
  else
   some false)).bind fun (y3:Bool) =>
 some (y1,y3)
def Z2t (x':Int):Bool :=
 (x' != x')
def Z1t (x':Int) (y:Int):Int :=
 (bif (Z2t x') then
  (bif (Z2t y) then
   0
  else
   (-1))
 else
  (bif (Z2t y) then
   1
  else
   (bif (decide (x' < y)) then
    (-1)
   else
    (bif (decide (x' > y)) then
     1
    else
     0))))
def Z3n (g:Granule) (i:Int):Int :=
 (Z1t g.Index i)
def Z58 (f:Form) (i:Int):Option (Int × Bool) :=
 (Z2 f.Odd i (fun z0 z1 => some (Z3n z0 z1))).bind fun x1 =>
 some (x1.1,x1.2)
def Z0A (a:Int) (b:Int):Option (Int × Int × Int) :=
 (bif (b == 0) then
  some (0,0,11)
 else
  (bif ((b == (-1)) && (a == (-9223372036854775808))) then
   some (0,0,10)
  else
   (nz? b).bind fun u1 =>
   (nz? b).bind fun u2 =>
   (
    (bif (((a.tmod b) != 0) && ((decide ((a.tmod b) < 0)) != (decide (b < 0)))) then
     some ((w64 ((w64 (a.tdiv b)) - 1)),(w64 ((a.tmod b) + b)))
    else
     some ((w64 (a.tdiv b)),(a.tmod b)))).bind fun (y1:Int × Int) =>
   some (y1.1,y1.2,0)))
def ZZ (a:Int):Int :=
 (bif (decide (a < 0)) then
  (IntKind.u64.wrap (0 - (IntKind.u64.wrap a)))
 else
  (IntKind.u64.wrap a))
def Zu (x':Int) (y:Int):Int × Int :=
 ((IntKind.u64.wrap ((IntKind.u64.wrap ((IntKind.u64.wrap ((x'.fdiv (2 ^ 32)) * (y.fdiv (2 ^ 32)))) + ((IntKind.u64.wrap ((IntKind.u64.wrap ((x'.fdiv (2 ^ 32)) * (iAnd .u64 y 4294967295))) + ((IntKind.u64.wrap ((iAnd .u64 x' 4294967295) * (iAnd .u64 y 4294967295))).fdiv (2 ^ 32)))).fdiv (2 ^ 32)))) + ((IntKind.u64.wrap ((iAnd .u64 (IntKind.u64.wrap ((IntKind.u64.wrap ((x'.fdiv (2 ^ 32)) * (iAnd .u64 y 4294967295))) + ((IntKind.u64.wrap ((iAnd .u64 x' 4294967295) * (iAnd .u64 y 4294967295))).fdiv (2 ^ 32)))) 4294967295) + (IntKind.u64.wrap ((iAnd .u64 x' 4294967295) * (y.fdiv (2 ^ 32)))))).fdiv (2 ^ 32)))),(IntKind.u64.wrap (x' * y)))
def Z1d (n:Int) (minus:Bool):Int × Int :=
 (bif (minus && (decide (n≤9223372036854775808))) then
  ((w64 (IntKind.u64.wrap (0 - n))),0)
 else
  (bif ((!minus) && (decide (n≤9223372036854775807))) then
   ((w64 n),0)
  else
   (0,10)))
def Z7 (a:Int) (b:Int):Int × Int :=
 (bif (((Zu (ZZ a) (ZZ b)).1) != 0) then
  (0,10)
 else
  ((Z1d ((Zu (ZZ a) (ZZ b)).2) ((decide (a < 0)) != (decide (b < 0)))).1,(Z1d ((Zu (ZZ a) (ZZ b)).2) ((decide (a < 0)) != (decide (b < 0)))).2))
def Z2u (f:Form) (i:Int):Option ((List Span) × Int × Int) :=
 (Z58 f i).bind fun x1 =>
 (bif x1.2 then
  (at? f.Odd x1.1).bind fun x2 =>
  some (x2.Ticks,0,0)
 else
  (bif (f.Count == 0) then
   some ([],0,0)
  else
   (Z0A i f.Count).bind fun x3 =>
   (at? f.Core x3.2.1).bind fun x4 =>
   some (x4,(Z7 x3.1 f.Period).1,(Z7 x3.1 f.Period).2)))
def Zc (a:Int) (b:Int):Int × Int :=
 (bif (((decide ((w64 (a + b)) > a)) != (decide (b > 0))) && (b != 0)) then
  (0,10)
 else
  ((w64 (a + b)),0))
def Z0C.s0 (l:(List Span)) (by':Int) (s2:Int × (List Span)):Option ((Int × (List Span)) ⊕ (Jx ((List Span)) ((List Span) × Int))) :=
 (bif (decide (s2.1 < (l.length:Int))) then
  (at? l s2.1).bind fun x1 =>
  (bif ((((((Zc x1.From by').2) != 0) || (((Zc x1.To by').2) != 0)) || (!(Z0l ((Zc x1.From by').1)))) || (!(Z0l ((Zc x1.To by').1)))) then
   some (.inr (.ret ([],20)))
  else
   (app? 16 s2.2 [(Span.mk ((Zc x1.From by').1) ((Zc x1.To by').1))]).bind fun x2 =>
   some (.inl ((w64 (s2.1 + 1)),x2)))
 else
  some (.inr (.go s2.2)))
def Z0C (l:(List Span)) (by':Int):Option ((List Span) × Int) :=
 (loopO (Z0C.s0 l by') (0,[])).bind fun (y1:Jx ((List Span)) ((List Span) × Int)) =>
 y1.elim (fun r' =>
   some r') fun a2 =>
 some (a2,0)
def Z01 (f:Form) (i:Int):Option ((List Span) × Int) :=
 (bif (!(Z0x i)) then
  some ([],20)
 else
  (Z2u f i).bind fun x1 =>
  (bif ((x1.1.length:Int) == 0) then
   some ([],0)
  else
   (bif (x1.2.2 != 0) then
    some ([],20)
   else
    (Z0C x1.1 x1.2.1).bind fun x2 =>
    some (x2.1,x2.2))))
def ZF.s0 (s:(List (List Span))) (f:(List Span)→Option Bool) (s1:Int):Option ((Int) ⊕ (Jx (Unit) (Int))) :=
 (bif (decide (s1 < (s.length:Int))) then
  (at? s s1).bind fun x1 =>
  (f x1).bind fun x2 =>
  (bif x2 then
   some (.inr (.ret s1))
  else
   some (.inl (w64 (s1 + 1))))
 else
  some (.inr (.go ())))
def ZF (s:(List (List Span))) (f:(List Span)→Option Bool):Option (Int) :=
 (loopO (ZF.s0 s f) 0).bind fun (y1:Jx (Unit) (Int)) =>
 y1.elim (fun r' =>
   some r') fun a2 =>
 some (-1)
def ZV (s:(List (List Span))) (f:(List Span)→Option Bool):Option (Bool) :=
 (ZF s f).bind fun x1 =>
 some (decide (x1 ≥ 0))
def Z55 (l:(List Span)):Bool :=
 (decide ((l.length:Int) > 0))
def Z3V (f:Form):Option (Bool) :=
 (ZV f.Core (fun z0 => some (Z55 z0))).bind fun x1 =>
 some (!x1)
def Z4i (f:Form) (i:Int):Option (Bool) :=
 (Z2u f i).bind fun x1 =>
 some (decide ((x1.1.length:Int) > 0))
def Zq.s0 (f:Form) (by':Int) (s1:Int):Option ((Int) ⊕ (Jx (Unit) (Int × Bool))) :=
 (bif ((decide (s1 ≥ 0)) && (decide (s1 < (f.Odd.length:Int)))) then
  (at? f.Odd s1).bind fun x3 =>
  (bif (decide ((x3.Ticks.length:Int) > 0)) then
   (at? f.Odd s1).bind fun x4 =>
   some (.inr (.ret (x4.Index,true)))
  else
   some (.inl (w64 (s1 + by'))))
 else
  some (.inr (.go ())))
def Zq.s1 (f:Form) (by':Int) (s2:Int):Option ((Int) ⊕ (Jx (Unit) (Int × Bool))) :=
 (bif (Z0x s2) then
  (Z4i f s2).bind fun x5 =>
  (bif x5 then
   some (.inr (.ret (s2,true)))
  else
   some (.inl (w64 (s2 + by'))))
 else
  some (.inr (.go ())))
def Zq (f:Form) (from':Int) (by':Int):Option (Int × Bool) :=
 (Z3V f).bind fun x1 =>
 (bif x1 then
  (Z58 f from').bind fun x2 =>
  (
   (bif ((decide (by' < 0)) && (!x2.2)) then
    some (w64 (x2.1 - 1))
   else
    some x2.1)).bind fun (y1:Int) =>
  (loopO (Zq.s0 f by') y1).bind fun (y2:Jx (Unit) (Int × Bool)) =>
  y2.elim (fun r' =>
    some r') fun a2 =>
  some (0,false)
 else
  (loopO (Zq.s1 f by') from').bind fun (y3:Jx (Unit) (Int × Bool)) =>
  y3.elim (fun r' =>
    some r') fun a4 =>
  some (0,false))
def Z1b (f:Form) (i:Int):Option (Int × Bool) :=
 (bif (decide (i≤(-1099511627776))) then
  some (0,false)
 else
  (Zq f (iMin (w64 (i - 1)) 1099511627776) (-1)).bind fun x1 =>
  some (x1.1,x1.2))
def Z0o (f:Form) (i:Int):Option (Int × Bool) :=
 (bif (decide (i ≥ 1099511627776)) then
  some (0,false)
 else
  (Zq f (iMax (w64 (i + 1)) (-1099511627776)) 1).bind fun x1 =>
  some (x1.1,x1.2))
def Z0a (a:(List Span)) (b:(List Span)):Option (Bool) :=
 (
  (bif (((a.length:Int) == 0) || ((b.length:Int) == 0)) then
   some true
  else
   (at? a (w64 ((a.length:Int) - 1))).bind fun x1 =>
   (at? b 0).bind fun x2 =>
   some (decide (x1.To < x2.From)))).bind fun (y1:Bool) =>
 some y1
def Z1y (f:Form) (i:Int):Option (Bool) :=
 (Z01 f i).bind fun x1 =>
 (bif (x1.2 != 0) then
  some false
 else
  (Z1b f i).bind fun x2 =>
  (Z0o f i).bind fun x3 =>
  (
   (bif x2.2 then
    (Z01 f x2.1).bind fun x4 =>
    (bif (x4.2 != 0) then
     some (.ret false)
    else
     some (.go x4.1))
   else
    some (.go []))).bind fun (y1:Jx ((List Span)) (Bool)) =>
  y1.elim (fun r' =>
    some r') fun a2 =>
  (
   (bif x3.2 then
    (Z01 f x3.1).bind fun x5 =>
    (bif (x5.2 != 0) then
     some (.ret false)
    else
     some (.go x5.1))
   else
    some (.go []))).bind fun (y2:Jx ((List Span)) (Bool)) =>
  y2.elim (fun r' =>
    some r') fun a4 =>
  (Z0a a2 x1.1).bind fun x6 =>
  (
   (bif x6 then
    (Z0a x1.1 a4).bind fun x7 =>
    some x7
   else
    some false)).bind fun (y3:Bool) =>
  (
   (bif y3 then
    (Z0a a2 a4).bind fun x8 =>
    some x8
   else
    some false)).bind fun (y4:Bool) =>
  some y4)
def Z00.s0 (f:Form) (s1:Int):Option ((Int) ⊕ (Jx (Unit) (Int))) :=
 (bif (decide (s1 < (f.Odd.length:Int))) then
  (at? f.Odd s1).bind fun x4 =>
  (Z1y f x4.Index).bind fun x5 =>
  (bif (!x5) then
   some (.inr (.ret 50))
  else
   some (.inl (w64 (s1 + 1))))
 else
  some (.inr (.go ())))
def Z00 (f:Form):Option (Int) :=
 (
  (bif ((decide ((f.Core.length:Int) > 6000)) || (decide ((f.Odd.length:Int) > 6000))) then
   some true
  else
   (Z04 f).bind fun x1 =>
   some (decide (x1 > 60000)))).bind fun (y1:Bool) =>
 (bif y1 then
  some 3
 else
  (Zi f).bind fun x2 =>
  (
   (bif (!x2) then
    some true
   else
    (Z09 f).bind fun x3 =>
    some (!x3))).bind fun (y2:Bool) =>
  (bif y2 then
   some 50
  else
   (loopO (Z00.s0 f) 0).bind fun (y3:Jx (Unit) (Int)) =>
   y3.elim (fun r' =>
     some r') fun a2 =>
   some 0))
def Z4c (f:Form):Option (Bool) :=
 (Z0n f).bind fun x1 =>
 (
  (bif x1 then
   (Z00 f).bind fun x2 =>
   some (x2 == 0)
  else
   some false)).bind fun (y1:Bool) =>
 some y1
def Z0p:Bool:=true
def ZS.s0 (s1':(List Span)) (s2':(List Span)) (s1:Int):Option ((Int) ⊕ (Jx (Unit) (Bool))) :=
 (bif (decide (s1 < (s1'.length:Int))) then
  (at? s1' s1).bind fun x1 =>
  (at? s2' s1).bind fun x2 =>
  (bif (!((x1.From == x2.From) && ((x1.To == x2.To) && true))) then
   some (.inr (.ret false))
  else
   some (.inl (w64 (s1 + 1))))
 else
  some (.inr (.go ())))
def ZS (s1':(List Span)) (s2':(List Span)):Option (Bool) :=
 (bif ((s1'.length:Int) != (s2'.length:Int)) then
  some false
 else
  (loopO (ZS.s0 s1' s2') 0).bind fun (y1:Jx (Unit) (Bool)) =>
  y1.elim (fun r' =>
    some r') fun a2 =>
  some true)
def Z0j (a:(List Span)) (b:(List Span)):Option (Bool) :=
 (ZS a b).bind fun x1 =>
 some x1
def epactlaw05_FormOrder (f:Form) (i:Int) (k:Int):Option (Bool) :=
 (Z4c f).bind fun x1 =>
 (bif (!x1) then
  some Z0p
 else
  (Z01 f (iMin i k)).bind fun x2 =>
  (Z01 f (iMax i k)).bind fun x3 =>
  (bif ((x2.2 != 0) || (x3.2 != 0)) then
   some ((((x2.2 == 0) || ((x2.2 == 20) && ((x2.1.length:Int) == 0))) && ((x3.2 == 0) || ((x3.2 == 20) && ((x3.1.length:Int) == 0)))) && Z0p)
  else
   (Z06 x2.1).bind fun x4 =>
   (
    (bif x4 then
     (Z06 x3.1).bind fun x5 =>
     some x5
    else
     some false)).bind fun (y1:Bool) =>
   (
    (bif y1 then
     (
      (bif ((iMin i k) == (iMax i k)) then
       (Z0j x2.1 x3.1).bind fun x6 =>
       some x6
      else
       some false)).bind fun (y3:Bool) =>
     (
      (bif y3 then
       some true
      else
       (
        (bif (decide ((iMin i k) < (iMax i k))) then
         (Z0a x2.1 x3.1).bind fun x7 =>
         some x7
        else
         some false)).bind fun (y5:Bool) =>
       some y5)).bind fun (y4:Bool) =>
     some y4
    else
     some false)).bind fun (y2:Bool) =>
   some (y2 && Z0p)))
def Z48.s0 (f:Form) (i:Int) (s1:Int):Option ((Int) ⊕ (Jx (Unit) (Bool))) :=
 (bif (decide (s1 < (f.Odd.length:Int))) then
  (at? f.Odd s1).bind fun x1 =>
  (bif (x1.Index == i) then
   some (.inr (.ret true))
  else
   some (.inl (w64 (s1 + 1))))
 else
  some (.inr (.go ())))
def Z48 (f:Form) (i:Int):Option (Bool) :=
 (loopO (Z48.s0 f i) 0).bind fun (y1:Jx (Unit) (Bool)) =>
 y1.elim (fun r' =>
   some r') fun a2 =>
 some false
def epactlaw05_FormTurns (f:Form) (i:Int):Option (Bool) :=
 (Z4c f).bind fun x1 =>
 (
  (bif ((!x1) || (f.Count == 0)) then
   some true
  else
   (Z48 f ((w64 i).tmod 1048576)).bind fun x2 =>
   some x2)).bind fun (y1:Bool) =>
 (
  (bif y1 then
   some true
  else
   (Z48 f (w64 (((w64 i).tmod 1048576) + f.Count))).bind fun x3 =>
   some x3)).bind fun (y2:Bool) =>
 (bif y2 then
  some Z0p
 else
  (Z01 f ((w64 i).tmod 1048576)).bind fun x4 =>
  (Z01 f (w64 (((w64 i).tmod 1048576) + f.Count))).bind fun x5 =>
  (bif ((x4.2 != 0) || (x5.2 != 0)) then
   some Z0p
  else
   (Z0C x4.1 f.Period).bind fun x6 =>
   (
    (bif (x6.2 == 0) then
     (Z0j x6.1 x5.1).bind fun x7 =>
     some x7
    else
     some false)).bind fun (y3:Bool) =>
   some (y3 && Z0p)))
def Z2F.s0 (f:Form) (i:Int) (x2:Int × Bool) (s1:Int):Option ((Int) ⊕ (Jx (Int) (Bool))) :=
 (bif ((x2.2 && (decide (s1 < x2.1))) && (decide (s1 < (w64 (((w64 i).fdiv (2 ^ 1)) + 40))))) then
  (Z01 f s1).bind fun x4 =>
  (bif ((x4.2 == 0) && (decide ((x4.1.length:Int) > 0))) then
   some (.inr (.ret false))
  else
   some (.inl (w64 (s1 + 1))))
 else
  some (.inr (.go ((w64 i).fdiv (2 ^ 1)))))
def Z2F.s1 (f:Form) (x3:Int × Bool) (a2:Int) (s2:Int):Option ((Int) ⊕ (Jx (Unit) (Bool))) :=
 (bif ((x3.2 && (decide (s2 > x3.1))) && (decide (s2 > (w64 (a2 - 40))))) then
  (Z01 f s2).bind fun x5 =>
  (bif ((x5.2 == 0) && (decide ((x5.1.length:Int) > 0))) then
   some (.inr (.ret false))
  else
   some (.inl (w64 (s2 - 1))))
 else
  some (.inr (.go ())))
def Z2F (f:Form) (i:Int):Option (Bool) :=
 (Z4c f).bind fun x1 =>
 (bif (!x1) then
  some Z0p
 else
  (Z0o f ((w64 i).fdiv (2 ^ 1))).bind fun x2 =>
  (Z1b f ((w64 i).fdiv (2 ^ 1))).bind fun x3 =>
  (bif ((x2.2 && (decide (x2.1≤((w64 i).fdiv (2 ^ 1))))) || (x3.2 && (decide (x3.1 ≥ ((w64 i).fdiv (2 ^ 1)))))) then
   some false
  else
   (loopO (Z2F.s0 f i x2) (w64 (((w64 i).fdiv (2 ^ 1)) + 1))).bind fun (y1:Jx (Int) (Bool)) =>
   y1.elim (fun r' =>
     some r') fun a2 =>
   (loopO (Z2F.s1 f x3 a2) (w64 (a2 - 1))).bind fun (y2:Jx (Unit) (Bool)) =>
   y2.elim (fun r' =>
     some r') fun a4 =>
   (
    (bif x2.2 then
     (Z1b f x2.1).bind fun x6 =>
     (bif ((x6.2 && (decide (x6.1 > a2))) || (x3.2 && ((!x6.2) || (decide (x6.1 < x3.1))))) then
      some (.ret false)
     else
      some (.go ()))
    else
     some (.go ()))).bind fun (y3:Jx (Unit) (Bool)) =>
   y3.elim (fun r' =>
     some r') fun a6 =>
   some Z0p))
def ZA.s0 (s1':(List Span)) (s2':(List Span)) (eq:Span→Span→Option Bool) (s1:Int):Option ((Int) ⊕ (Jx (Unit) (Bool))) :=
 (bif (decide (s1 < (s1'.length:Int))) then
  (at? s1' s1).bind fun x1 =>
  (at? s2' s1).bind fun x2 =>
  (eq x1 x2).bind fun x3 =>
  (bif (!x3) then
   some (.inr (.ret false))
  else
   some (.inl (w64 (s1 + 1))))
 else
  some (.inr (.go ())))
def ZA (s1':(List Span)) (s2':(List Span)) (eq:Span→Span→Option Bool):Option (Bool) :=
 (bif ((s1'.length:Int) != (s2'.length:Int)) then
  some false
 else
  (loopO (ZA.s0 s1' s2' eq) 0).bind fun (y1:Jx (Unit) (Bool)) =>
  y1.elim (fun r' =>
    some r') fun a2 =>
  some true)
def Z0J.s0 (s1':(List (List Span))) (s2':(List (List Span))) (eq:(List Span)→(List Span)→Option Bool) (s1:Int):Option ((Int) ⊕ (Jx (Unit) (Bool))) :=
 (bif (decide (s1 < (s1'.length:Int))) then
  (at? s1' s1).bind fun x1 =>
  (at? s2' s1).bind fun x2 =>
  (eq x1 x2).bind fun x3 =>
  (bif (!x3) then
   some (.inr (.ret false))
  else
   some (.inl (w64 (s1 + 1))))
 else
  some (.inr (.go ())))
def Z0J (s1':(List (List Span))) (s2':(List (List Span))) (eq:(List Span)→(List Span)→Option Bool):Option (Bool) :=
 (bif ((s1'.length:Int) != (s2'.length:Int)) then
  some false
 else
  (loopO (Z0J.s0 s1' s2' eq) 0).bind fun (y1:Jx (Unit) (Bool)) =>
  y1.elim (fun r' =>
    some r') fun a2 =>
  some true)
def Zw.s0 (s1':(List Granule)) (s2':(List Granule)) (eq:Granule→Granule→Option Bool) (s1:Int):Option ((Int) ⊕ (Jx (Unit) (Bool))) :=
 (bif (decide (s1 < (s1'.length:Int))) then
  (at? s1' s1).bind fun x1 =>
  (at? s2' s1).bind fun x2 =>
  (eq x1 x2).bind fun x3 =>
  (bif (!x3) then
   some (.inr (.ret false))
  else
   some (.inl (w64 (s1 + 1))))
 else
  some (.inr (.go ())))
def Zw (s1':(List Granule)) (s2':(List Granule)) (eq:Granule→Granule→Option Bool):Option (Bool) :=
 (bif ((s1'.length:Int) != (s2'.length:Int)) then
  some false
 else
  (loopO (Zw.s0 s1' s2' eq) 0).bind fun (y1:Jx (Unit) (Bool)) =>
  y1.elim (fun r' =>
    some r') fun a2 =>
  some true)
def Zh.s0 (a:(List Span)) (b:(List Span)) (s1:Int):Option ((Int) ⊕ (Jx (Unit) (Bool))) :=
 (bif (decide (s1 < (a.length:Int))) then
  (at? a s1).bind fun x1 =>
  (at? b s1).bind fun x2 =>
  (bif (!((x2.From == x1.From) && ((x2.To == x1.To) && true))) then
   some (.inr (.ret false))
  else
   some (.inl (w64 (s1 + 1))))
 else
  some (.inr (.go ())))
def Zh (a:(List Span)) (b:(List Span)):Option (Bool) :=
 (bif ((a.length:Int) != (b.length:Int)) then
  some false
 else
  (loopO (Zh.s0 a b) 0).bind fun (y1:Jx (Unit) (Bool)) =>
  y1.elim (fun r' =>
    some r') fun a2 =>
  some true)
def Z3.s0 (a:Form) (b:Form) (s1:Int):Option ((Int) ⊕ (Jx (Unit) (Bool))) :=
 (bif (decide (s1 < (a.Core.length:Int))) then
  (at? a.Core s1).bind fun x1 =>
  (at? b.Core s1).bind fun x2 =>
  (Zh x1 x2).bind fun x3 =>
  (bif (!x3) then
   some (.inr (.ret false))
  else
   some (.inl (w64 (s1 + 1))))
 else
  some (.inr (.go ())))
def Z3.s1 (a:Form) (b:Form) (s2:Int):Option ((Int) ⊕ (Jx (Unit) (Bool))) :=
 (bif (decide (s2 < (a.Odd.length:Int))) then
  (at? a.Odd s2).bind fun x4 =>
  (at? b.Odd s2).bind fun x5 =>
  (
   (bif (x4.Index != x5.Index) then
    some true
   else
    (at? b.Odd s2).bind fun x6 =>
    (Zh x4.Ticks x6.Ticks).bind fun x7 =>
    some (!x7))).bind fun (y3:Bool) =>
  (bif y3 then
   some (.inr (.ret false))
  else
   some (.inl (w64 (s2 + 1))))
 else
  some (.inr (.go ())))
def Z3 (a:Form) (b:Form):Option (Bool) :=
 (bif ((((a.Period != b.Period) || (a.Count != b.Count)) || ((a.Core.length:Int) != (b.Core.length:Int))) || ((a.Odd.length:Int) != (b.Odd.length:Int))) then
  some false
 else
  (loopO (Z3.s0 a b) 0).bind fun (y1:Jx (Unit) (Bool)) =>
  y1.elim (fun r' =>
    some r') fun a2 =>
  (loopO (Z3.s1 a b) 0).bind fun (y2:Jx (Unit) (Bool)) =>
  y2.elim (fun r' =>
    some r') fun a4 =>
  some true)
def Z3O (f:Form):Option (Bool) :=
 (Z0n f).bind fun x1 =>
 (
  (bif x1 then
   (Z00 f).bind fun x2 =>
   some (x2 == 0)
  else
   some false)).bind fun (y1:Bool) =>
 some y1
def Z3f.s0 (f:Form) (most:Int) (s1:Int):Option ((Int) ⊕ (Jx (Unit) (Bool))) :=
 (bif (decide (s1 < (f.Odd.length:Int))) then
  (at? f.Odd s1).bind fun x1 =>
  (bif ((decide (x1.Index < (w64 (0 - most)))) || (decide (x1.Index > most))) then
   some (.inr (.ret false))
  else
   some (.inl (w64 (s1 + 1))))
 else
  some (.inr (.go ())))
def Z3f (f:Form) (most:Int):Option (Bool) :=
 (loopO (Z3f.s0 f most) 0).bind fun (y1:Jx (Unit) (Bool)) =>
 y1.elim (fun r' =>
   some r') fun a2 =>
 some true
def Z18:Bool:=true
def Z5L (l:(List Span)):Bool :=
 (decide ((l.length:Int) > 0))
def Z3l (f:Form):Option (Bool) :=
 (ZV f.Core (fun z0 => some (Z5L z0))).bind fun x1 =>
 some (!x1)
def Zr.s0 (p1':Int) {S:Type} (yield:S→Int→Option (S × Bool)) (s1:Int × S):Option ((Int × S) ⊕ (Jx (S) (S))) :=
 (bif (decide (s1.1≤p1')) then
  (nz? s1.1).bind fun u1 =>
  (
   (bif ((p1'.tmod s1.1) == 0) then
    (yield s1.2 s1.1).bind fun x1 =>
    some ((!x1.2),x1.1)
   else
    some (false,s1.2))).bind fun (y2:Bool × S) =>
  (bif y2.1 then
   some (.inr (.ret y2.2))
  else
   some (.inl ((w64 (s1.1 + 1)),y2.2)))
 else
  some (.inr (.go s1.2)))
def Zr {S:Type} (p1':Int) (yield:S→Int→Option (S × Bool)) (st':S):Option (S) :=
 (loopO (Zr.s0 p1' yield) (1,st')).bind fun (y1:Jx (S) (S)) =>
 y1.elim (fun r' =>
   some r') fun a2 =>
 some a2
def Z1N (x':Span) (y:Span) (p2':Int):Bool :=
 (((w64 (y.From - x'.From)) == p2') && ((w64 (y.To - x'.To)) == p2'))
def Z25 (a:(List Span)) (b:(List Span)) (by':Int):Option (Bool) :=
 (ZA a b (fun z0 z1 => some (Z1N z0 z1 by'))).bind fun x1 =>
 some x1
def Z0i.s0 (f:Form) (d:Int) (by':Int) (s1:Int):Option ((Int) ⊕ (Jx (Unit) (Bool))) :=
 (bif (decide (s1 < (f.Core.length:Int))) then
  (
   (
    (at? f.Core s1).bind fun x1 =>
    (
     (bif (decide ((w64 (s1 + d)) ≥ f.Count)) then
      some ((w64 ((w64 (s1 + d)) - f.Count)),f.Period)
     else
      some ((w64 (s1 + d)),0))).bind fun (y4:Int × Int) =>
    (at? f.Core y4.1).bind fun x2 =>
    (Z25 x1 x2 (w64 (by' - y4.2))).bind fun x3 =>
    (bif (!x3) then
     some (.ret false)
    else
     some (.go ()))).bind fun (y3:Jx (Unit) (Bool)) =>
   y3.elim (fun r' =>
     some (.ret r')) fun a4 =>
   some (.go ())).bind fun (y2:Jx (Unit) (Bool)) =>
  y2.elim (fun r' =>
    some (.inr (.ret r'))) fun a5 =>
  some (.inl (w64 (s1 + 1)))
 else
  some (.inr (.go ())))
def Z0i (f:Form) (d:Int) (by':Int):Option (Bool) :=
 (loopO (Z0i.s0 f d by') 0).bind fun (y1:Jx (Unit) (Bool)) =>
 y1.elim (fun r' =>
   some r') fun a6 =>
 some true
def Zn.s1 (x4:(List (List Span))) (s3:Int × (List (List Span))):Option ((Int × (List (List Span))) ⊕ ((List (List Span)))) :=
 (bif (decide (s3.1 < (x4.length:Int))) then
  (at? x4 s3.1).bind fun x5 =>
  (clone? 16 x5).bind fun x6 =>
  (app? 24 s3.2 [x6]).bind fun x7 =>
  some (.inl ((w64 (s3.1 + 1)),x7))
 else
  some (.inr s3.2))
def Zn.b0 (f:Form) (s2:(List (List Span)) × Int × Int) (z2:Int):Option (((List (List Span)) × Int × Int) × Nat) :=
 (nz? z2).bind fun u1 =>
 (Z0A f.Period (w64 (f.Count.tdiv z2))).bind fun x2 =>
 (
  (bif (x2.2.1 != 0) then
   some true
  else
   (Z0i f z2 x2.1).bind fun x3 =>
   some (!x3))).bind fun (y3:Bool) =>
 (bif y3 then
  some ((s2.1,s2.2.1,s2.2.2),0)
 else
  (cut? f.Core 0 z2).bind fun x4 =>
  (loopO (Zn.s1 x4) (0,s2.1)).bind fun (y4:(List (List Span))) =>
  some ((y4,x2.1,z2),1))
def Zn (f:Form):Option (Form) :=
 (Z3l f).bind fun x1 =>
 (bif x1 then
  some (Form.mk 0 0 [] [])
 else
  (
   (Zr f.Count (Z1J (Zn.b0 f)) (([],0,0),0)).bind fun (y2:((List (List Span)) × Int × Int) × Nat) =>
   (bif (y2.2 == 0) then
    some (y2.1.1,y2.1.2.1,y2.1.2.2)
   else
    some (y2.1.1,y2.1.2.1,y2.1.2.2))).bind fun (y1:(List (List Span)) × Int × Int) =>
  some (Form.mk y1.2.1 y1.2.2 y1.1 []))
def Z35 (f:Form) (g:Granule):Option (Bool) :=
 (Z01 f g.Index).bind fun x1 =>
 (
  (bif (x1.2 == 0) then
   (Z0j x1.1 g.Ticks).bind fun x2 =>
   some x2
  else
   some false)).bind fun (y1:Bool) =>
 some y1
def ZT.s0 (f:Form) (x1:Form) (s2:Int × (List Granule)):Option ((Int × (List Granule)) ⊕ ((List Granule))) :=
 (bif (decide (s2.1 < (f.Odd.length:Int))) then
  (
   (
    (at? f.Odd s2.1).bind fun x2 =>
    (Z35 x1 x2).bind fun x3 =>
    (bif (!x3) then
     (clone? 16 x2.Ticks).bind fun x4 =>
     (app? 32 s2.2 [(Granule.mk x2.Index x4)]).bind fun x5 =>
     some x5
    else
     some s2.2)).bind fun (y3:(List Granule)) =>
   some y3).bind fun (y2:(List Granule)) =>
  some (.inl ((w64 (s2.1 + 1)),y2))
 else
  some (.inr s2.2))
def ZT (f:Form):Option (Form) :=
 (Zn f).bind fun x1 =>
 (loopO (ZT.s0 f x1) (0,[])).bind fun (y1:(List Granule)) =>
 some (Form.mk x1.Period x1.Count x1.Core y1)
def canon_equal_1 (x':Granule) (y:Granule):Option (Bool) :=
 (
  (bif (x'.Index == y.Index) then
   (Z0j x'.Ticks y.Ticks).bind fun x1 =>
   some x1
  else
   some false)).bind fun (y1:Bool) =>
 some y1
def ZBR (a:Form) (b:Form):Option (Bool) :=
 (
  (bif ((a.Period == b.Period) && (a.Count == b.Count)) then
   (Z0J a.Core b.Core (fun z0 z1 => Z0j z0 z1)).bind fun x1 =>
   some x1
  else
   some false)).bind fun (y1:Bool) =>
 (
  (bif y1 then
   (Zw a.Odd b.Odd (fun z0 z1 => canon_equal_1 z0 z1)).bind fun x2 =>
   some x2
  else
   some false)).bind fun (y2:Bool) =>
 some y2
def ZCJ (f:Form) (g:Form):Option (Bool) :=
 (ZT f).bind fun x1 =>
 (ZT g).bind fun x2 =>
 (ZBR x1 x2).bind fun x3 =>
 some x3
def Z4x.s0 (f:Form) (g:Form) (s1:Int):Option ((Int) ⊕ (Jx (Bool) (Bool))) :=
 (bif (decide (s1≤2000)) then
  (Z01 f s1).bind fun x5 =>
  (Z01 g s1).bind fun x6 =>
  (bif ((x5.2 != 0) || (x6.2 != 0)) then
   some (.inr (.ret Z18))
  else
   (Z0j x5.1 x6.1).bind fun x7 =>
   (bif (!x7) then
    some (.inr (.go false))
   else
    some (.inl (w64 (s1 + 1)))))
 else
  some (.inr (.go true)))
def Z4x (f:Form) (g:Form):Option (Bool) :=
 (Z3O f).bind fun x1 =>
 (
  (bif (!x1) then
   some true
  else
   (Z3O g).bind fun x2 =>
   some (!x2))).bind fun (y1:Bool) =>
 (
  (bif y1 then
   some true
  else
   (Z3f f 200).bind fun x3 =>
   some (!x3))).bind fun (y2:Bool) =>
 (
  (bif y2 then
   some true
  else
   (Z3f g 200).bind fun x4 =>
   some (!x4))).bind fun (y3:Bool) =>
 (bif ((y3 || (decide (f.Period > 32768))) || (decide (g.Period > 32768))) then
  some Z18
 else
  (loopO (Z4x.s0 f g) (-2000)).bind fun (y4:Jx (Bool) (Bool)) =>
  y4.elim (fun r' =>
    some r') fun a2 =>
  (ZCJ f g).bind fun x8 =>
  (
   (bif (x8 == a2) then
    (ZT f).bind fun x9 =>
    (ZT g).bind fun x10 =>
    (Z3 x9 x10).bind fun x11 =>
    some (x11 == a2)
   else
    some false)).bind fun (y5:Bool) =>
  some (y5 && Z18))
def canon_Is (f:Form):Option (Bool) :=
 (ZT f).bind fun x1 =>
 (ZBR f x1).bind fun x2 =>
 some x2
def Z4R.s0 (f:Form) (i:Int) (x2:Form) (s1:Int):Option ((Int) ⊕ (Jx (Unit) (Bool))) :=
 (bif (decide (s1 < ([i,0,1,(-1),(w64 ((i.tmod 50) - 25))].length:Int))) then
  (at? [i,0,1,(-1),(w64 ((i.tmod 50) - 25))] s1).bind fun x9 =>
  (Z01 f x9).bind fun x10 =>
  (Z01 x2 x9).bind fun x11 =>
  (
   (bif (x10.2 != x11.2) then
    some true
   else
    (Z0j x10.1 x11.1).bind fun x12 =>
    some (!x12))).bind fun (y5:Bool) =>
  (bif y5 then
   some (.inr (.ret false))
  else
   some (.inl (w64 (s1 + 1))))
 else
  some (.inr (.go ())))
def Z4R (f:Form) (i:Int):Option (Bool) :=
 (Z3O f).bind fun x1 =>
 (bif (!x1) then
  some Z18
 else
  (ZT f).bind fun x2 =>
  (Z00 x2).bind fun x3 =>
  (
   (bif (x3 != 0) then
    some true
   else
    (canon_Is x2).bind fun x4 =>
    some (!x4))).bind fun (y1:Bool) =>
  (
   (bif y1 then
    some true
   else
    (ZT x2).bind fun x5 =>
    (Z3 x5 x2).bind fun x6 =>
    some (!x6))).bind fun (y2:Bool) =>
  (
   (bif (((y2 || (decide (x2.Count > f.Count))) || (decide (x2.Period > f.Period))) || (decide ((x2.Odd.length:Int) > (f.Odd.length:Int)))) then
    some true
   else
    (Z04 x2).bind fun x7 =>
    (Z04 f).bind fun x8 =>
    some (decide (x7 > x8)))).bind fun (y3:Bool) =>
  (bif y3 then
   some false
  else
   (loopO (Z4R.s0 f i x2) 0).bind fun (y4:Jx (Unit) (Bool)) =>
   y4.elim (fun r' =>
     some r') fun a2 =>
   (ZCJ f x2).bind fun x13 =>
   some (x13 && Z18)))
def Z8s (l:(List Span)):Option ((List Span)) :=
 (new? 16 (l.length:Int) (Span.mk 0 0)).bind fun x1 =>
 some (cpy x1 l)
def Z21.s0 (f:Form) (s2:Int × (List (List Span))):Option ((Int × (List (List Span))) ⊕ ((List (List Span)))) :=
 (bif (decide (s2.1 < (f.Core.length:Int))) then
  (at? f.Core s2.1).bind fun x1 =>
  (Z8s x1).bind fun x2 =>
  (app? 24 s2.2 [x2]).bind fun x3 =>
  some (.inl ((w64 (s2.1 + 1)),x3))
 else
  some (.inr s2.2))
def Z21.s1 (f:Form) (s4:Int × (List Granule)):Option ((Int × (List Granule)) ⊕ ((List Granule))) :=
 (bif (decide (s4.1 < (f.Odd.length:Int))) then
  (at? f.Odd s4.1).bind fun x4 =>
  (Z8s x4.Ticks).bind fun x5 =>
  (app? 32 s4.2 [(Granule.mk x4.Index x5)]).bind fun x6 =>
  some (.inl ((w64 (s4.1 + 1)),x6))
 else
  some (.inr s4.2))
def Z21 (f:Form):Option (Form) :=
 (loopO (Z21.s0 f) (0,[])).bind fun (y1:(List (List Span))) =>
 (loopO (Z21.s1 f) (0,[])).bind fun (y2:(List Granule)) =>
 some (Form.mk f.Period f.Count y1 y2)
def Z5H.s0 (f:Form) (s1:Int):Option ((Int) ⊕ (Jx (Unit) (Bool))) :=
 (bif (decide (s1 < (f.Core.length:Int))) then
  (at? f.Core s1).bind fun x1 =>
  (bif (decide ((x1.length:Int) > 0)) then
   some (.inr (.ret false))
  else
   some (.inl (w64 (s1 + 1))))
 else
  some (.inr (.go ())))
def Z5H (f:Form):Option (Bool) :=
 (loopO (Z5H.s0 f) 0).bind fun (y1:Jx (Unit) (Bool)) =>
 y1.elim (fun r' =>
   some r') fun a2 =>
 some true
def Z5A (a:Int) (b:Int):Option (Int × Int) :=
 (nz? b).bind fun u1 =>
 (nz? b).bind fun u2 =>
 (
  (bif (decide ((a.tmod b) < 0)) then
   some ((w64 ((w64 (a.tdiv b)) - 1)),(w64 ((a.tmod b) + b)))
  else
   some ((w64 (a.tdiv b)),(a.tmod b)))).bind fun (y1:Int × Int) =>
 some (y1.1,y1.2)
def Z5o (f:Form) (i:Int):Option ((List Span) × Int) :=
 (Z5A i f.Count).bind fun x1 =>
 (at? f.Core x1.2).bind fun x2 =>
 some (x2,(w64 (x1.1 * f.Period)))
def Z3g.s0 (a:(List Span)) (x':Int) (b:(List Span)) (y:Int) (s1:Int):Option ((Int) ⊕ (Jx (Unit) (Bool))) :=
 (bif (decide (s1 < (a.length:Int))) then
  (at? a s1).bind fun x1 =>
  (at? b s1).bind fun x2 =>
  (
   (bif ((w64 (x1.From + x')) != (w64 (x2.From + y))) then
    some true
   else
    (at? a s1).bind fun x3 =>
    (at? b s1).bind fun x4 =>
    some ((w64 (x3.To + x')) != (w64 (x4.To + y))))).bind fun (y2:Bool) =>
  (bif y2 then
   some (.inr (.ret false))
  else
   some (.inl (w64 (s1 + 1))))
 else
  some (.inr (.go ())))
def Z3g (a:(List Span)) (x':Int) (b:(List Span)) (y:Int):Option (Bool) :=
 (bif ((a.length:Int) != (b.length:Int)) then
  some false
 else
  (loopO (Z3g.s0 a x' b y) 0).bind fun (y1:Jx (Unit) (Bool)) =>
  y1.elim (fun r' =>
    some r') fun a2 =>
  some true)
def Z4V.s0 (f:Form) (d:Int) (s1:Int):Option ((Int) ⊕ (Jx (Unit) (Bool))) :=
 (bif (decide (s1 < f.Count)) then
  (Z5o f s1).bind fun x1 =>
  (Z5o f (w64 (s1 + d))).bind fun x2 =>
  (nz? f.Count).bind fun u3 =>
  (Z3g x1.1 (w64 (x1.2 + (w64 ((w64 (f.Period * d)).tdiv f.Count)))) x2.1 x2.2).bind fun x3 =>
  (bif (!x3) then
   some (.inr (.ret false))
  else
   some (.inl (w64 (s1 + 1))))
 else
  some (.inr (.go ())))
def Z4V (f:Form) (d:Int):Option (Bool) :=
 (nz? d).bind fun u1 =>
 (
  (bif ((f.Count.tmod d) != 0) then
   some true
  else
   (nz? f.Count).bind fun u2 =>
   some (((w64 (f.Period * d)).tmod f.Count) != 0))).bind fun (y1:Bool) =>
 (bif y1 then
  some false
 else
  (loopO (Z4V.s0 f d) 0).bind fun (y2:Jx (Unit) (Bool)) =>
  y2.elim (fun r' =>
    some r') fun a2 =>
  some true)
def Z12.s0 (f:Form) (s1:Int):Option ((Int) ⊕ (Int)) :=
 (Z4V f s1).bind fun x2 =>
 (bif (!x2) then
  some (.inl (w64 (s1 + 1)))
 else
  some (.inr s1))
def Z12.s1 (f:Form) (y2:Int) (s2:Int × (List (List Span))):Option ((Int × (List (List Span))) ⊕ ((List (List Span)) × Int)) :=
 (bif (decide (s2.1 < y2)) then
  (at? f.Core s2.1).bind fun x3 =>
  (app? 16 [] x3).bind fun x4 =>
  (app? 24 s2.2 [x4]).bind fun x5 =>
  some (.inl ((w64 (s2.1 + 1)),x5))
 else
  some (.inr (s2.2,(w64 ((w64 (f.Period * y2)).tdiv f.Count)))))
def Z12.s2 (f:Form) (y1:(List (List Span)) × Int × Int) (s3:Int × (List Granule)):Option ((Int × (List Granule)) ⊕ ((List Granule))) :=
 (bif (decide (s3.1 < (f.Odd.length:Int))) then
  (
   (
    (
     (bif (decide (y1.2.2 > 0)) then
      (at? f.Odd s3.1).bind fun x6 =>
      (Z5o (Form.mk y1.2.1 y1.2.2 y1.1 []) x6.Index).bind fun x7 =>
      some (x7.1,x7.2)
     else
      some ([],0))).bind fun (y7:(List Span) × Int) =>
    (at? f.Odd s3.1).bind fun x8 =>
    (Z3g y7.1 y7.2 x8.Ticks 0).bind fun x9 =>
    (bif (!x9) then
     (at? f.Odd s3.1).bind fun x10 =>
     (at? f.Odd s3.1).bind fun x11 =>
     (app? 16 [] x11.Ticks).bind fun x12 =>
     (app? 32 s3.2 [(Granule.mk x10.Index x12)]).bind fun x13 =>
     some x13
    else
     some s3.2)).bind fun (y6:(List Granule)) =>
   some y6).bind fun (y5:(List Granule)) =>
  some (.inl ((w64 (s3.1 + 1)),y5))
 else
  some (.inr s3.2))
def Z12 (f:Form):Option (Form) :=
 (
  (Z5H f).bind fun x1 =>
  (bif (!x1) then
   (loopO (Z12.s0 f) 1).bind fun (y2:Int) =>
   (nz? f.Count).bind fun u1 =>
   (loopO (Z12.s1 f y2) (0,[])).bind fun (y3:(List (List Span)) × Int) =>
   some (y3.1,y3.2,y2)
  else
   some ([],0,0))).bind fun (y1:(List (List Span)) × Int × Int) =>
 (loopO (Z12.s2 f y1) (0,[])).bind fun (y4:(List Granule)) =>
 some (Form.mk y1.2.1 y1.2.2 y1.1 y4)
def epactlaw06_CanonTells (f:Form):Option (Bool) :=
 (Z3O f).bind fun x1 =>
 (bif (!x1) then
  some Z18
 else
  (Z21 f).bind fun x2 =>
  (ZT x2).bind fun x3 =>
  (Z12 f).bind fun x4 =>
  (Z3 x3 x4).bind fun x5 =>
  (
   (bif x5 then
    (canon_Is x2).bind fun x6 =>
    (Z3 f x4).bind fun x7 =>
    some (x6 == x7)
   else
    some false)).bind fun (y1:Bool) =>
  (
   (bif y1 then
    (Z3 x2 f).bind fun x8 =>
    some x8
   else
    some false)).bind fun (y2:Bool) =>
  some (y2 && Z18))
def Z6t (f:Form):Option (Bool) :=
 (Z0n f).bind fun x1 =>
 (
  (bif x1 then
   (Z00 f).bind fun x2 =>
   some (x2 == 0)
  else
   some false)).bind fun (y1:Bool) =>
 some y1
def Z2L:Bool:=true
def Z0v (a:Bound):Bool :=
 ((a.Inf == 0) || (((a.Inf == 1) || (a.Inf == (-1))) && (a.N == 0)))
def size_inRange (k:Int):Bool :=
 ((decide (k ≥ (-1099511627776))) && (decide (k≤1099511627776)))
def Z2f (l:(List Span)):Option (Span × Bool) :=
 (bif ((l.length:Int) == 0) then
  some ((Span.mk 0 0),false)
 else
  (at? l 0).bind fun x1 =>
  (at? l (w64 ((l.length:Int) - 1))).bind fun x2 =>
  some ((Span.mk x1.From x2.To),true))
def ZB0.s0 (x1:Form) (s2:Int × (List size_spot)):Option ((Int × (List size_spot)) ⊕ ((List size_spot))) :=
 (bif (decide (s2.1 < (x1.Core.length:Int))) then
  (
   (
    (at? x1.Core s2.1).bind fun x2 =>
    (Z2f x2).bind fun x3 =>
    (bif x3.2 then
     (app? 24 s2.2 [(size_spot.mk s2.1 (size_place.mk x3.1.From x3.1.To))]).bind fun x4 =>
     some x4
    else
     some s2.2)).bind fun (y3:(List size_spot)) =>
   some y3).bind fun (y2:(List size_spot)) =>
  some (.inl ((w64 (s2.1 + 1)),y2))
 else
  some (.inr s2.2))
def ZB0 (f:Form):Option (size_form) :=
 (ZT f).bind fun x1 =>
 (loopO (ZB0.s0 x1) (0,[])).bind fun (y1:(List size_spot)) =>
 some (size_form.mk x1 y1)
def Z52.s0 (f:Int→Option Bool) (s1:Int × Int):Option ((Int × Int) ⊕ (Int)) :=
 (bif (decide (s1.1 < s1.2)) then
  (
   (f (w64 ((IntKind.u64.wrap (w64 (s1.1 + s1.2))).fdiv (2 ^ 1)))).bind fun x1 =>
   (bif (!x1) then
    some ((w64 ((w64 ((IntKind.u64.wrap (w64 (s1.1 + s1.2))).fdiv (2 ^ 1))) + 1)),s1.2)
   else
    some (s1.1,(w64 ((IntKind.u64.wrap (w64 (s1.1 + s1.2))).fdiv (2 ^ 1)))))).bind fun (y2:Int × Int) =>
  some (.inl (y2.1,y2.2))
 else
  some (.inr s1.1))
def Z52 (n:Int) (f:Int→Option Bool):Option (Int) :=
 (loopO (Z52.s0 f) (0,n)).bind fun (y1:Int) =>
 some y1
def ZAp (n:Int) (p1':size_form) (p2':Int) (p3':Int):Option (Bool) :=
 (at? p1'.spots n).bind fun x1 =>
 some (decide ((w64 (x1.place.last - (w64 (p2' * p1'.Form.Period)))) ≥ p3'))
def ZAu (n:Int) (p1':size_form) (p2':Int) (p3':Int):Option (Bool) :=
 (at? p1'.spots n).bind fun x1 =>
 some (decide ((w64 (x1.place.first + (w64 (p2' * p1'.Form.Period)))) > p3'))
def Z8A (f:size_form) (t:Int) (up:Bool):Option (Int) :=
 (bif up then
  (at? f.spots (w64 ((f.spots.length:Int) - 1))).bind fun x1 =>
  (Z0A (w64 (x1.place.last - t)) f.Form.Period).bind fun x2 =>
  (Z52 (f.spots.length:Int) (fun z0 => ZAp z0 f x2.1 t)).bind fun x3 =>
  (at? f.spots x3).bind fun x4 =>
  some (w64 (x4.index - (w64 (x2.1 * f.Form.Count))))
 else
  (at? f.spots 0).bind fun x5 =>
  (Z0A (w64 (t - x5.place.first)) f.Form.Period).bind fun x6 =>
  (Z52 (f.spots.length:Int) (fun z0 => ZAu z0 f x6.1 t)).bind fun x7 =>
  (at? f.spots (w64 (x7 - 1))).bind fun x8 =>
  some (w64 (x8.index + (w64 (x6.1 * f.Form.Count)))))
def ZBy (g:Granule) (i:Int):Int :=
 (Z1t g.Index i)
def size_form_odd (f:size_form) (i:Int):Option (Int) :=
 (Z2 f.Form.Odd i (fun z0 z1 => some (ZBy z0 z1))).bind fun x1 =>
 (bif (!x1.2) then
  some (-1)
 else
  some x1.1)
def size_form_has (f:size_form) (i:Int):Option (Bool) :=
 (Z0A i f.Form.Count).bind fun x1 =>
 (at? f.Form.Core x1.2.1).bind fun x2 =>
 some (decide ((x2.length:Int) > 0))
def Z0U.s0 (f:size_form) (y1:Int) (s1:Int):Option ((Int) ⊕ (Int)) :=
 (size_form_odd f s1).bind fun x2 =>
 (
  (bif (decide (x2 ≥ 0)) then
   some true
  else
   (size_form_has f s1).bind fun x3 =>
   some (!x3))).bind fun (y4:Bool) =>
 (bif y4 then
  some (.inl (w64 (s1 + y1)))
 else
  some (.inr s1))
def Z0U.s1 (s2:Int × Int × (List Int) × Int × Bool):Option ((Int × Int × (List Int) × Int × Bool) ⊕ ((List Int) × Int × Bool)) :=
 (bif (decide (s2.2.1 < s2.1)) then
  (
   (
    (at? s2.2.2.1 s2.2.1).bind fun x4 =>
    (bif ((!s2.2.2.2.2) || (decide (x4 > s2.2.2.2.1))) then
     some (x4,true)
    else
     some (s2.2.2.2.1,s2.2.2.2.2))).bind fun (y8:Int × Bool) =>
   some (y8.1,y8.2)).bind fun (y7:Int × Bool) =>
  some (.inl (s2.1,(w64 (s2.2.1 + 1)),s2.2.2.1,y7.1,y7.2))
 else
  some (.inr (s2.2.2.1,s2.2.2.2.1,s2.2.2.2.2)))
def Z0U.s3 (s4:Int × Int × (List Int) × Int × Bool):Option ((Int × Int × (List Int) × Int × Bool) ⊕ ((List Int) × Int × Bool)) :=
 (bif (decide (s4.2.1 < s4.1)) then
  (
   (
    (at? s4.2.2.1 s4.2.1).bind fun x7 =>
    (bif ((!s4.2.2.2.2) || (decide (x7 > s4.2.2.2.1))) then
     some (x7,true)
    else
     some (s4.2.2.2.1,s4.2.2.2.2))).bind fun (y15:Int × Bool) =>
   some (y15.1,y15.2)).bind fun (y14:Int × Bool) =>
  some (.inl (s4.1,(w64 (s4.2.1 + 1)),s4.2.2.1,y14.1,y14.2))
 else
  some (.inr (s4.2.2.1,s4.2.2.2.1,s4.2.2.2.2)))
def Z0U.s2 (f:size_form) (t:Int) (up:Bool) (y1:Int) (s3:Int × Int × Bool):Option ((Int × Int × Bool) ⊕ (Int × Bool)) :=
 (bif (decide (s3.1 < (f.Form.Odd.length:Int))) then
  (
   (
    (at? f.Form.Odd s3.1).bind fun x5 =>
    (Z2f x5.Ticks).bind fun x6 =>
    (bif (x6.2 && ((up && (decide (x6.1.To ≥ t))) || ((!up) && (decide (x6.1.From≤t))))) then
     (
      (loopO (Z0U.s3) (([(w64 ((w64 (0 - y1)) * x5.Index))].length:Int),0,[(w64 ((w64 (0 - y1)) * x5.Index))],s3.2.1,s3.2.2)).bind fun (y13:(List Int) × Int × Bool) =>
      some (y13.1,y13.2.1,y13.2.2)).bind fun (y12:(List Int) × Int × Bool) =>
     some (y12.2.1,y12.2.2)
    else
     some (s3.2.1,s3.2.2))).bind fun (y11:Int × Bool) =>
   some (y11.1,y11.2)).bind fun (y10:Int × Bool) =>
  some (.inl ((w64 (s3.1 + 1)),y10.1,y10.2))
 else
  some (.inr (s3.2.1,s3.2.2)))
def Z0U (f:size_form) (t:Int) (up:Bool):Option (Int × Bool) :=
 (
  (bif up then
   some 1
  else
   some (-1))).bind fun (y1:Int) =>
 (
  (bif (decide (f.Form.Count > 0)) then
   (Z8A f t up).bind fun x1 =>
   (loopO (Z0U.s0 f y1) x1).bind fun (y3:Int) =>
   (
    (loopO (Z0U.s1) (([(w64 ((w64 (0 - y1)) * y3))].length:Int),0,[(w64 ((w64 (0 - y1)) * y3))],0,false)).bind fun (y6:(List Int) × Int × Bool) =>
    some (y6.1,y6.2.1,y6.2.2)).bind fun (y5:(List Int) × Int × Bool) =>
   some (y5.2.1,y5.2.2)
  else
   some (0,false))).bind fun (y2:Int × Bool) =>
 (loopO (Z0U.s2 f t up y1) (0,y2.1,y2.2)).bind fun (y9:Int × Bool) =>
 some ((w64 ((w64 (0 - y1)) * y9.1)),y9.2)
def Z2k.s1 (s2:Int × Int × (List Int) × Int × Bool):Option ((Int × Int × (List Int) × Int × Bool) ⊕ ((List Int) × Int × Bool)) :=
 (bif (decide (s2.2.1 < s2.1)) then
  (
   (
    (at? s2.2.2.1 s2.2.1).bind fun x4 =>
    (bif ((!s2.2.2.2.2) || (decide (x4 > s2.2.2.2.1))) then
     some (x4,true)
    else
     some (s2.2.2.2.1,s2.2.2.2.2))).bind fun (y9:Int × Bool) =>
   some (y9.1,y9.2)).bind fun (y8:Int × Bool) =>
  some (.inl (s2.1,(w64 (s2.2.1 + 1)),s2.2.2.1,y8.1,y8.2))
 else
  some (.inr (s2.2.2.1,s2.2.2.2.1,s2.2.2.2.2)))
def Z2k.s0 (d:Int) (up:Bool) (x1:size_form) (y1:Int) (s1:Int × Int × Bool):Option ((Int × Int × Bool) ⊕ (Int × Bool)) :=
 (bif (decide (s1.1 < (x1.spots.length:Int))) then
  (
   (
    (at? x1.spots s1.1).bind fun x2 =>
    (
     (bif up then
      some x2.place.first
     else
      some x2.place.last)).bind fun (y5:Int) =>
    (Z8A x1 (w64 (y5 + d)) up).bind fun x3 =>
    (
     (loopO (Z2k.s1) (([(w64 (y1 * (w64 (x3 - x2.index))))].length:Int),0,[(w64 (y1 * (w64 (x3 - x2.index))))],s1.2.1,s1.2.2)).bind fun (y7:(List Int) × Int × Bool) =>
     some (y7.1,y7.2.1,y7.2.2)).bind fun (y6:(List Int) × Int × Bool) =>
    some (y6.2.1,y6.2.2)).bind fun (y4:Int × Bool) =>
   some (y4.1,y4.2)).bind fun (y3:Int × Bool) =>
  some (.inl ((w64 (s1.1 + 1)),y3.1,y3.2))
 else
  some (.inr (s1.2.1,s1.2.2)))
def Z2k.s3 (s4:Int × Int × (List Int) × Int × Bool):Option ((Int × Int × (List Int) × Int × Bool) ⊕ ((List Int) × Int × Bool)) :=
 (bif (decide (s4.2.1 < s4.1)) then
  (
   (
    (at? s4.2.2.1 s4.2.1).bind fun x8 =>
    (bif ((!s4.2.2.2.2) || (decide (x8 > s4.2.2.2.1))) then
     some (x8,true)
    else
     some (s4.2.2.2.1,s4.2.2.2.2))).bind fun (y18:Int × Bool) =>
   some (y18.1,y18.2)).bind fun (y17:Int × Bool) =>
  some (.inl (s4.1,(w64 (s4.2.1 + 1)),s4.2.2.1,y17.1,y17.2))
 else
  some (.inr (s4.2.2.1,s4.2.2.2.1,s4.2.2.2.2)))
def Z2k.s4 (s5:Int × Int × (List Int) × Int × Bool):Option ((Int × Int × (List Int) × Int × Bool) ⊕ ((List Int) × Int × Bool)) :=
 (bif (decide (s5.2.1 < s5.1)) then
  (
   (
    (at? s5.2.2.1 s5.2.1).bind fun x10 =>
    (bif ((!s5.2.2.2.2) || (decide (x10 > s5.2.2.2.1))) then
     some (x10,true)
    else
     some (s5.2.2.2.1,s5.2.2.2.2))).bind fun (y22:Int × Bool) =>
   some (y22.1,y22.2)).bind fun (y21:Int × Bool) =>
  some (.inl (s5.1,(w64 (s5.2.1 + 1)),s5.2.2.1,y21.1,y21.2))
 else
  some (.inr (s5.2.2.1,s5.2.2.2.1,s5.2.2.2.2)))
def Z2k.s2 (d:Int) (up:Bool) (x1:size_form) (y1:Int) (s3:Int × Int × Bool):Option ((Int × Int × Bool) ⊕ (Int × Bool)) :=
 (bif (decide (s3.1 < (x1.Form.Odd.length:Int))) then
  (
   (
    (at? x1.Form.Odd s3.1).bind fun x5 =>
    (Z2f x5.Ticks).bind fun x6 =>
    (bif (!x6.2) then
     some (.ret ())
    else
     (
      (bif up then
       some (x6.1.To,x6.1.From)
      else
       some (x6.1.From,x6.1.To))).bind fun (y13:Int × Int) =>
     (
      (Z0U x1 (w64 (y13.2 + d)) up).bind fun x7 =>
      (bif x7.2 then
       (
        (loopO (Z2k.s3) (([(w64 (y1 * (w64 (x7.1 - x5.Index))))].length:Int),0,[(w64 (y1 * (w64 (x7.1 - x5.Index))))],s3.2.1,s3.2.2)).bind fun (y16:(List Int) × Int × Bool) =>
        some (y16.1,y16.2.1,y16.2.2)).bind fun (y15:(List Int) × Int × Bool) =>
       some (y15.2.1,y15.2.2)
      else
       some (s3.2.1,s3.2.2))).bind fun (y14:Int × Bool) =>
     (Z0U x1 (w64 (y13.1 - d)) (!up)).bind fun x9 =>
     (bif x9.2 then
      (
       (loopO (Z2k.s4) (([(w64 (y1 * (w64 (x5.Index - x9.1))))].length:Int),0,[(w64 (y1 * (w64 (x5.Index - x9.1))))],y14.1,y14.2)).bind fun (y20:(List Int) × Int × Bool) =>
       some (y20.1,y20.2.1,y20.2.2)).bind fun (y19:(List Int) × Int × Bool) =>
      some (.go (y19.2.1,y19.2.2))
     else
      some (.go (y14.1,y14.2))))).bind fun (y12:Jx (Int × Bool) (Unit)) =>
   y12.elim (fun a4 =>
     some (s3.2.1,s3.2.2)) fun a3 =>
   some (a3.1,a3.2)).bind fun (y11:Int × Bool) =>
  some (.inl ((w64 (s3.1 + 1)),y11.1,y11.2))
 else
  some (.inr (s3.2.1,s3.2.2)))
def Z2k (g:Form) (d:Int) (up:Bool):Option (Int × Bool × Int) :=
 (bif (!(size_inRange d)) then
  some (0,false,2)
 else
  (ZB0 g).bind fun x1 =>
  (
   (bif up then
    some (-1)
   else
    some 1)).bind fun (y1:Int) =>
  (loopO (Z2k.s0 d up x1 y1) (0,0,false)).bind fun (y2:Int × Bool) =>
  (loopO (Z2k.s2 d up x1 y1) (0,y2.1,y2.2)).bind fun (y10:Int × Bool) =>
  some ((w64 (y1 * y10.1)),y10.2,0))
def size_Down (f:Form) (d:Int):Option (Int × Bool × Int) :=
 (Z2k f d false).bind fun x1 =>
 some (x1.1,x1.2.1,x1.2.2)
def size_Up (f:Form) (d:Int):Option (Int × Bool × Int) :=
 (Z2k f d true).bind fun x1 =>
 some (x1.1,x1.2.1,x1.2.2)
def Z6M (f:Form) (low:Bound) (high:Bound):Option (Range × Bool × Int) :=
 (bif ((((!(Z0v low)) || (!(Z0v high))) || (low.Inf == 1)) || (high.Inf == (-1))) then
  some ((Range.mk 0 0 false false),false,2)
 else
  (
   (bif ((high.Inf == 0) && (decide (high.N≤1099511627776))) then
    (size_Down f (iMax high.N (-1099511627776))).bind fun x1 =>
    (bif (!x1.2.1) then
     some (.ret ((Range.mk 0 0 false false),false,0))
    else
     some (.go (x1.1,true)))
   else
    some (.go (0,false)))).bind fun (y1:Jx (Int × Bool) (Range × Bool × Int)) =>
  y1.elim (fun r' =>
    some r') fun a2 =>
  (
   (bif ((low.Inf == 0) && (decide (low.N ≥ (-1099511627776)))) then
    (size_Up f (iMin low.N 1099511627776)).bind fun x2 =>
    (bif (!x2.2.1) then
     some (.ret ((Range.mk 0 0 false false),false,0))
    else
     some (.go (x2.1,true)))
   else
    some (.go (0,false)))).bind fun (y2:Jx (Int × Bool) (Range × Bool × Int)) =>
  y2.elim (fun r' =>
    some r') fun a4 =>
  some ((Range.mk a4.1 a2.1 a4.2 a2.2),true,0))
def epactlaw25_CarryArgs (f:Form) (low:Bound) (high:Bound):Option (Bool) :=
 (Z6t f).bind fun x1 =>
 (bif (!x1) then
  some Z2L
 else
  (Z6M f low high).bind fun x2 =>
  (bif ((((!(Z0v low)) || (!(Z0v high))) || (low.Inf == 1)) || (high.Inf == (-1))) then
   some ((((x2.2.2 == 2) && (!x2.2.1)) && ((x2.1.Low == 0) && ((x2.1.High == 0) && ((x2.1.HasLow == false) && ((x2.1.HasHigh == false) && true))))) && Z2L)
  else
   (bif (((x2.2.2 != 0) || ((low.Inf == (-1)) && x2.1.HasLow)) || ((high.Inf == 1) && x2.1.HasHigh)) then
    some false
   else
    (Z6M f (Bound.mk (-1) 0) (Bound.mk 1 0)).bind fun x3 =>
    some ((((x3.2.2 == 0) && x3.2.1) && ((x3.1.Low == 0) && ((x3.1.High == 0) && ((x3.1.HasLow == false) && ((x3.1.HasHigh == false) && true))))) && Z2L))))
def Z8e (a:carry_asked) (gap:Int):Option (Bool) :=
 (size_Down a.f (w64 (gap - 1099511627776))).bind fun x1 =>
 some ((x1.2.1 && (x1.2.2 == 0)) && (decide (x1.1 ≥ a.m)))
def ZBL (f:Form) (m:Int):Option (Bound) :=
 (Z52 2199023255553 (fun z0 => Z8e (carry_asked.mk f (iMin (iMax m (-4611686018427387904)) 4611686018427387904)) z0)).bind fun x1 =>
 (bif ((w64 ((iMin x1 2199023255552) - 1099511627776)) == (-1099511627776)) then
  some (Bound.mk (-1) 0)
 else
  some (Bound.mk 0 (w64 ((iMin x1 2199023255552) - 1099511627776))))
def Z82 (a:Int) (b:Int):Int × Int :=
 (bif (((decide ((w64 (a - b)) < a)) != (decide (b > 0))) && (b != 0)) then
  (0,10)
 else
  ((w64 (a - b)),0))
def Z7H (a:Bound):Bound × Int :=
 (bif (!(Z0v a)) then
  ((Bound.mk 0 0),2)
 else
  (bif (((Z82 0 a.N).2) != 0) then
   ((Bound.mk 0 0),(Z82 0 a.N).2)
  else
   ((Bound.mk (IntKind.i8.wrap (0 - a.Inf)) ((Z82 0 a.N).1)),0)))
def ZCU (f:Form) (n:Int):Option (Bound) :=
 (ZBL f (w64 (0 - (iMax n (-4611686018427387904))))).bind fun x1 =>
 some ((Z7H x1).1)
def ZB5 (a:Bound) (b:Bound):Bool :=
 (bif ((!(Z0v a)) || (!(Z0v b))) then
  false
 else
  (bif (a.Inf != b.Inf) then
   (decide (a.Inf < b.Inf))
  else
   (decide (a.N < b.N))))
def Z4P.s0 (x2:Bound) (x3:Bound) (x4:Bound) (x5:Bound) (s1:Int):Option ((Int) ⊕ (Jx (Unit) (Bool))) :=
 (bif (decide (s1 < ([x2,x3,x4,x5].length:Int))) then
  (at? [x2,x3,x4,x5] s1).bind fun x6 =>
  (bif (((!(Z0v x6)) || (decide (x6.N > 1099511627776))) || (decide (x6.N < (-1099511627776)))) then
   some (.inr (.ret false))
  else
   some (.inl (w64 (s1 + 1))))
 else
  some (.inr (.go ())))
def Z4P (f:Form) (m:Int) (n:Int) (low:Int) (high:Int) (wide:Int):Option (Bool) :=
 (Z6t f).bind fun x1 =>
 (bif (!x1) then
  some Z2L
 else
  (ZBL f (iMin m n)).bind fun x2 =>
  (ZBL f (iMax m n)).bind fun x3 =>
  (ZCU f (iMin m n)).bind fun x4 =>
  (ZCU f (iMax m n)).bind fun x5 =>
  (loopO (Z4P.s0 x2 x3 x4 x5) 0).bind fun (y1:Jx (Unit) (Bool)) =>
  y1.elim (fun r' =>
    some r') fun a2 =>
  (bif ((((ZB5 x3 x2) || (ZB5 x5 x4)) || (x2.Inf == 1)) || (x4.Inf == (-1))) then
   some false
  else
   (Z6M f (Bound.mk 0 (low.tmod 4398046511104)) (Bound.mk 0 (high.tmod 4398046511104))).bind fun x7 =>
   (Z6M f (Bound.mk 0 (w64 ((low.tmod 4398046511104) - (iAnd .i64 wide 65535)))) (Bound.mk 0 (w64 ((high.tmod 4398046511104) + (iAnd .i64 wide 65535))))).bind fun x8 =>
   (bif (((((x7.2.2 != 0) || (x8.2.2 != 0)) || ((!x7.1.HasLow) && (x7.1.Low != 0))) || ((!x7.1.HasHigh) && (x7.1.High != 0))) || ((!x7.2.1) && (!((x7.1.Low == 0) && ((x7.1.High == 0) && ((x7.1.HasLow == false) && ((x7.1.HasHigh == false) && true))))))) then
    some false
   else
    (bif (((x7.2.1 && (!x8.2.1)) && (decide ((high.tmod 4398046511104) ≥ (-1099511627776)))) && (decide ((low.tmod 4398046511104)≤1099511627776))) then
     some false
    else
     (bif ((x7.2.1 && x8.2.1) && ((x8.1.HasLow && ((!x7.1.HasLow) || (decide (x8.1.Low > x7.1.Low)))) || (x8.1.HasHigh && ((!x7.1.HasHigh) || (decide (x8.1.High < x7.1.High)))))) then
      some false
     else
      some Z2L)))))
def Z4F.s0 (f:Form) (i:Int) (s1:Int):Option ((Int) ⊕ (Jx (Unit) ((List Span) × Int))) :=
 (bif (decide (s1 < (f.Odd.length:Int))) then
  (at? f.Odd s1).bind fun x1 =>
  (bif (x1.Index == i) then
   (at? f.Odd s1).bind fun x2 =>
   some (.inr (.ret (x2.Ticks,0)))
  else
   some (.inl (w64 (s1 + 1))))
 else
  some (.inr (.go ())))
def Z4F (f:Form) (i:Int):Option ((List Span) × Int) :=
 (loopO (Z4F.s0 f i) 0).bind fun (y1:Jx (Unit) ((List Span) × Int)) =>
 y1.elim (fun r' =>
   some r') fun a2 =>
 (bif (f.Count == 0) then
  some ([],0)
 else
  (Z5A i f.Count).bind fun x3 =>
  (at? f.Core x3.2).bind fun x4 =>
  some (x4,x3.1))
def Z3i.s0 (l:(List Span)) (by':Int) (s2:Int × (List Span)):Option ((Int × (List Span)) ⊕ (Jx ((List Span)) ((List Span) × Int))) :=
 (bif (decide (s2.1 < (l.length:Int))) then
  (at? l s2.1).bind fun x1 =>
  (
   (bif (decide (by' > (w64 (1099511627776 - x1.To)))) then
    some true
   else
    (at? l s2.1).bind fun x2 =>
    some (decide (by' < (w64 ((-1099511627776) - x2.From)))))).bind fun (y2:Bool) =>
  (bif y2 then
   some (.inr (.ret ([],20)))
  else
   (at? l s2.1).bind fun x3 =>
   (at? l s2.1).bind fun x4 =>
   (app? 16 s2.2 [(Span.mk (w64 (x3.From + by')) (w64 (x4.To + by')))]).bind fun x5 =>
   some (.inl ((w64 (s2.1 + 1)),x5)))
 else
  some (.inr (.go s2.2)))
def Z3i (l:(List Span)) (by':Int):Option ((List Span) × Int) :=
 (loopO (Z3i.s0 l by') (0,[])).bind fun (y1:Jx ((List Span)) ((List Span) × Int)) =>
 y1.elim (fun r' =>
   some r') fun a2 =>
 some (a2,0)
def Z5j (f:Form) (i:Int):Option ((List Span) × Int) :=
 (bif ((decide (i < (-1099511627776))) || (decide (i > 1099511627776))) then
  some ([],20)
 else
  (Z4F f i).bind fun x1 =>
  (bif (((x1.1.length:Int) == 0) || (x1.2 == 0)) then
   (app? 16 [] x1.1).bind fun x2 =>
   some (x2,0)
  else
   (nz? f.Period).bind fun u1 =>
   (
    (bif (decide (x1.2 > (w64 ((w64 ((2199023255552:Int).tdiv f.Period)) + 1)))) then
     some true
    else
     (nz? f.Period).bind fun u2 =>
     some (decide (x1.2 < (w64 ((w64 ((-2199023255552).tdiv f.Period)) - 1)))))).bind fun (y1:Bool) =>
   (bif y1 then
    some ([],20)
   else
    (Z3i x1.1 (w64 (x1.2 * f.Period))).bind fun x3 =>
    some (x3.1,x3.2))))
def Z19 (f:Form):Option (Bool) :=
 (Z0n f).bind fun x1 =>
 (
  (bif x1 then
   (Z00 f).bind fun x2 =>
   some (x2 == 0)
  else
   some false)).bind fun (y1:Bool) =>
 some y1
def Zy (a:Int):Option (epactref01_long) :=
 (
  (
   (
    (bif (decide ((a.tmod 65536) < 0)) then
     (some (w64 (0 - (a.tmod 65536)))).bind fun x1 =>
     some x1
    else
     some (a.tmod 65536))).bind fun (y3:Int) =>
   some ((w64 (a.tdiv 65536)),(IntKind.u32.wrap y3))).bind fun (y2:Int × Int) =>
  some (y2.1,y2.2)).bind fun (y1:Int × Int) =>
 (
  (
   (
    (bif (decide ((y1.1.tmod 65536) < 0)) then
     (some (w64 (0 - (y1.1.tmod 65536)))).bind fun x2 =>
     some x2
    else
     some (y1.1.tmod 65536))).bind fun (y6:Int) =>
   (some (w64 (y1.1.tdiv 65536))).bind fun x3 =>
   some (x3,(IntKind.u32.wrap y6))).bind fun (y5:Int × Int) =>
  some (y5.1,y5.2)).bind fun (y4:Int × Int) =>
 (
  (
   (
    (bif (decide ((y4.1.tmod 65536) < 0)) then
     (some (w64 (0 - (y4.1.tmod 65536)))).bind fun x4 =>
     some x4
    else
     some (y4.1.tmod 65536))).bind fun (y9:Int) =>
   (some (w64 (y4.1.tdiv 65536))).bind fun x5 =>
   some (x5,(IntKind.u32.wrap y9))).bind fun (y8:Int × Int) =>
  some (y8.1,y8.2)).bind fun (y7:Int × Int) =>
 (
  (
   (
    (bif (decide ((y7.1.tmod 65536) < 0)) then
     (some (w64 (0 - (y7.1.tmod 65536)))).bind fun x6 =>
     some x6
    else
     some (y7.1.tmod 65536))).bind fun (y12:Int) =>
   (some (w64 (y7.1.tdiv 65536))).bind fun x7 =>
   some (x7,(IntKind.u32.wrap y12))).bind fun (y11:Int × Int) =>
  some (y11.1,y11.2)).bind fun (y10:Int × Int) =>
 some (epactref01_long.mk (decide (a < 0)) (Arr9_u32.mk y1.2 y4.2 y7.2 y10.2 0 0 0 0 0))
def Z2m (a:Arr9_u32) (b:Arr9_u32):Option (Arr9_u32) :=
 (some (IntKind.u32.wrap ((IntKind.u32.wrap (a.d0 + b.d0)) + 0))).bind fun x1 =>
 (some (IntKind.u32.wrap (x1.tdiv 65536))).bind fun x2 =>
 (some (IntKind.u32.wrap ((IntKind.u32.wrap (a.d1 + b.d1)) + x2))).bind fun x3 =>
 (some (IntKind.u32.wrap (x3.tdiv 65536))).bind fun x4 =>
 (some (IntKind.u32.wrap ((IntKind.u32.wrap (a.d2 + b.d2)) + x4))).bind fun x5 =>
 (some (IntKind.u32.wrap (x5.tdiv 65536))).bind fun x6 =>
 (some (IntKind.u32.wrap ((IntKind.u32.wrap (a.d3 + b.d3)) + x6))).bind fun x7 =>
 (some (IntKind.u32.wrap (x7.tdiv 65536))).bind fun x8 =>
 (some (IntKind.u32.wrap ((IntKind.u32.wrap (a.d4 + b.d4)) + x8))).bind fun x9 =>
 (some (IntKind.u32.wrap (x9.tdiv 65536))).bind fun x10 =>
 (some (IntKind.u32.wrap ((IntKind.u32.wrap (a.d5 + b.d5)) + x10))).bind fun x11 =>
 (some (IntKind.u32.wrap (x11.tdiv 65536))).bind fun x12 =>
 (some (IntKind.u32.wrap ((IntKind.u32.wrap (a.d6 + b.d6)) + x12))).bind fun x13 =>
 (some (IntKind.u32.wrap (x13.tdiv 65536))).bind fun x14 =>
 (some (IntKind.u32.wrap ((IntKind.u32.wrap (a.d7 + b.d7)) + x14))).bind fun x15 =>
 (some (IntKind.u32.wrap (x15.tdiv 65536))).bind fun x16 =>
 (some (IntKind.u32.wrap ((IntKind.u32.wrap (a.d8 + b.d8)) + x16))).bind fun x17 =>
 (some (IntKind.u32.wrap (x17.tdiv 65536))).bind fun x18 =>
 some (Arr9_u32.mk (x1.tmod 65536) (x3.tmod 65536) (x5.tmod 65536) (x7.tmod 65536) (x9.tmod 65536) (x11.tmod 65536) (x13.tmod 65536) (x15.tmod 65536) (x17.tmod 65536))
def Z2J (a:Arr9_u32) (b:Arr9_u32):Bool :=
 (bif (a.d8 != b.d8) then
  (decide (a.d8 < b.d8))
 else
  (bif (a.d7 != b.d7) then
   (decide (a.d7 < b.d7))
  else
   (bif (a.d6 != b.d6) then
    (decide (a.d6 < b.d6))
   else
    (bif (a.d5 != b.d5) then
     (decide (a.d5 < b.d5))
    else
     (bif (a.d4 != b.d4) then
      (decide (a.d4 < b.d4))
     else
      (bif (a.d3 != b.d3) then
       (decide (a.d3 < b.d3))
      else
       (bif (a.d2 != b.d2) then
        (decide (a.d2 < b.d2))
       else
        (bif (a.d1 != b.d1) then
         (decide (a.d1 < b.d1))
        else
         (bif (a.d0 != b.d0) then
          (decide (a.d0 < b.d0))
         else
          false)))))))))
def Z7f (a:Arr9_u32) (b:Arr9_u32):Option (Arr9_u32) :=
 (some (IntKind.u32.wrap ((IntKind.u32.wrap ((IntKind.u32.wrap (a.d0 + 65536)) - b.d0)) - 0))).bind fun x1 =>
 (some (IntKind.u32.wrap (1 - (IntKind.u32.wrap (x1.tdiv 65536))))).bind fun x2 =>
 (some (IntKind.u32.wrap ((IntKind.u32.wrap ((IntKind.u32.wrap (a.d1 + 65536)) - b.d1)) - x2))).bind fun x3 =>
 (some (IntKind.u32.wrap (1 - (IntKind.u32.wrap (x3.tdiv 65536))))).bind fun x4 =>
 (some (IntKind.u32.wrap ((IntKind.u32.wrap ((IntKind.u32.wrap (a.d2 + 65536)) - b.d2)) - x4))).bind fun x5 =>
 (some (IntKind.u32.wrap (1 - (IntKind.u32.wrap (x5.tdiv 65536))))).bind fun x6 =>
 (some (IntKind.u32.wrap ((IntKind.u32.wrap ((IntKind.u32.wrap (a.d3 + 65536)) - b.d3)) - x6))).bind fun x7 =>
 (some (IntKind.u32.wrap (1 - (IntKind.u32.wrap (x7.tdiv 65536))))).bind fun x8 =>
 (some (IntKind.u32.wrap ((IntKind.u32.wrap ((IntKind.u32.wrap (a.d4 + 65536)) - b.d4)) - x8))).bind fun x9 =>
 (some (IntKind.u32.wrap (1 - (IntKind.u32.wrap (x9.tdiv 65536))))).bind fun x10 =>
 (some (IntKind.u32.wrap ((IntKind.u32.wrap ((IntKind.u32.wrap (a.d5 + 65536)) - b.d5)) - x10))).bind fun x11 =>
 (some (IntKind.u32.wrap (1 - (IntKind.u32.wrap (x11.tdiv 65536))))).bind fun x12 =>
 (some (IntKind.u32.wrap ((IntKind.u32.wrap ((IntKind.u32.wrap (a.d6 + 65536)) - b.d6)) - x12))).bind fun x13 =>
 (some (IntKind.u32.wrap (1 - (IntKind.u32.wrap (x13.tdiv 65536))))).bind fun x14 =>
 (some (IntKind.u32.wrap ((IntKind.u32.wrap ((IntKind.u32.wrap (a.d7 + 65536)) - b.d7)) - x14))).bind fun x15 =>
 (some (IntKind.u32.wrap (1 - (IntKind.u32.wrap (x15.tdiv 65536))))).bind fun x16 =>
 (some (IntKind.u32.wrap ((IntKind.u32.wrap ((IntKind.u32.wrap (a.d8 + 65536)) - b.d8)) - x16))).bind fun x17 =>
 (some (IntKind.u32.wrap (1 - (IntKind.u32.wrap (x17.tdiv 65536))))).bind fun x18 =>
 some (Arr9_u32.mk (x1.tmod 65536) (x3.tmod 65536) (x5.tmod 65536) (x7.tmod 65536) (x9.tmod 65536) (x11.tmod 65536) (x13.tmod 65536) (x15.tmod 65536) (x17.tmod 65536))
def Z4I (a:epactref01_long) (b:epactref01_long):Option (epactref01_long) :=
 (bif (a.minus == b.minus) then
  (Z2m a.digits b.digits).bind fun x1 =>
  some (epactref01_long.mk a.minus x1)
 else
  (bif (Z2J a.digits b.digits) then
   (Z7f b.digits a.digits).bind fun x2 =>
   some (epactref01_long.mk b.minus x2)
  else
   (Z7f a.digits b.digits).bind fun x3 =>
   some (epactref01_long.mk a.minus x3)))
def Z2z (a:epactref01_long):Option (Int × Int) :=
 (some (-9223372036854775808)).bind fun x1 =>
 (
  (bif (decide ((w64 a.digits.d8) > 0)) then
   some (.ret (0,10))
  else
   some (.go ()))).bind fun (y1:Jx (Unit) (Int × Int)) =>
 y1.elim (fun r' =>
   some r') fun a2 =>
 (
  (bif (decide ((w64 a.digits.d7) > 0)) then
   some (.ret (0,10))
  else
   some (.go ()))).bind fun (y2:Jx (Unit) (Int × Int)) =>
 y2.elim (fun r' =>
   some r') fun a4 =>
 (
  (bif (decide ((w64 a.digits.d6) > 0)) then
   some (.ret (0,10))
  else
   some (.go ()))).bind fun (y3:Jx (Unit) (Int × Int)) =>
 y3.elim (fun r' =>
   some r') fun a6 =>
 (
  (bif (decide ((w64 a.digits.d5) > 0)) then
   some (.ret (0,10))
  else
   some (.go ()))).bind fun (y4:Jx (Unit) (Int × Int)) =>
 y4.elim (fun r' =>
   some r') fun a8 =>
 (
  (bif (decide ((w64 a.digits.d4) > 0)) then
   some (.ret (0,10))
  else
   some (.go ()))).bind fun (y5:Jx (Unit) (Int × Int)) =>
 y5.elim (fun r' =>
   some r') fun a10 =>
 (
  (bif (decide (0 < (w64 ((w64 (x1 + (w64 a.digits.d3))).tdiv 65536)))) then
   some (.ret (0,10))
  else
   (some (w64 (0 - (w64 a.digits.d3)))).bind fun x2 =>
   some (.go x2))).bind fun (y6:Jx (Int) (Int × Int)) =>
 y6.elim (fun r' =>
   some r') fun a12 =>
 (
  (bif (decide (a12 < (w64 ((w64 (x1 + (w64 a.digits.d2))).tdiv 65536)))) then
   some (.ret (0,10))
  else
   (some (w64 ((w64 (a12 * 65536)) - (w64 a.digits.d2)))).bind fun x3 =>
   some (.go x3))).bind fun (y7:Jx (Int) (Int × Int)) =>
 y7.elim (fun r' =>
   some r') fun a14 =>
 (
  (bif (decide (a14 < (w64 ((w64 (x1 + (w64 a.digits.d1))).tdiv 65536)))) then
   some (.ret (0,10))
  else
   (some (w64 ((w64 (a14 * 65536)) - (w64 a.digits.d1)))).bind fun x4 =>
   some (.go x4))).bind fun (y8:Jx (Int) (Int × Int)) =>
 y8.elim (fun r' =>
   some r') fun a16 =>
 (
  (bif (decide (a16 < (w64 ((w64 (x1 + (w64 a.digits.d0))).tdiv 65536)))) then
   some (.ret (0,10))
  else
   (some (w64 ((w64 (a16 * 65536)) - (w64 a.digits.d0)))).bind fun x5 =>
   some (.go x5))).bind fun (y9:Jx (Int) (Int × Int)) =>
 y9.elim (fun r' =>
   some r') fun a18 =>
 (bif a.minus then
  some (a18,0)
 else
  (bif (a18 == x1) then
   some (0,10)
  else
   some ((w64 (0 - a18)),0)))
def Z7v (a:Int) (b:Int):Option (Int × Int) :=
 (Zy a).bind fun x1 =>
 (Zy b).bind fun x2 =>
 (Z4I x1 x2).bind fun x3 =>
 (Z2z x3).bind fun x4 =>
 some (x4.1,x4.2)
def Z5k (a:Int) (b:Int):Option (Int × Int) :=
 (Zy b).bind fun x1 =>
 (Zy a).bind fun x2 =>
 (Z4I x2 (epactref01_long.mk (!x1.minus) x1.digits)).bind fun x3 =>
 (Z2z x3).bind fun x4 =>
 some (x4.1,x4.2)
def Z2X (a:epactref01_long) (b:epactref01_long):Option (epactref01_long) :=
 (some (IntKind.u32.wrap ((IntKind.u32.wrap (a.digits.d0 * b.digits.d0)) + 0))).bind fun x1 =>
 (some (IntKind.u32.wrap (x1.tdiv 65536))).bind fun x2 =>
 (some (IntKind.u32.wrap ((IntKind.u32.wrap (a.digits.d0 * b.digits.d1)) + x2))).bind fun x3 =>
 (some (IntKind.u32.wrap (x3.tdiv 65536))).bind fun x4 =>
 (some (IntKind.u32.wrap ((IntKind.u32.wrap (a.digits.d0 * b.digits.d2)) + x4))).bind fun x5 =>
 (some (IntKind.u32.wrap (x5.tdiv 65536))).bind fun x6 =>
 (some (IntKind.u32.wrap ((IntKind.u32.wrap (a.digits.d0 * b.digits.d3)) + x6))).bind fun x7 =>
 (some (IntKind.u32.wrap (x7.tdiv 65536))).bind fun x8 =>
 (some (IntKind.u32.wrap ((IntKind.u32.wrap (a.digits.d0 * b.digits.d4)) + x8))).bind fun x9 =>
 (some (IntKind.u32.wrap (x9.tdiv 65536))).bind fun x10 =>
 (Z2m (Arr9_u32.mk 0 0 0 0 0 0 0 0 0) (Arr9_u32.mk (x1.tmod 65536) (x3.tmod 65536) (x5.tmod 65536) (x7.tmod 65536) (x9.tmod 65536) 0 0 0 0)).bind fun x11 =>
 (some (IntKind.u32.wrap ((IntKind.u32.wrap (a.digits.d1 * b.digits.d0)) + 0))).bind fun x12 =>
 (some (IntKind.u32.wrap (x12.tdiv 65536))).bind fun x13 =>
 (some (IntKind.u32.wrap ((IntKind.u32.wrap (a.digits.d1 * b.digits.d1)) + x13))).bind fun x14 =>
 (some (IntKind.u32.wrap (x14.tdiv 65536))).bind fun x15 =>
 (some (IntKind.u32.wrap ((IntKind.u32.wrap (a.digits.d1 * b.digits.d2)) + x15))).bind fun x16 =>
 (some (IntKind.u32.wrap (x16.tdiv 65536))).bind fun x17 =>
 (some (IntKind.u32.wrap ((IntKind.u32.wrap (a.digits.d1 * b.digits.d3)) + x17))).bind fun x18 =>
 (some (IntKind.u32.wrap (x18.tdiv 65536))).bind fun x19 =>
 (some (IntKind.u32.wrap ((IntKind.u32.wrap (a.digits.d1 * b.digits.d4)) + x19))).bind fun x20 =>
 (some (IntKind.u32.wrap (x20.tdiv 65536))).bind fun x21 =>
 (Z2m x11 (Arr9_u32.mk 0 (x12.tmod 65536) (x14.tmod 65536) (x16.tmod 65536) (x18.tmod 65536) (x20.tmod 65536) 0 0 0)).bind fun x22 =>
 (some (IntKind.u32.wrap ((IntKind.u32.wrap (a.digits.d2 * b.digits.d0)) + 0))).bind fun x23 =>
 (some (IntKind.u32.wrap (x23.tdiv 65536))).bind fun x24 =>
 (some (IntKind.u32.wrap ((IntKind.u32.wrap (a.digits.d2 * b.digits.d1)) + x24))).bind fun x25 =>
 (some (IntKind.u32.wrap (x25.tdiv 65536))).bind fun x26 =>
 (some (IntKind.u32.wrap ((IntKind.u32.wrap (a.digits.d2 * b.digits.d2)) + x26))).bind fun x27 =>
 (some (IntKind.u32.wrap (x27.tdiv 65536))).bind fun x28 =>
 (some (IntKind.u32.wrap ((IntKind.u32.wrap (a.digits.d2 * b.digits.d3)) + x28))).bind fun x29 =>
 (some (IntKind.u32.wrap (x29.tdiv 65536))).bind fun x30 =>
 (some (IntKind.u32.wrap ((IntKind.u32.wrap (a.digits.d2 * b.digits.d4)) + x30))).bind fun x31 =>
 (some (IntKind.u32.wrap (x31.tdiv 65536))).bind fun x32 =>
 (Z2m x22 (Arr9_u32.mk 0 0 (x23.tmod 65536) (x25.tmod 65536) (x27.tmod 65536) (x29.tmod 65536) (x31.tmod 65536) 0 0)).bind fun x33 =>
 (some (IntKind.u32.wrap ((IntKind.u32.wrap (a.digits.d3 * b.digits.d0)) + 0))).bind fun x34 =>
 (some (IntKind.u32.wrap (x34.tdiv 65536))).bind fun x35 =>
 (some (IntKind.u32.wrap ((IntKind.u32.wrap (a.digits.d3 * b.digits.d1)) + x35))).bind fun x36 =>
 (some (IntKind.u32.wrap (x36.tdiv 65536))).bind fun x37 =>
 (some (IntKind.u32.wrap ((IntKind.u32.wrap (a.digits.d3 * b.digits.d2)) + x37))).bind fun x38 =>
 (some (IntKind.u32.wrap (x38.tdiv 65536))).bind fun x39 =>
 (some (IntKind.u32.wrap ((IntKind.u32.wrap (a.digits.d3 * b.digits.d3)) + x39))).bind fun x40 =>
 (some (IntKind.u32.wrap (x40.tdiv 65536))).bind fun x41 =>
 (some (IntKind.u32.wrap ((IntKind.u32.wrap (a.digits.d3 * b.digits.d4)) + x41))).bind fun x42 =>
 (some (IntKind.u32.wrap (x42.tdiv 65536))).bind fun x43 =>
 (Z2m x33 (Arr9_u32.mk 0 0 0 (x34.tmod 65536) (x36.tmod 65536) (x38.tmod 65536) (x40.tmod 65536) (x42.tmod 65536) 0)).bind fun x44 =>
 some (epactref01_long.mk (a.minus != b.minus) x44)
def ZCY (a:Int) (b:Int):Option (Int × Int) :=
 (Zy a).bind fun x1 =>
 (Zy b).bind fun x2 =>
 (Z2X x1 x2).bind fun x3 =>
 (Z2z x3).bind fun x4 =>
 some (x4.1,x4.2)
def ZBK (a:Int) (b:Int):Option (Int × Int × Int) :=
 (bif (b == 0) then
  some (0,0,11)
 else
  (bif (b == (-1)) then
   (Z5k 0 a).bind fun x1 =>
   some (x1.1,0,x1.2)
  else
   (nz? b).bind fun u1 =>
   (some (w64 (a - (w64 ((w64 (a.tdiv b)) * b))))).bind fun x2 =>
   (Zy (w64 (a.tdiv b))).bind fun x3 =>
   (Zy b).bind fun x4 =>
   (Z2X x3 x4).bind fun x5 =>
   (Zy x2).bind fun x6 =>
   (Z4I x5 x6).bind fun x7 =>
   (Zy a).bind fun x8 =>
   (bif ((((!(Z2J x7.digits x8.digits)) && (!(Z2J x8.digits x7.digits))) && ((x7.minus == x8.minus) || (a == 0))) && (((x2 == 0) || (((decide (b > 0)) && (decide (x2 > 0))) && (decide (x2 < b)))) || (((decide (b < 0)) && (decide (x2 < 0))) && (decide (x2 > b))))) then
    some ((w64 (a.tdiv b)),x2,0)
   else
    (some (w64 ((w64 (a.tdiv b)) - 1))).bind fun x9 =>
    (Zy x9).bind fun x10 =>
    (Zy b).bind fun x11 =>
    (Z2X x10 x11).bind fun x12 =>
    (Zy (w64 (x2 + b))).bind fun x13 =>
    (Z4I x12 x13).bind fun x14 =>
    (Zy a).bind fun x15 =>
    (bif ((((!(Z2J x14.digits x15.digits)) && (!(Z2J x15.digits x14.digits))) && ((x14.minus == x15.minus) || (a == 0))) && ((((w64 (x2 + b)) == 0) || (((decide (b > 0)) && (decide ((w64 (x2 + b)) > 0))) && (decide ((w64 (x2 + b)) < b)))) || (((decide (b < 0)) && (decide ((w64 (x2 + b)) < 0))) && (decide ((w64 (x2 + b)) > b))))) then
     some (x9,(w64 (x2 + b)),0)
    else
     (some (w64 ((w64 (x2 + b)) + b))).bind fun x16 =>
     some ((w64 (x9 - 1)),x16,0)))))
def Z5b (a:Int) (b:Int):Option (Int × Int) :=
 (gcd? (ZZ a) (ZZ b)).bind fun x1 =>
 some ((Z1d x1 false).1,(Z1d x1 false).2)
def Z2p (a:Int):Int :=
 (bif (decide (a < 0)) then
  (IntKind.u64.wrap ((IntKind.u64.wrap (w64 (0 - (w64 (a + 1))))) + 1))
 else
  (IntKind.u64.wrap a))
def Z30.s0 (s1:Int × Int × Int):Option ((Int × Int × Int) ⊕ (Int × Int × Int)) :=
 (bif ((decide (s1.1 > 0)) && (decide (s1.2.1 > 0))) then
  (
   (bif (((s1.1.tmod 2) == 0) && ((s1.2.1.tmod 2) == 0)) then
    some ((IntKind.u64.wrap (s1.1.tdiv 2)),(IntKind.u64.wrap (s1.2.1.tdiv 2)),(IntKind.u64.wrap (s1.2.2 * 2)))
   else
    (bif ((s1.1.tmod 2) == 0) then
     some ((IntKind.u64.wrap (s1.1.tdiv 2)),s1.2.1,s1.2.2)
    else
     (bif ((s1.2.1.tmod 2) == 0) then
      some (s1.1,(IntKind.u64.wrap (s1.2.1.tdiv 2)),s1.2.2)
     else
      (bif (decide (s1.1 ≥ s1.2.1)) then
       some ((IntKind.u64.wrap (s1.1 - s1.2.1)),s1.2.1,s1.2.2)
      else
       some (s1.1,(IntKind.u64.wrap (s1.2.1 - s1.1)),s1.2.2)))))).bind fun (y2:Int × Int × Int) =>
  some (.inl (y2.1,y2.2.1,y2.2.2))
 else
  some (.inr (s1.1,s1.2.1,s1.2.2)))
def Z30 (a:Int) (b:Int):Option (Int) :=
 (loopO (Z30.s0) (a,b,1)).bind fun (y1:Int × Int × Int) =>
 some (IntKind.u64.wrap ((IntKind.u64.wrap (y1.1 + y1.2.1)) * y1.2.2))
def ZCP (a:Int) (b:Int):Option (Int × Int) :=
 (Z30 (Z2p a) (Z2p b)).bind fun x1 =>
 (bif (decide (x1 > 9223372036854775807)) then
  some (0,10)
 else
  some ((w64 x1),0))
def Z3X (a:Int) (b:Int):Option (Int × Int) :=
 (bif (((ZZ a) == 0) || ((ZZ b) == 0)) then
  some (0,0)
 else
  (gcd? (ZZ a) (ZZ b)).bind fun x1 =>
  (nz? x1).bind fun u1 =>
  (bif (((Zu (IntKind.u64.wrap ((ZZ a).tdiv x1)) (ZZ b)).1) != 0) then
   some (0,10)
  else
   some ((Z1d ((Zu (IntKind.u64.wrap ((ZZ a).tdiv x1)) (ZZ b)).2) false).1,(Z1d ((Zu (IntKind.u64.wrap ((ZZ a).tdiv x1)) (ZZ b)).2) false).2)))
def ZCH (a:Int) (b:Int):Option (Int × Int) :=
 (bif ((a == 0) || (b == 0)) then
  some (0,0)
 else
  (Z30 (Z2p a) (Z2p b)).bind fun x1 =>
  (nz? x1).bind fun u1 =>
  (some (IntKind.u64.wrap ((Z2p a).tdiv x1))).bind fun x2 =>
  (Zy 0).bind fun x3 =>
  (Zy b).bind fun x4 =>
  (some (IntKind.u64.wrap (x2.tdiv 65536))).bind fun x5 =>
  (some (IntKind.u64.wrap (x5.tdiv 65536))).bind fun x6 =>
  (some (IntKind.u64.wrap (x6.tdiv 65536))).bind fun x7 =>
  (some (IntKind.u64.wrap (x7.tdiv 65536))).bind fun x8 =>
  (Z2X (epactref01_long.mk x3.minus (Arr9_u32.mk (IntKind.u32.wrap (x2.tmod 65536)) (IntKind.u32.wrap (x5.tmod 65536)) (IntKind.u32.wrap (x6.tmod 65536)) (IntKind.u32.wrap (x7.tmod 65536)) x3.digits.d4 x3.digits.d5 x3.digits.d6 x3.digits.d7 x3.digits.d8)) (epactref01_long.mk false x4.digits)).bind fun x9 =>
  (Z2z x9).bind fun x10 =>
  some (x10.1,x10.2))
def Z6z:Bool:=true
def epactlaw01_SafeTells (a:Int) (b:Int):Option (Bool) :=
 (Z7v a b).bind fun x1 =>
 (bif ((((Zc a b).1) != x1.1) || (((Zc a b).2) != x1.2)) then
  some false
 else
  (Z5k a b).bind fun x2 =>
  (bif ((((Z82 a b).1) != x2.1) || (((Z82 a b).2) != x2.2)) then
   some false
  else
   (ZCY a b).bind fun x3 =>
   (bif ((((Z7 a b).1) != x3.1) || (((Z7 a b).2) != x3.2)) then
    some false
   else
    (Z0A a b).bind fun x4 =>
    (ZBK a b).bind fun x5 =>
    (bif (((x4.1 != x5.1) || (x4.2.1 != x5.2.1)) || (x4.2.2 != x5.2.2)) then
     some false
    else
     (Z5b a b).bind fun x6 =>
     (ZCP a b).bind fun x7 =>
     (bif ((x6.1 != x7.1) || (x6.2 != x7.2)) then
      some false
     else
      (Z3X a b).bind fun x8 =>
      (ZCH a b).bind fun x9 =>
      some (((x8.1 == x9.1) && (x8.2 == x9.2)) && Z6z))))))
def safe_Sum (a:Bound) (b:Bound):Bound × Int :=
 (bif ((!(Z0v a)) || (!(Z0v b))) then
  ((Bound.mk 0 0),2)
 else
  (bif (((a.Inf != 0) && (b.Inf != 0)) && (a.Inf != b.Inf)) then
   ((Bound.mk 0 0),10)
  else
   (bif (a.Inf != 0) then
    (a,0)
   else
    (bif (b.Inf != 0) then
     (b,0)
    else
     ((Bound.mk 0 ((Zc a.N b.N).1)),(Zc a.N b.N).2)))))
def Z1i (a:Bound):Bool :=
 (bif (a.Inf == 0) then
  true
 else
  ((a.N == 0) && ((a.Inf == (-1)) || (a.Inf == 1))))
def ZCj (a:Bound) (b:Bound):Option (Bound × Int) :=
 (bif ((!(Z1i a)) || (!(Z1i b))) then
  some ((Bound.mk 0 0),2)
 else
  (bif ((a.Inf == 0) && (b.Inf == 0)) then
   (Z7v a.N b.N).bind fun x1 =>
   some ((Bound.mk 0 x1.1),x1.2)
  else
   (bif ((IntKind.i8.wrap (a.Inf * b.Inf)) == (-1)) then
    some ((Bound.mk 0 0),10)
   else
    (bif (a.Inf == 0) then
     some (b,0)
    else
     some (a,0)))))
def ZAn (a:Bound):Option (Bound × Int) :=
 (bif (!(Z1i a)) then
  some ((Bound.mk 0 0),2)
 else
  (bif (a.Inf != 0) then
   some ((Bound.mk (IntKind.i8.wrap (0 - a.Inf)) 0),0)
  else
   (Z5k 0 a.N).bind fun x1 =>
   some ((Bound.mk 0 x1.1),x1.2)))
def ZAv (a:Bound):Bool :=
 (Z1i a)
def ZBo (a:Bound) (b:Bound):Bool :=
 (bif ((!(Z1i a)) || (!(Z1i b))) then
  false
 else
  (bif ((a.Inf == 0) && (b.Inf == 0)) then
   (decide (a.N < b.N))
  else
   (decide (a.Inf < b.Inf))))
def epactlaw01_SafeBounds (a:Bound) (b:Bound):Option (Bool) :=
 (ZCj a b).bind fun x1 =>
 (ZAn a).bind fun x2 =>
 some ((((((((((safe_Sum a b).1.Inf) == x1.1.Inf) && ((((safe_Sum a b).1.N) == x1.1.N) && true)) && (((safe_Sum a b).2) == x1.2)) && ((((Z7H a).1.Inf) == x2.1.Inf) && ((((Z7H a).1.N) == x2.1.N) && true))) && (((Z7H a).2) == x2.2)) && ((Z0v a) == (ZAv a))) && ((ZB5 a b) == (ZBo a b))) && Z6z)
def Z3N:Form :=
 (Form.mk 7 1 [[(Span.mk 0 4)]] [])
def find_up:Unit :=
 ()
def Z8U (h':Span) (t:Int) (period:Int):Option (Int) :=
 (Z0A (w64 (h'.To - t)) period).bind fun x1 =>
 some (w64 (0 - x1.1))
def Z6.s0 (f:Form) (t:Int) (s1:Int × Bool × Int):Option ((Int × Bool × Int) ⊕ (Int × Bool)) :=
 (bif (decide (s1.2.2 < (f.Core.length:Int))) then
  (
   (
    (at? f.Core s1.2.2).bind fun x1 =>
    (Z2f x1).bind fun x2 =>
    (bif (!x2.2) then
     some (.ret ())
    else
     (Z8U x2.1 t f.Period).bind fun x3 =>
     (bif ((!s1.2.1) || (decide ((w64 ((w64 ((w64 ((w64 (x3 * f.Count)) + s1.2.2)) - s1.1)) * 1)) < 0))) then
      some (.go ((w64 ((w64 (x3 * f.Count)) + s1.2.2)),true))
     else
      some (.go (s1.1,s1.2.1))))).bind fun (y3:Jx (Int × Bool) (Unit)) =>
   y3.elim (fun a4 =>
     some (s1.1,s1.2.1)) fun a3 =>
   some (a3.1,a3.2)).bind fun (y2:Int × Bool) =>
  some (.inl (y2.1,y2.2,(w64 (s1.2.2 + 1))))
 else
  some (.inr (s1.1,s1.2.1)))
def Z6 (f:Form) (t:Int):Option (Int × Bool) :=
 (loopO (Z6.s0 f t) (0,false,0)).bind fun (y1:Int × Bool) =>
 some (y1.1,y1.2)
def Z1.s0 (f:Form) (s1:Int × (List (Int × Int))):Option ((Int × (List (Int × Int))) ⊕ ((List (Int × Int)))) :=
 (bif (decide (s1.1 < (f.Odd.length:Int))) then
  (at? f.Odd s1.1).bind fun x2 =>
  some (.inl ((w64 (s1.1 + 1)),(mput s1.2 x2.Index (w64 ((mget s1.2 x2.Index) + 1)))))
 else
  some (.inr s1.2))
def Z1.s1 (f:Form) (y1:(List (Int × Int))) (s2:Int × Bool × Int):Option ((Int × Bool × Int) ⊕ (Jx (Unit) (Int × Bool))) :=
 (bif (s2.2.1 && (decide (s2.2.2 < 2))) then
  (
   (
    (Z01 (Form.mk f.Period f.Count f.Core []) s2.1).bind fun x4 =>
    (bif (x4.2 != 0) then
     some (.go (w64 (s2.2.2 + 1)))
    else
     (bif ((mget y1 s2.1) == 0) then
      some (.ret (s2.1,true))
     else
      some (.go s2.2.2)))).bind fun (y4:Jx (Int) (Int × Bool)) =>
   y4.elim (fun r' =>
     some (.ret r')) fun a4 =>
   some (.go a4)).bind fun (y3:Jx (Int) (Int × Bool)) =>
  y3.elim (fun r' =>
    some (.inr (.ret r'))) fun a5 =>
  (Z0o (Form.mk f.Period f.Count f.Core []) s2.1).bind fun x5 =>
  some (.inl (x5.1,x5.2,a5))
 else
  some (.inr (.go ())))
def Z1 (f:Form) (t:Int):Option (Int × Bool) :=
 (Z6 f t).bind fun x1 =>
 (bif (!x1.2) then
  some (0,false)
 else
  (loopO (Z1.s0 f) (0,[])).bind fun (y1:(List (Int × Int))) =>
  (Z0o (Form.mk f.Period f.Count f.Core []) (w64 (x1.1 - 1))).bind fun x3 =>
  (loopO (Z1.s1 f y1) (x3.1,x3.2,0)).bind fun (y2:Jx (Unit) (Int × Bool)) =>
  y2.elim (fun r' =>
    some r') fun a6 =>
  some (0,false))
def Z4T (h':Span) (t:Int):Bool :=
 (decide (h'.To ≥ t))
def Z8.s0 (f:Form) (t:Int) (s1:Int × Bool × Int):Option ((Int × Bool × Int) ⊕ (Int × Bool)) :=
 (bif (decide (s1.2.2 < (f.Odd.length:Int))) then
  (
   (
    (at? f.Odd s1.2.2).bind fun x2 =>
    (Z2f x2.Ticks).bind fun x3 =>
    (bif ((x3.2 && (Z4T x3.1 (iMax (iMin t 1099511627777) (-1099511627777)))) && ((!s1.2.1) || (decide ((w64 ((w64 (x2.Index - s1.1)) * 1)) < 0)))) then
     some (x2.Index,true)
    else
     some (s1.1,s1.2.1))).bind fun (y3:Int × Bool) =>
   some (y3.1,y3.2)).bind fun (y2:Int × Bool) =>
  some (.inl (y2.1,y2.2,(w64 (s1.2.2 + 1))))
 else
  some (.inr (s1.1,s1.2.1)))
def Z8 (f:Form) (t:Int):Option (Int × Bool) :=
 (Z1 f (iMax (iMin t 1099511627777) (-1099511627777))).bind fun x1 =>
 (loopO (Z8.s0 f t) (x1.1,x1.2,0)).bind fun (y1:Int × Bool) =>
 some (y1.1,y1.2)
def Z5W (f:Form) (t:Int):Option (Int × Bool) :=
 (Z8 f t).bind fun x1 =>
 some (x1.1,x1.2)
def Z4.s0 (x':(List Span)) (target:Int) (cmp:Span→Int→Option Int) (s1:Int × Int):Option ((Int × Int) ⊕ (Int)) :=
 (bif (decide (s1.1 < s1.2)) then
  (
   (at? x' (w64 ((IntKind.u64.wrap (w64 (s1.1 + s1.2))).fdiv (2 ^ 1)))).bind fun x1 =>
   (cmp x1 target).bind fun x2 =>
   (bif (decide (x2 < 0)) then
    some ((w64 ((w64 ((IntKind.u64.wrap (w64 (s1.1 + s1.2))).fdiv (2 ^ 1))) + 1)),s1.2)
   else
    some (s1.1,(w64 ((IntKind.u64.wrap (w64 (s1.1 + s1.2))).fdiv (2 ^ 1)))))).bind fun (y2:Int × Int) =>
  some (.inl (y2.1,y2.2))
 else
  some (.inr s1.1))
def Z4 (x':(List Span)) (target:Int) (cmp:Span→Int→Option Int):Option (Int × Bool) :=
 (loopO (Z4.s0 x' target cmp) (0,(x'.length:Int))).bind fun (y1:Int) =>
 (
  (bif (decide (y1 < (x'.length:Int))) then
   (at? x' y1).bind fun x3 =>
   (cmp x3 target).bind fun x4 =>
   some (x4 == 0)
  else
   some false)).bind fun (y3:Bool) =>
 some (y1,y3)
def Z20 (s:Span) (t:Int):Int :=
 (bif (decide (s.To < t)) then
  (-1)
 else
  (bif (decide (s.From > t)) then
   1
  else
   0))
def Z4a (l:(List Span)) (t:Int):Option (Bool) :=
 (Z4 l t (fun z0 z1 => some (Z20 z0 z1))).bind fun x1 =>
 some (x1.2 && (decide (x1.1 < (l.length:Int))))
def Z4l (f:Form) (t:Int):Option (Int × Bool) :=
 (Z5W f t).bind fun x1 =>
 (bif (!x1.2) then
  some (0,false)
 else
  (Z01 f x1.1).bind fun x2 =>
  (Z4a x2.1 t).bind fun x3 =>
  (bif (!x3) then
   some (0,false)
  else
   some (x1.1,true)))
def tag_Distance (f:Form) (a:Int) (b:Int):Option (Int × Bool) :=
 (Z4l f a).bind fun x1 =>
 (bif (!x1.2) then
  some (0,false)
 else
  (Z4l f b).bind fun x2 =>
  (bif (!x2.2) then
   some (0,false)
  else
   some ((w64 (x2.1 - x1.1)),true)))
def Z9:Form :=
 (Form.mk 1 1 [[(Span.mk 0 0)]] [])
def Z1Y (f:Form) (m:Int):Option (Int × Int) :=
 (bif (f.Count == 0) then
  some (0,0)
 else
  (Z3X f.Count m).bind fun x1 =>
  (nz? m).bind fun u1 =>
  some ((w64 (x1.1.tdiv m)),x1.1))
def Z0L.s0 {S:Type} (p1':Int) (p2':Int→Option ((List Span) × Int)) (p3':Int) (yield:S→((List Span) × Int)→Option (S × Bool)) (s1:Int × S):Option ((Int × S) ⊕ (Jx (S) (S))) :=
 (bif (decide (s1.1 < p1')) then
  (p2' (w64 (p3' + s1.1))).bind fun x1 =>
  (yield s1.2 (x1.1,x1.2)).bind fun x2 =>
  (bif (!x2.2) then
   some (.inr (.ret x2.1))
  else
   some (.inl ((w64 (s1.1 + 1)),x2.1)))
 else
  some (.inr (.go s1.2)))
def Z0L {S:Type} (p1':Int) (p2':Int→Option ((List Span) × Int)) (p3':Int) (yield:S→((List Span) × Int)→Option (S × Bool)) (st':S):Option (S) :=
 (loopO (Z0L.s0 p1' p2' p3' yield) (0,st')).bind fun (y1:Jx (S) (S)) =>
 y1.elim (fun r' =>
   some r') fun a2 =>
 some a2
def Zg.b0 (s2:(List Span) × Int) (z2:(List Span) × Int):Option (((List Span) × Int) × Nat) :=
 (
  (
   (bif (z2.2 != 0) then
    some (.ret ())
   else
    (
     (
      (bif ((decide ((s2.1.length:Int) > 0)) && (decide ((z2.1.length:Int) > 0))) then
       (at? z2.1 0).bind fun x1 =>
       (at? s2.1 (w64 ((s2.1.length:Int) - 1))).bind fun x2 =>
       some (x1.From == (w64 (x2.To + 1)))
      else
       some false)).bind fun (y6:Bool) =>
     (bif y6 then
      (at? z2.1 0).bind fun x3 =>
      (at? s2.1 (w64 ((s2.1.length:Int) - 1))).bind fun x4 =>
      (cut? z2.1 1 (z2.1.length:Int)).bind fun x5 =>
      some (x5,(s2.1.set ((w64 ((s2.1.length:Int) - 1))).toNat (Span.mk x4.From x3.To)))
     else
      some (z2.1,s2.1))).bind fun (y5:(List Span) × (List Span)) =>
    (app? 16 y5.2 y5.1).bind fun x6 =>
    some (.go x6))).bind fun (y4:Jx ((List Span)) (Unit)) =>
  y4.elim (fun a6 =>
    some (.ret ())) fun a5 =>
  some (.go a5)).bind fun (y3:Jx ((List Span)) (Unit)) =>
 y3.elim (fun a8 =>
   some ((s2.1,z2.2),1)) fun a7 =>
 some ((a7,s2.2),0)
def Zg (tell:Int→Option ((List Span) × Int)) (from':Int) (many:Int):Option ((List Span) × Int) :=
 (
  some ()).bind fun (y1:Unit) =>
 (Z0L many tell from' (Z1J Zg.b0) (([],0),0)).bind fun (y2:((List Span) × Int) × Nat) =>
 (bif (y2.2 == 0) then
  some (y2.1.1,0)
 else
  some ([],y2.1.2))
def Z0k (f:Form) (i:Int):Option ((List Span) × Int) :=
 (bif (f.Count == 0) then
  some ([],0)
 else
  (Z0A i f.Count).bind fun x1 =>
  (at? f.Core x1.2.1).bind fun x2 =>
  (bif ((x2.length:Int) == 0) then
   some ([],0)
  else
   (bif ((x1.2.2 != 0) || (((Z7 x1.1 f.Period).2) != 0)) then
    some ([],20)
   else
    (at? f.Core x1.2.1).bind fun x3 =>
    (Z0C x3 ((Z7 x1.1 f.Period).1)).bind fun x4 =>
    some (x4.1,x4.2))))
def Z0R (i:Int) (p1':Form):Option ((List Span) × Int) :=
 (Z0k p1' i).bind fun x1 =>
 some (x1.1,x1.2)
def Ze.s0 (f:Form) (s1:Int × Int):Option ((Int × Int) ⊕ (Int)) :=
 (bif (decide (s1.2 < (f.Core.length:Int))) then
  (at? f.Core s1.2).bind fun x2 =>
  some (.inl ((w64 (s1.1 + (x2.length:Int))),(w64 (s1.2 + 1))))
 else
  some (.inr s1.1))
def Ze.s1 (f:Form) (m:Int) (x1:Int × Int) (s3:Int × (List (List Span))):Option ((Int × (List (List Span))) ⊕ (Jx ((List (List Span)) × Int) (Int))) :=
 (bif (decide (s3.1 < x1.1)) then
  (Zg (fun z0 => Z0R z0 f) (w64 (s3.1 * m)) m).bind fun x3 =>
  (bif (x3.2 != 0) then
   some (.inr (.ret x3.2))
  else
   (app? 24 s3.2 [x3.1]).bind fun x4 =>
   some (.inl ((w64 (s3.1 + 1)),x4)))
 else
  some (.inr (.go (s3.2,(Z7 f.Period (w64 (x1.2.tdiv f.Count))).1))))
def Ze (f:Form) (m:Int):Option (Form × Int) :=
 (Z1Y f m).bind fun x1 =>
 (bif (x1.1 == 0) then
  some ((Form.mk 0 0 [] []),0)
 else
  (loopO (Ze.s0 f) (0,0)).bind fun (y1:Int) =>
  (nz? f.Count).bind fun u1 =>
  (bif (decide ((w64 (y1 * (w64 (x1.2.tdiv f.Count)))) > 60000)) then
   some ((Form.mk 0 0 [] []),3)
  else
   (nz? f.Count).bind fun u2 =>
   (bif ((((Z7 f.Period (w64 (x1.2.tdiv f.Count))).2) != 0) || (decide (((Z7 f.Period (w64 (x1.2.tdiv f.Count))).1) > 1099511627776))) then
    some ((Form.mk 0 0 [] []),20)
   else
    (loopO (Ze.s1 f m x1) (0,[])).bind fun (y2:Jx ((List (List Span)) × Int) (Int)) =>
    y2.elim (fun a4 =>
      some ((Form.mk 0 0 [] []),a4)) fun a3 =>
    some ((Form.mk a3.2 x1.1 a3.1 []),0))))
def Z1c (f:Form):Option (Form × Int) :=
 (Z00 f).bind fun x1 =>
 (bif (x1 == 0) then
  (ZT f).bind fun x2 =>
  some (x2,0)
 else
  (bif (x1 == 3) then
   some ((Form.mk 0 0 [] []),3)
  else
   some ((Form.mk 0 0 [] []),20)))
def Z0T (i:Int) (p1':Form):Option ((List Span) × Int) :=
 (Z01 p1' i).bind fun x1 =>
 some (x1.1,x1.2)
def Za.s0 (f:Form) (m:Int) (s2:Int × (List Granule)):Option ((Int × (List Granule)) ⊕ (Jx ((List Granule)) (Form × Int))) :=
 (bif (decide (s2.1 < (f.Odd.length:Int))) then
  (
   (at? f.Odd s2.1).bind fun x2 =>
   (Z0A x2.Index m).bind fun x3 =>
   (
    (bif (decide ((s2.2.length:Int) > 0)) then
     (at? s2.2 (w64 ((s2.2.length:Int) - 1))).bind fun x4 =>
     some (x4.Index == x3.1)
    else
     some false)).bind fun (y3:Bool) =>
   (bif y3 then
    some (.go s2.2)
   else
    (Zg (fun z0 => Z0T z0 f) (w64 (x3.1 * m)) m).bind fun x5 =>
    (bif (x5.2 != 0) then
     some (.ret ((Form.mk 0 0 [] []),20))
    else
     (app? 32 s2.2 [(Granule.mk x3.1 x5.1)]).bind fun x6 =>
     some (.go x6)))).bind fun (y2:Jx ((List Granule)) (Form × Int)) =>
  y2.elim (fun r' =>
    some (.inr (.ret r'))) fun a3 =>
  some (.inl ((w64 (s2.1 + 1)),a3))
 else
  some (.inr (.go s2.2)))
def Za (f:Form) (m:Int):Option (Form × Int) :=
 (bif ((decide (m < 1)) || (decide (m > 6000))) then
  some ((Form.mk 0 0 [] []),2)
 else
  (Ze f m).bind fun x1 =>
  (bif (x1.2 != 0) then
   some ((Form.mk 0 0 [] []),x1.2)
  else
   (loopO (Za.s0 f m) (0,[])).bind fun (y1:Jx ((List Granule)) (Form × Int)) =>
   y1.elim (fun r' =>
     some r') fun a4 =>
   (Z1c (Form.mk x1.1.Period x1.1.Count x1.1.Core a4)).bind fun x7 =>
   some (x7.1,x7.2)))
def Z45 (i:Int):Bool :=
 ((decide (i ≥ (-1099511627776))) && (decide (i≤1099511627776)))
def Z1W.s0 (f:Form) (m:Int) (s2:Int × (List (List Span))):Option ((Int × (List (List Span))) ⊕ (Jx ((List (List Span))) (Form × Int))) :=
 (bif (decide (s2.1 < f.Count)) then
  (Z0k f (w64 (s2.1 - m))).bind fun x1 =>
  (bif (x1.2 != 0) then
   some (.inr (.ret ((Form.mk 0 0 [] []),x1.2)))
  else
   (app? 24 s2.2 [x1.1]).bind fun x2 =>
   some (.inl ((w64 (s2.1 + 1)),x2)))
 else
  some (.inr (.go s2.2)))
def Z1W.s1 (f:Form) (m:Int) (s4:Int × (List Granule)):Option ((Int × (List Granule)) ⊕ (Jx ((List Granule)) (Form × Int))) :=
 (bif (decide (s4.1 < (f.Odd.length:Int))) then
  (at? f.Odd s4.1).bind fun x3 =>
  (bif (!(Z45 (w64 (x3.Index + m)))) then
   some (.inr (.ret ((Form.mk 0 0 [] []),20)))
  else
   (app? 16 [] x3.Ticks).bind fun x4 =>
   (app? 32 s4.2 [(Granule.mk (w64 (x3.Index + m)) x4)]).bind fun x5 =>
   some (.inl ((w64 (s4.1 + 1)),x5)))
 else
  some (.inr (.go s4.2)))
def Z1W (f:Form) (m:Int):Option (Form × Int) :=
 (bif (!(Z45 m)) then
  some ((Form.mk 0 0 [] []),2)
 else
  (loopO (Z1W.s0 f m) (0,[])).bind fun (y1:Jx ((List (List Span))) (Form × Int)) =>
  y1.elim (fun r' =>
    some r') fun a2 =>
  (loopO (Z1W.s1 f m) (0,[])).bind fun (y2:Jx ((List Granule)) (Form × Int)) =>
  y2.elim (fun r' =>
    some r') fun a4 =>
  (Z1c (Form.mk f.Period f.Count a2 a4)).bind fun x6 =>
  some (x6.1,x6.2))
def ZAI (f:Form) (i:Int):Option (Bool × (List Span) × Int) :=
 (Z01 f i).bind fun x1 =>
 some (((decide ((x1.1.length:Int) > 0)) || (x1.2 != 0)),x1.1,x1.2)
def Z4r.s0 (f:Form) (n:Int) (s2:Int × Bool × (List Int)):Option ((Int × Bool × (List Int)) ⊕ (Jx ((List Int)) (Form × Int))) :=
 (bif (s2.2.1 && (decide (s2.1≤n))) then
  (app? 8 s2.2.2 [s2.1]).bind fun x3 =>
  (bif (decide ((x3.length:Int) > 6000)) then
   some (.inr (.ret ((Form.mk 0 0 [] []),3)))
  else
   (Z0o f s2.1).bind fun x4 =>
   some (.inl (x4.1,x4.2,x3)))
 else
  some (.inr (.go s2.2.2)))
def Z4r.s1 (f:Form) (a2:(List Int)) (s4:Int × (List Granule)):Option ((Int × (List Granule)) ⊕ (Jx ((List Granule)) (Form × Int))) :=
 (bif (decide (s4.1 < (a2.length:Int))) then
  (at? a2 s4.1).bind fun x5 =>
  (ZAI f x5).bind fun x6 =>
  (bif (x6.2.2 != 0) then
   some (.inr (.ret ((Form.mk 0 0 [] []),20)))
  else
   (app? 32 s4.2 [(Granule.mk x5 x6.2.1)]).bind fun x7 =>
   some (.inl ((w64 (s4.1 + 1)),x7)))
 else
  some (.inr (.go s4.2)))
def Z4r (f:Form) (m:Int) (n:Int):Option (Form × Int) :=
 (bif (((!(Z45 m)) || (!(Z45 n))) || (decide (m > n))) then
  some ((Form.mk 0 0 [] []),2)
 else
  (
   (ZAI f m).bind fun x1 =>
   (bif (!x1.1) then
    (Z0o f m).bind fun x2 =>
    some (x2.1,x2.2)
   else
    some (m,true))).bind fun (y1:Int × Bool) =>
  (loopO (Z4r.s0 f n) (y1.1,y1.2,[])).bind fun (y2:Jx ((List Int)) (Form × Int)) =>
  y2.elim (fun r' =>
    some r') fun a2 =>
  (loopO (Z4r.s1 f a2) (0,[])).bind fun (y3:Jx ((List Granule)) (Form × Int)) =>
  y3.elim (fun r' =>
    some r') fun a4 =>
  (Z1c (Form.mk 0 0 [] a4)).bind fun x8 =>
  some (x8.1,x8.2))
def Z17:Bool:=true
def Z41.s0 (f:Form) (m:Int) (at':Int) (x2:Form × Int) (s1:Int):Option ((Int) ⊕ (Jx (Unit) (Bool))) :=
 (bif (decide (s1 < ([((w64 at').fdiv (2 ^ 1)),m,(w64 (m + 1)),0].length:Int))) then
  (at? [((w64 at').fdiv (2 ^ 1)),m,(w64 (m + 1)),0] s1).bind fun x3 =>
  (Z01 f (w64 (x3 - m))).bind fun x4 =>
  (Z01 x2.1 x3).bind fun x5 =>
  (
   (bif ((x4.2 == 0) && (x5.2 == 0)) then
    (Z0j x5.1 x4.1).bind fun x6 =>
    some (!x6)
   else
    some false)).bind fun (y2:Bool) =>
  (bif (y2 || ((((x4.2 == 0) && (x5.2 != 0)) && (decide (x3 ≥ (-1099511627776)))) && (decide (x3≤1099511627776)))) then
   some (.inr (.ret false))
  else
   some (.inl (w64 (s1 + 1))))
 else
  some (.inr (.go ())))
def Z41 (f:Form) (m:Int) (at':Int):Option (Bool) :=
 (Z19 f).bind fun x1 =>
 (bif (!x1) then
  some Z17
 else
  (Z1W f m).bind fun x2 =>
  (bif (x2.2 != 0) then
   some ((((x2.2 == 2) == ((decide (m < (-1099511627776))) || (decide (m > 1099511627776)))) && ((x2.2 == 2) || (x2.2 == 20))) && Z17)
  else
   (loopO (Z41.s0 f m at' x2) 0).bind fun (y1:Jx (Unit) (Bool)) =>
   y1.elim (fun r' =>
     some r') fun a2 =>
   (Z1W x2.1 (w64 (0 - m))).bind fun x7 =>
   (canon_Is x2.1).bind fun x8 =>
   (
    (bif x8 then
     (
      (bif (x7.2 != 0) then
       some true
      else
       (ZT f).bind fun x9 =>
       (Z3 x7.1 x9).bind fun x10 =>
       some x10)).bind fun (y4:Bool) =>
     some y4
    else
     some false)).bind fun (y3:Bool) =>
   some (y3 && Z17)))
def epactlaw13_GroupsTwice (f:Form) (m:Int) (n:Int) (k:Int):Option (Bool) :=
 (Z19 f).bind fun x1 =>
 (bif (!x1) then
  some Z17
 else
  (Za f (w64 (1 + (w64 (m.tmod 12))))).bind fun x2 =>
  (Za f 1).bind fun x3 =>
  (
   (bif (x3.2 != 0) then
    some true
   else
    (ZT f).bind fun x4 =>
    (Z3 x3.1 x4).bind fun x5 =>
    some (!x5))).bind fun (y1:Bool) =>
  (bif y1 then
   some false
  else
   (bif (x2.2 != 0) then
    some Z17
   else
    (Za x2.1 (w64 (1 + (w64 (n.tmod 12))))).bind fun x6 =>
    (Za f (w64 ((w64 (1 + (w64 (m.tmod 12)))) * (w64 (1 + (w64 (n.tmod 12))))))).bind fun x7 =>
    (
     (bif ((x6.2 == 0) && (x7.2 == 0)) then
      (Z3 x6.1 x7.1).bind fun x8 =>
      some (!x8)
     else
      some false)).bind fun (y2:Bool) =>
    (bif y2 then
     some false
    else
     (Z1W x2.1 (w64 (k.tmod 20))).bind fun x9 =>
     (Z1W f (w64 ((w64 (1 + (w64 (m.tmod 12)))) * (w64 (k.tmod 20))))).bind fun x10 =>
     (bif ((x9.2 != 0) || (x10.2 != 0)) then
      some Z17
     else
      (Za x10.1 (w64 (1 + (w64 (m.tmod 12))))).bind fun x11 =>
      (
       (bif (x11.2 != 0) then
        some true
       else
        (Z3 x9.1 x11.1).bind fun x12 =>
        some x12)).bind fun (y3:Bool) =>
      some (y3 && Z17))))))
def Z1F.s0 (l:(List Int)) (x':Int) (s2:Bool × Int × (List Int)):Option ((Bool × Int × (List Int)) ⊕ (Bool × (List Int))) :=
 (bif (decide (s2.2.1 < (l.length:Int))) then
  (
   (
    (
     (at? l s2.2.1).bind fun x1 =>
     (bif (x1 == x') then
      some true
     else
      some s2.1)).bind fun (y4:Bool) =>
    (
     (
      (bif (!y4) then
       (at? l s2.2.1).bind fun x2 =>
       some (decide (x2 > x'))
      else
       some false)).bind fun (y6:Bool) =>
     (bif y6 then
      (app? 8 s2.2.2 [x']).bind fun x3 =>
      some (true,x3)
     else
      some (y4,s2.2.2))).bind fun (y5:Bool × (List Int)) =>
    (at? l s2.2.1).bind fun x4 =>
    (app? 8 y5.2 [x4]).bind fun x5 =>
    some (y5.1,x5)).bind fun (y3:Bool × (List Int)) =>
   some (y3.1,y3.2)).bind fun (y2:Bool × (List Int)) =>
  some (.inl (y2.1,(w64 (s2.2.1 + 1)),y2.2))
 else
  some (.inr (s2.1,s2.2.2)))
def Z1F (l:(List Int)) (x':Int):Option ((List Int)) :=
 (loopO (Z1F.s0 l x') (false,0,[])).bind fun (y1:Bool × (List Int)) =>
 (
  (bif (!y1.1) then
   (app? 8 y1.2 [x']).bind fun x6 =>
   some x6
  else
   some y1.2)).bind fun (y7:(List Int)) =>
 some y7
def Z1u.s0 (a:(List Span)) (s1:(List Int) × Int):Option (((List Int) × Int) ⊕ ((List Int))) :=
 (bif (decide (s1.2 < (a.length:Int))) then
  (at? a s1.2).bind fun x1 =>
  (Z1F s1.1 x1.From).bind fun x2 =>
  (at? a s1.2).bind fun x3 =>
  (Z1F x2 (w64 (x3.To + 1))).bind fun x4 =>
  some (.inl (x4,(w64 (s1.2 + 1))))
 else
  some (.inr s1.1))
def Z1u.s1 (b:(List Span)) (s2:(List Int) × Int):Option (((List Int) × Int) ⊕ ((List Int))) :=
 (bif (decide (s2.2 < (b.length:Int))) then
  (at? b s2.2).bind fun x5 =>
  (Z1F s2.1 x5.From).bind fun x6 =>
  (at? b s2.2).bind fun x7 =>
  (Z1F x6 (w64 (x7.To + 1))).bind fun x8 =>
  some (.inl (x8,(w64 (s2.2 + 1))))
 else
  some (.inr s2.1))
def Z1u (a:(List Span)) (b:(List Span)):Option ((List Int)) :=
 (loopO (Z1u.s0 a) ([],0)).bind fun (y1:(List Int)) =>
 (loopO (Z1u.s1 b) (y1,0)).bind fun (y2:(List Int)) =>
 some y2
def Z3K.s0 (l:(List Span)) (t:Int) (s1:Int):Option ((Int) ⊕ (Jx (Unit) (Bool))) :=
 (bif (decide (s1 < (l.length:Int))) then
  (at? l s1).bind fun x1 =>
  (
   (bif (decide (x1.From≤t)) then
    (at? l s1).bind fun x2 =>
    some (decide (t≤x2.To))
   else
    some false)).bind fun (y2:Bool) =>
  (bif y2 then
   some (.inr (.ret true))
  else
   some (.inl (w64 (s1 + 1))))
 else
  some (.inr (.go ())))
def Z3K (l:(List Span)) (t:Int):Option (Bool) :=
 (loopO (Z3K.s0 l t) 0).bind fun (y1:Jx (Unit) (Bool)) =>
 y1.elim (fun r' =>
   some r') fun a2 =>
 some false
def epactref02_in (kind:Int) (a:Bool) (b:Bool):Bool :=
 (bif (kind == 1) then
  (a || b)
 else
  (bif (kind == 2) then
   (a && b)
  else
   (a && (!b))))
def Z61.s0 (kind:Int) (a:(List Span)) (b:(List Span)) (x1:(List Int)) (s2:Int × (List Span)):Option ((Int × (List Span)) ⊕ ((List Span))) :=
 (bif (decide ((w64 (s2.1 + 1)) < (x1.length:Int))) then
  (
   (
    (at? x1 s2.1).bind fun x2 =>
    (Z3K a x2).bind fun x3 =>
    (at? x1 s2.1).bind fun x4 =>
    (Z3K b x4).bind fun x5 =>
    (bif (!(epactref02_in kind x3 x5)) then
     some (.ret ())
    else
     (
      (bif (decide ((s2.2.length:Int) > 0)) then
       (at? s2.2 (w64 ((s2.2.length:Int) - 1))).bind fun x6 =>
       (at? x1 s2.1).bind fun x7 =>
       some (x6.To == (w64 (x7 - 1)))
      else
       some false)).bind fun (y4:Bool) =>
     (bif y4 then
      (at? x1 (w64 (s2.1 + 1))).bind fun x8 =>
      (at? s2.2 (w64 ((s2.2.length:Int) - 1))).bind fun x9 =>
      some (.go (s2.2.set ((w64 ((s2.2.length:Int) - 1))).toNat (Span.mk x9.From (w64 (x8 - 1)))))
     else
      (at? x1 s2.1).bind fun x10 =>
      (at? x1 (w64 (s2.1 + 1))).bind fun x11 =>
      (app? 16 s2.2 [(Span.mk x10 (w64 (x11 - 1)))]).bind fun x12 =>
      some (.go x12)))).bind fun (y3:Jx ((List Span)) (Unit)) =>
   y3.elim (fun a4 =>
     some s2.2) fun a3 =>
   some a3).bind fun (y2:(List Span)) =>
  some (.inl ((w64 (s2.1 + 1)),y2))
 else
  some (.inr s2.2))
def Z61 (kind:Int) (a:(List Span)) (b:(List Span)):Option ((List Span)) :=
 (Z1u a b).bind fun x1 =>
 (loopO (Z61.s0 kind a b x1) (0,[])).bind fun (y1:(List Span)) =>
 some y1
def Z6H.s0 (l:(List Int)) (x':Int) (s2:Bool × Int × (List Int)):Option ((Bool × Int × (List Int)) ⊕ (Bool × (List Int))) :=
 (bif (decide (s2.2.1 < (l.length:Int))) then
  (
   (
    (
     (at? l s2.2.1).bind fun x1 =>
     (bif (x1 == x') then
      some true
     else
      some s2.1)).bind fun (y4:Bool) =>
    (
     (
      (bif (!y4) then
       (at? l s2.2.1).bind fun x2 =>
       some (decide (x2 > x'))
      else
       some false)).bind fun (y6:Bool) =>
     (bif y6 then
      (app? 8 s2.2.2 [x']).bind fun x3 =>
      some (true,x3)
     else
      some (y4,s2.2.2))).bind fun (y5:Bool × (List Int)) =>
    (at? l s2.2.1).bind fun x4 =>
    (app? 8 y5.2 [x4]).bind fun x5 =>
    some (y5.1,x5)).bind fun (y3:Bool × (List Int)) =>
   some (y3.1,y3.2)).bind fun (y2:Bool × (List Int)) =>
  some (.inl (y2.1,(w64 (s2.2.1 + 1)),y2.2))
 else
  some (.inr (s2.1,s2.2.2)))
def Z6H (l:(List Int)) (x':Int):Option ((List Int)) :=
 (loopO (Z6H.s0 l x') (false,0,[])).bind fun (y1:Bool × (List Int)) =>
 (
  (bif (!y1.1) then
   (app? 8 y1.2 [x']).bind fun x6 =>
   some x6
  else
   some y1.2)).bind fun (y7:(List Int)) =>
 some y7
def Z8K (f:Form) (i:Int):Option ((List Span) × Int) :=
 (bif (f.Count == 0) then
  some ([],0)
 else
  (Z5A i f.Count).bind fun x1 =>
  (at? f.Core x1.2).bind fun x2 =>
  (bif ((x2.length:Int) == 0) then
   some ([],0)
  else
   (nz? f.Period).bind fun u1 =>
   (
    (bif (decide (x1.1 > (w64 ((w64 ((2199023255552:Int).tdiv f.Period)) + 1)))) then
     some true
    else
     (nz? f.Period).bind fun u2 =>
     some (decide (x1.1 < (w64 ((w64 ((-2199023255552:Int).tdiv f.Period)) - 1)))))).bind fun (y1:Bool) =>
   (bif y1 then
    some ([],20)
   else
    (Z3i x2 (w64 (x1.1 * f.Period))).bind fun x3 =>
    some (x3.1,x3.2))))
def Z5I.s0 (f:Form) (from':Int) (many:Int) (raw:Bool) (s1:(List Span) × Int):Option (((List Span) × Int) ⊕ (Jx ((List Span)) ((List Span) × Int))) :=
 (bif (decide (s1.2 < (w64 (from' + many)))) then
  (
   (
    (Z5j f s1.2).bind fun x1 =>
    (
     (bif raw then
      (Z8K f s1.2).bind fun x2 =>
      some (x2.1,x2.2)
     else
      some (x1.1,x1.2))).bind fun (y4:(List Span) × Int) =>
    (bif (y4.2 != 0) then
     some (.ret ([],20))
    else
     (Z61 1 s1.1 y4.1).bind fun x3 =>
     some (.go x3))).bind fun (y3:Jx ((List Span)) ((List Span) × Int)) =>
   y3.elim (fun r' =>
     some (.ret r')) fun a4 =>
   some (.go a4)).bind fun (y2:Jx ((List Span)) ((List Span) × Int)) =>
  y2.elim (fun r' =>
    some (.inr (.ret r'))) fun a5 =>
  some (.inl (a5,(w64 (s1.2 + 1))))
 else
  some (.inr (.go s1.1)))
def Z5I (f:Form) (from':Int) (many:Int) (raw:Bool):Option ((List Span) × Int) :=
 (loopO (Z5I.s0 f from' many raw) ([],from')).bind fun (y1:Jx ((List Span)) ((List Span) × Int)) =>
 y1.elim (fun r' =>
   some r') fun a6 =>
 some (a6,0)
def Z2h.s0 (f:Form) (s1:Int × Int):Option ((Int × Int) ⊕ (Int)) :=
 (bif (decide (s1.2 < (f.Core.length:Int))) then
  (at? f.Core s1.2).bind fun x1 =>
  some (.inl ((w64 (s1.1 + (x1.length:Int))),(w64 (s1.2 + 1))))
 else
  some (.inr s1.1))
def Z2h.s1 (f:Form) (s2:Int × Int):Option ((Int × Int) ⊕ (Int)) :=
 (bif (decide (s2.2 < (f.Odd.length:Int))) then
  (at? f.Odd s2.2).bind fun x2 =>
  some (.inl ((w64 (s2.1 + (x2.Ticks.length:Int))),(w64 (s2.2 + 1))))
 else
  some (.inr s2.1))
def Z2h (f:Form):Option (Int) :=
 (loopO (Z2h.s0 f) (0,0)).bind fun (y1:Int) =>
 (loopO (Z2h.s1 f) (y1,0)).bind fun (y2:Int) =>
 some y2
def Z3S.s0 (l:(List Span)) (s1:Int):Option ((Int) ⊕ (Jx (Unit) (Bool))) :=
 (bif (decide (s1 < (l.length:Int))) then
  (at? l s1).bind fun x1 =>
  (at? l s1).bind fun x2 =>
  (
   (bif (decide (x1.From > x2.To)) then
    some true
   else
    (at? l s1).bind fun x3 =>
    some (decide (x3.From < (-1099511627776))))).bind fun (y2:Bool) =>
  (
   (bif y2 then
    some true
   else
    (at? l s1).bind fun x4 =>
    some (decide (x4.To > 1099511627776)))).bind fun (y3:Bool) =>
  (bif y3 then
   some (.inr (.ret false))
  else
   (
    (bif (decide (s1 > 0)) then
     (at? l s1).bind fun x5 =>
     (at? l (w64 (s1 - 1))).bind fun x6 =>
     (
      (bif (decide (x5.From≤x6.To)) then
       some true
      else
       (cut? l 0 s1).bind fun x7 =>
       (at? l s1).bind fun x8 =>
       (Z3K x7 (w64 (x8.From - 1))).bind fun x9 =>
       some x9)).bind fun (y5:Bool) =>
     some y5
    else
     some false)).bind fun (y4:Bool) =>
   (bif y4 then
    some (.inr (.ret false))
   else
    some (.inl (w64 (s1 + 1)))))
 else
  some (.inr (.go ())))
def Z3S (l:(List Span)):Option (Bool) :=
 (loopO (Z3S.s0 l) 0).bind fun (y1:Jx (Unit) (Bool)) =>
 y1.elim (fun r' =>
   some r') fun a2 =>
 some true
def Z2M.s0 (f:Form) (s1:Int):Option ((Int) ⊕ (Jx (Unit) (Bool))) :=
 (bif (decide (s1 < (f.Core.length:Int))) then
  (at? f.Core s1).bind fun x1 =>
  (Z3S x1).bind fun x2 =>
  (bif (!x2) then
   some (.inr (.ret false))
  else
   some (.inl (w64 (s1 + 1))))
 else
  some (.inr (.go ())))
def Z2M.s1 (f:Form) (s2:Int):Option ((Int) ⊕ (Jx (Unit) (Bool))) :=
 (bif (decide (s2 < (f.Odd.length:Int))) then
  (at? f.Odd s2).bind fun x3 =>
  (Z3S x3.Ticks).bind fun x4 =>
  (
   (bif (((!x4) || (decide (x3.Index < (-1099511627776)))) || (decide (x3.Index > 1099511627776))) then
    some true
   else
    (
     (bif (decide (s2 > 0)) then
      (at? f.Odd (w64 (s2 - 1))).bind fun x5 =>
      some (decide (x3.Index≤x5.Index))
     else
      some false)).bind fun (y4:Bool) =>
    some y4)).bind fun (y3:Bool) =>
  (bif y3 then
   some (.inr (.ret false))
  else
   some (.inl (w64 (s2 + 1))))
 else
  some (.inr (.go ())))
def Z2M (f:Form):Option (Bool) :=
 (bif ((((((f.Core.length:Int) != f.Count) || (decide (f.Period < 0))) || (decide (f.Period > 1099511627776))) || ((f.Count == 0) && (f.Period != 0))) || ((f.Count != 0) && (f.Period == 0))) then
  some false
 else
  (loopO (Z2M.s0 f) 0).bind fun (y1:Jx (Unit) (Bool)) =>
  y1.elim (fun r' =>
    some r') fun a2 =>
  (loopO (Z2M.s1 f) 0).bind fun (y2:Jx (Unit) (Bool)) =>
  y2.elim (fun r' =>
    some r') fun a4 =>
  some true)
def ZC3 (f:Form):Form :=
 (Form.mk f.Period f.Count f.Core [])
def Z1k.s1 (a:(List Span)) (b:(List Span)) (s1:Int) (s2:Int):Option ((Int) ⊕ (Jx (Unit) (Bool))) :=
 (bif (decide (s2 < (b.length:Int))) then
  (at? a s1).bind fun x1 =>
  (at? b s2).bind fun x2 =>
  (bif (decide (x1.To ≥ x2.From)) then
   some (.inr (.ret false))
  else
   some (.inl (w64 (s2 + 1))))
 else
  some (.inr (.go ())))
def Z1k.s0 (a:(List Span)) (b:(List Span)) (s1:Int):Option ((Int) ⊕ (Jx (Unit) (Bool))) :=
 (bif (decide (s1 < (a.length:Int))) then
  (loopO (Z1k.s1 a b s1) 0).bind fun (y2:Jx (Unit) (Bool)) =>
  y2.elim (fun r' =>
    some (.inr (.ret r'))) fun a3 =>
  some (.inl (w64 (s1 + 1)))
 else
  some (.inr (.go ())))
def Z1k (a:(List Span)) (b:(List Span)):Option (Bool) :=
 (loopO (Z1k.s0 a b) 0).bind fun (y1:Jx (Unit) (Bool)) =>
 y1.elim (fun r' =>
   some r') fun a4 =>
 some true
def Z5G.s0 (f:Form) (s1:Int × (List Span) × Int):Option ((Int × (List Span) × Int) ⊕ (Jx (Int × (List Span)) (Bool))) :=
 (bif (decide (s1.2.2 < (f.Core.length:Int))) then
  (
   (
    (at? f.Core s1.2.2).bind fun x1 =>
    (Z1k s1.2.1 x1).bind fun x2 =>
    (bif (!x2) then
     some (.ret false)
    else
     (bif (decide ((x1.length:Int) > 0)) then
      (bif (decide (s1.1 < 0)) then
       some (.go (s1.2.2,x1))
      else
       some (.go (s1.1,x1)))
     else
      some (.go (s1.1,s1.2.1))))).bind fun (y3:Jx (Int × (List Span)) (Bool)) =>
   y3.elim (fun r' =>
     some (.ret r')) fun a4 =>
   some (.go (a4.1,a4.2))).bind fun (y2:Jx (Int × (List Span)) (Bool)) =>
  y2.elim (fun r' =>
    some (.inr (.ret r'))) fun a5 =>
  some (.inl (a5.1,a5.2,(w64 (s1.2.2 + 1))))
 else
  some (.inr (.go (s1.1,s1.2.1))))
def Z5G (f:Form):Option (Bool) :=
 (loopO (Z5G.s0 f) ((-1),[],0)).bind fun (y1:Jx (Int × (List Span)) (Bool)) =>
 y1.elim (fun r' =>
   some r') fun a6 =>
 (
  (bif (decide (a6.1 < 0)) then
   some true
  else
   (at? a6.2 (w64 ((a6.2.length:Int) - 1))).bind fun x3 =>
   (at? f.Core a6.1).bind fun x4 =>
   (at? x4 0).bind fun x5 =>
   some (decide (x3.To < (w64 (x5.From + f.Period)))))).bind fun (y4:Bool) =>
 some y4
def ZCA (f:Form):Int :=
 (w64 ((w64 (f.Count * (w64 ((f.Odd.length:Int) + 1)))) + 2))
def ZCi (f:Form) (i:Int):Option (Bool) :=
 (Z4F f i).bind fun x1 =>
 some (decide ((x1.1.length:Int) > 0))
def Z0g.s0 (f:Form) (i:Int) (by':Int) (s1:Bool × Int × Int):Option ((Bool × Int × Int) ⊕ (Bool × Int)) :=
 (bif (decide (s1.2.2 < (f.Odd.length:Int))) then
  (
   (
    (at? f.Odd s1.2.2).bind fun x1 =>
    (bif (((decide ((x1.Ticks.length:Int) > 0)) && (decide ((w64 ((w64 (x1.Index - i)) * by')) ≥ 0))) && ((!s1.1) || (decide ((w64 ((w64 (x1.Index - s1.2.1)) * by')) < 0)))) then
     some (true,x1.Index)
    else
     some (s1.1,s1.2.1))).bind fun (y3:Bool × Int) =>
   some (y3.1,y3.2)).bind fun (y2:Bool × Int) =>
  some (.inl (y2.1,y2.2,(w64 (s1.2.2 + 1))))
 else
  some (.inr (s1.1,s1.2.1)))
def Z0g.s1 (f:Form) (i:Int) (by':Int) (s2:Bool × Int × Int):Option ((Bool × Int × Int) ⊕ (Bool × Int)) :=
 (bif (decide (s2.2.2 < (ZCA f))) then
  (
   (
    (bif ((decide ((w64 (i + (w64 (s2.2.2 * by')))) < (-1099511627776))) || (decide ((w64 (i + (w64 (s2.2.2 * by')))) > 1099511627776))) then
     some (.ret ())
    else
     (ZCi f (w64 (i + (w64 (s2.2.2 * by'))))).bind fun x2 =>
     (bif (x2 && ((!s2.1) || (decide ((w64 ((w64 ((w64 (i + (w64 (s2.2.2 * by')))) - s2.2.1)) * by')) < 0)))) then
      some (.go (true,(w64 (i + (w64 (s2.2.2 * by'))))))
     else
      some (.go (s2.1,s2.2.1))))).bind fun (y6:Jx (Bool × Int) (Unit)) =>
   y6.elim (fun a6 =>
     some (.ret ())) fun a5 =>
   some (.go (a5.1,a5.2))).bind fun (y5:Jx (Bool × Int) (Unit)) =>
  y5.elim (fun a8 =>
    some (.inr (s2.1,s2.2.1))) fun a7 =>
  some (.inl (a7.1,a7.2,(w64 (s2.2.2 + 1))))
 else
  some (.inr (s2.1,s2.2.1)))
def Z0g (f:Form) (i:Int) (by':Int):Option (Int × Bool) :=
 (loopO (Z0g.s0 f i by') (false,0,0)).bind fun (y1:Bool × Int) =>
 (loopO (Z0g.s1 f i by') (y1.1,y1.2,0)).bind fun (y4:Bool × Int) =>
 some (y4.2,y4.1)
def Z9m (f:Form) (i:Int):Option (Int × Bool) :=
 (bif (decide (i≤(-1099511627776))) then
  some (0,false)
 else
  (bif (decide (i > 1099511627776)) then
   (Z0g f 1099511627776 (-1)).bind fun x1 =>
   some (x1.1,x1.2)
  else
   (Z0g f (w64 (i - 1)) (-1)).bind fun x2 =>
   some (x2.1,x2.2)))
def Z6N (f:Form) (i:Int):Option (Int × Bool) :=
 (bif (decide (i ≥ 1099511627776)) then
  some (0,false)
 else
  (bif (decide (i < (-1099511627776))) then
   (Z0g f (-1099511627776) 1).bind fun x1 =>
   some (x1.1,x1.2)
  else
   (Z0g f (w64 (i + 1)) 1).bind fun x2 =>
   some (x2.1,x2.2)))
def Z3k.s0 (f:Form) (l:(List Int)) (s1:(List Span) × Int):Option (((List Span) × Int) ⊕ (Jx (Unit) (Bool))) :=
 (bif (decide (s1.2 < (l.length:Int))) then
  (
   (
    (at? l s1.2).bind fun x1 =>
    (Z5j f x1).bind fun x2 =>
    (
     (bif (x2.2 != 0) then
      some true
     else
      (Z1k s1.1 x2.1).bind fun x3 =>
      some (!x3))).bind fun (y4:Bool) =>
    (bif y4 then
     some (.ret false)
    else
     (bif (decide ((x2.1.length:Int) > 0)) then
      some (.go x2.1)
     else
      some (.go s1.1)))).bind fun (y3:Jx ((List Span)) (Bool)) =>
   y3.elim (fun r' =>
     some (.ret r')) fun a4 =>
   some (.go a4)).bind fun (y2:Jx ((List Span)) (Bool)) =>
  y2.elim (fun r' =>
    some (.inr (.ret r'))) fun a5 =>
  some (.inl (a5,(w64 (s1.2 + 1))))
 else
  some (.inr (.go ())))
def Z3k (f:Form) (l:(List Int)):Option (Bool) :=
 (loopO (Z3k.s0 f l) ([],0)).bind fun (y1:Jx (Unit) (Bool)) =>
 y1.elim (fun r' =>
   some r') fun a6 =>
 some true
def Z4f.s0 (f:Form) (s1:Int):Option ((Int) ⊕ (Jx (Unit) (Int))) :=
 (bif (decide (s1 < (f.Odd.length:Int))) then
  (
   (
    (at? f.Odd s1).bind fun x4 =>
    (Z9m f x4.Index).bind fun x5 =>
    (
     (bif x5.2 then
      (app? 8 [] [x5.1]).bind fun x6 =>
      some x6
     else
      some [])).bind fun (y6:(List Int)) =>
    (at? f.Odd s1).bind fun x7 =>
    (app? 8 y6 [x7.Index]).bind fun x8 =>
    (at? f.Odd s1).bind fun x9 =>
    (Z6N f x9.Index).bind fun x10 =>
    (
     (bif x10.2 then
      (app? 8 x8 [x10.1]).bind fun x11 =>
      some x11
     else
      some x8)).bind fun (y7:(List Int)) =>
    (Z3k f y7).bind fun x12 =>
    (bif (!x12) then
     some (.ret 50)
    else
     some (.go ()))).bind fun (y5:Jx (Unit) (Int)) =>
   y5.elim (fun r' =>
     some (.ret r')) fun a4 =>
   some (.go ())).bind fun (y4:Jx (Unit) (Int)) =>
  y4.elim (fun r' =>
    some (.inr (.ret r'))) fun a5 =>
  some (.inl (w64 (s1 + 1)))
 else
  some (.inr (.go ())))
def Z4f (f:Form):Option (Int) :=
 (
  (bif ((decide ((f.Core.length:Int) > 6000)) || (decide ((f.Odd.length:Int) > 6000))) then
   some true
  else
   (Z2h f).bind fun x1 =>
   some (decide (x1 > 60000)))).bind fun (y1:Bool) =>
 (bif y1 then
  some 3
 else
  (Z2M f).bind fun x2 =>
  (
   (bif (!x2) then
    some true
   else
    (Z5G (ZC3 f)).bind fun x3 =>
    some (!x3))).bind fun (y2:Bool) =>
  (bif y2 then
   some 50
  else
   (loopO (Z4f.s0 f) 0).bind fun (y3:Jx (Unit) (Int)) =>
   y3.elim (fun r' =>
     some r') fun a6 =>
   some 0))
def Z7d (f:Form):Option (Form × Int) :=
 (Z4f f).bind fun x1 =>
 (bif (x1 == 3) then
  some ((Form.mk 0 0 [] []),3)
 else
  (bif (x1 != 0) then
   some ((Form.mk 0 0 [] []),20)
  else
   (Z12 f).bind fun x2 =>
   some (x2,0)))
def Z3U.s0 (f:Form) (m:Int) (s2:Int × (List (List Span))):Option ((Int × (List (List Span))) ⊕ (Jx ((List (List Span))) (Form × Int))) :=
 (bif (decide (s2.1 < f.Count)) then
  (Z8K f (w64 (s2.1 - m))).bind fun x1 =>
  (bif (x1.2 != 0) then
   some (.inr (.ret ((Form.mk 0 0 [] []),x1.2)))
  else
   (app? 24 s2.2 [x1.1]).bind fun x2 =>
   some (.inl ((w64 (s2.1 + 1)),x2)))
 else
  some (.inr (.go s2.2)))
def Z3U.s1 (f:Form) (m:Int) (s4:Int × (List Granule)):Option ((Int × (List Granule)) ⊕ (Jx ((List Granule)) (Form × Int))) :=
 (bif (decide (s4.1 < (f.Odd.length:Int))) then
  (at? f.Odd s4.1).bind fun x3 =>
  (bif ((decide ((w64 (x3.Index + m)) < (-1099511627776))) || (decide ((w64 (x3.Index + m)) > 1099511627776))) then
   some (.inr (.ret ((Form.mk 0 0 [] []),20)))
  else
   (at? f.Odd s4.1).bind fun x4 =>
   (app? 32 s4.2 [(Granule.mk (w64 (x3.Index + m)) x4.Ticks)]).bind fun x5 =>
   some (.inl ((w64 (s4.1 + 1)),x5)))
 else
  some (.inr (.go s4.2)))
def Z3U (f:Form) (m:Int):Option (Form × Int) :=
 (bif ((decide (m < (-1099511627776))) || (decide (m > 1099511627776))) then
  some ((Form.mk 0 0 [] []),2)
 else
  (loopO (Z3U.s0 f m) (0,[])).bind fun (y1:Jx ((List (List Span))) (Form × Int)) =>
  y1.elim (fun r' =>
    some r') fun a2 =>
  (loopO (Z3U.s1 f m) (0,[])).bind fun (y2:Jx ((List Granule)) (Form × Int)) =>
  y2.elim (fun r' =>
    some r') fun a4 =>
  (Z7d (Form.mk f.Period f.Count a2 a4)).bind fun x6 =>
  some (x6.1,x6.2))
def Z31.s0 (f:Form) (n:Int) (s2:Int × Bool × (List Granule)):Option ((Int × Bool × (List Granule)) ⊕ (Jx ((List Granule)) (Form × Int))) :=
 (bif (s2.2.1 && (decide (s2.1≤n))) then
  (bif ((s2.2.2.length:Int) == 6000) then
   some (.inr (.ret ((Form.mk 0 0 [] []),3)))
  else
   (app? 32 s2.2.2 [(Granule.mk s2.1 [])]).bind fun x2 =>
   (Z6N f s2.1).bind fun x3 =>
   some (.inl (x3.1,x3.2,x2)))
 else
  some (.inr (.go s2.2.2)))
def Z31.s1 (f:Form) (s3:Int × (List Granule)):Option ((Int × (List Granule)) ⊕ (Jx ((List Granule)) (Form × Int))) :=
 (bif (decide (s3.1 < (s3.2.length:Int))) then
  (at? s3.2 s3.1).bind fun x4 =>
  (Z5j f x4.Index).bind fun x5 =>
  (bif (x5.2 != 0) then
   some (.inr (.ret ((Form.mk 0 0 [] []),20)))
  else
   (at? s3.2 s3.1).bind fun x6 =>
   some (.inl ((w64 (s3.1 + 1)),(s3.2.set (s3.1).toNat (Granule.mk x6.Index x5.1)))))
 else
  some (.inr (.go s3.2)))
def Z31 (f:Form) (m:Int) (n:Int):Option (Form × Int) :=
 (bif (((decide (m < (-1099511627776))) || (decide (n > 1099511627776))) || (decide (m > n))) then
  some ((Form.mk 0 0 [] []),2)
 else
  (Z0g f m 1).bind fun x1 =>
  (loopO (Z31.s0 f n) (x1.1,x1.2,[])).bind fun (y1:Jx ((List Granule)) (Form × Int)) =>
  y1.elim (fun r' =>
    some r') fun a2 =>
  (loopO (Z31.s1 f) (0,a2)).bind fun (y2:Jx ((List Granule)) (Form × Int)) =>
  y2.elim (fun r' =>
    some r') fun a4 =>
  (Z7d (Form.mk 0 0 [] a4)).bind fun x7 =>
  some (x7.1,x7.2))
def Z11 (l:(List Span)) (in':Bool):Option (Int) :=
 (bif in' then
  (at? l 0).bind fun x1 =>
  some (w64 (x1.To + 1))
 else
  (at? l 0).bind fun x2 =>
  some x2.From)
def ZCL (l:(List Span)) (in':Bool) (at':Int):Option ((List Span) × Bool) :=
 (
  (bif ((decide ((l.length:Int) > 0)) && in') then
   (at? l 0).bind fun x1 =>
   some ((w64 (x1.To + 1)) == at')
  else
   some false)).bind fun (y1:Bool) =>
 (bif y1 then
  (cut? l 1 (l.length:Int)).bind fun x2 =>
  some (x2,false)
 else
  (
   (bif ((decide ((l.length:Int) > 0)) && (!in')) then
    (at? l 0).bind fun x3 =>
    some (x3.From == at')
   else
    some false)).bind fun (y2:Bool) =>
  (bif y2 then
   some (l,true)
  else
   some (l,in')))
def Z3e.s0 {S:Type} (gp1':S→(List Span)) (pp1':S→(List Span)→S) (gp2':S→(List Span)) (pp2':S→(List Span)→S) (yield:S→spans_border→Option (S × Bool)) (s1:Bool × Bool × S):Option ((Bool × Bool × S) ⊕ (Jx (S) (S))) :=
 (bif (decide ((w64 (((gp1' s1.2.2).length:Int) + ((gp2' s1.2.2).length:Int))) > 0)) then
  (
   (
    (
     (bif (((gp1' s1.2.2).length:Int) == 0) then
      (Z11 (gp2' s1.2.2) s1.2.1).bind fun x1 =>
      some x1
     else
      (bif (((gp2' s1.2.2).length:Int) == 0) then
       (Z11 (gp1' s1.2.2) s1.1).bind fun x2 =>
       some x2
      else
       (Z11 (gp1' s1.2.2) s1.1).bind fun x3 =>
       (Z11 (gp2' s1.2.2) s1.2.1).bind fun x4 =>
       some (iMin x3 x4)))).bind fun (y4:Int) =>
    some y4).bind fun (y3:Int) =>
   (ZCL (gp1' s1.2.2) s1.1 y3).bind fun x5 =>
   (ZCL (gp2' (pp1' s1.2.2 x5.1)) s1.2.1 y3).bind fun x6 =>
   (yield (pp2' (pp1' s1.2.2 x5.1) x6.1) (spans_border.mk y3 x5.2 x6.2)).bind fun x7 =>
   (bif (!x7.2) then
    some (.ret x7.1)
   else
    some (.go (x5.2,x6.2,x7.1)))).bind fun (y2:Jx (Bool × Bool × S) (S)) =>
  y2.elim (fun r' =>
    some (.inr (.ret r'))) fun a3 =>
  some (.inl (a3.1,a3.2.1,a3.2.2))
 else
  some (.inr (.go s1.2.2)))
def Z3e {S:Type} (gp1':S→(List Span)) (pp1':S→(List Span)→S) (gp2':S→(List Span)) (pp2':S→(List Span)→S) (yield:S→spans_border→Option (S × Bool)) (st':S):Option (S) :=
 (loopO (Z3e.s0 gp1' pp1' gp2' pp2' yield) (false,false,st')).bind fun (y1:Jx (S) (S)) =>
 y1.elim (fun r' =>
   some r') fun a4 =>
 some a4
def Z78.b0 (yes:Bool→Bool→Option Bool) (s2:(List Span) × (List Span) × (List Span) × Int × Bool) (z2:spans_border):Option (((List Span) × (List Span) × (List Span) × Int × Bool) × Nat) :=
 (
  (
   (yes z2.a z2.b).bind fun x1 =>
   (
    (
     (bif (x1 && (!s2.2.2.2.2)) then
      some (s2.1,z2.at')
     else
      (bif ((!x1) && s2.2.2.2.2) then
       (app? 16 s2.1 [(Span.mk s2.2.2.2.1 (w64 (z2.at' - 1)))]).bind fun x2 =>
       some (x2,s2.2.2.2.1)
      else
       some (s2.1,s2.2.2.2.1)))).bind fun (y6:(List Span) × Int) =>
    some (y6.1,y6.2)).bind fun (y5:(List Span) × Int) =>
   some (y5.1,y5.2,x1)).bind fun (y4:(List Span) × Int × Bool) =>
  some (y4.1,y4.2.1,y4.2.2)).bind fun (y3:(List Span) × Int × Bool) =>
 some ((y3.1,s2.2.1,s2.2.2.1,y3.2.1,y3.2.2),0)
def Z78 (a:(List Span)) (b:(List Span)) (yes:Bool→Bool→Option Bool):Option ((List Span)) :=
 (
  some ()).bind fun (y1:Unit) =>
 (Z3e (fun s => s.1.2.2.1) (fun s v => ((s.1.1,s.1.2.1,v,s.1.2.2.2.1,s.1.2.2.2.2),s.2)) (fun s => s.1.2.1) (fun s v => ((s.1.1,v,s.1.2.2.1,s.1.2.2.2.1,s.1.2.2.2.2),s.2)) (Z1J (Z78.b0 yes)) (([],b,a,0,false),0)).bind fun (y2:((List Span) × (List Span) × (List Span) × Int × Bool) × Nat) =>
 some y2.1.1
def Z8p (a:Bool) (b:Bool):Bool :=
 (a || b)
def spans_Union (a:(List Span)) (b:(List Span)):Option ((List Span)) :=
 (Z78 a b (fun z0 z1 => some (Z8p z0 z1))).bind fun x1 =>
 some x1
def Z1n (f:Form):Option (Bool) :=
 (Z19 f).bind fun x1 =>
 some (x1 && (decide (f.Period≤300)))
def Z0S.s0 (f:Form) (s1:Int):Option ((Int) ⊕ (Jx (Unit) (Bool))) :=
 (bif (decide (s1 < (f.Core.length:Int))) then
  (at? f.Core s1).bind fun x1 =>
  (bif ((x1.length:Int) == 0) then
   some (.inr (.ret false))
  else
   some (.inl (w64 (s1 + 1))))
 else
  some (.inr (.go ())))
def Z0S (f:Form):Option (Bool) :=
 (loopO (Z0S.s0 f) 0).bind fun (y1:Jx (Unit) (Bool)) =>
 y1.elim (fun r' =>
   some r') fun a2 =>
 some ((decide (f.Count > 0)) && ((f.Odd.length:Int) == 0))
def Z3q (fine:Form) (coarse:Form):Option (Int × Int × Int) :=
 (Z3X fine.Period coarse.Period).bind fun x1 =>
 (bif (x1.2 != 0) then
  some (0,0,3)
 else
  (nz? coarse.Period).bind fun u1 =>
  (nz? fine.Period).bind fun u2 =>
  (bif ((((((Z7 coarse.Count (w64 (x1.1.tdiv coarse.Period))).2) != 0) || (((Z7 fine.Count (w64 (x1.1.tdiv fine.Period))).2) != 0)) || (decide (((Z7 coarse.Count (w64 (x1.1.tdiv coarse.Period))).1) > 6000))) || (decide (((Z7 fine.Count (w64 (x1.1.tdiv fine.Period))).1) > 60000))) then
   some (0,0,3)
  else
   some ((Z7 coarse.Count (w64 (x1.1.tdiv coarse.Period))).1,(Z7 fine.Count (w64 (x1.1.tdiv fine.Period))).1,0)))
def Z0D.s0 {S:Type} (p1':Int) (p2':Form) (p3':Form) (yield:S→((List Span) × Int)→Option (S × Bool)) (s1:Int × S):Option ((Int × S) ⊕ (Jx (S) (S))) :=
 (bif (decide (s1.1 < p1')) then
  (Z0k p2' s1.1).bind fun x1 =>
  (at? x1.1 0).bind fun x2 =>
  (Z4l p3' x2.From).bind fun x3 =>
  (
   (bif (!x3.2) then
    some (true,s1.2)
   else
    (yield s1.2 (x1.1,x3.1)).bind fun x4 =>
    some ((!x4.2),x4.1))).bind fun (y2:Bool × S) =>
  (bif y2.1 then
   some (.inr (.ret y2.2))
  else
   some (.inl ((w64 (s1.1 + 1)),y2.2)))
 else
  some (.inr (.go s1.2)))
def Z0D {S:Type} (p1':Int) (p2':Form) (p3':Form) (yield:S→((List Span) × Int)→Option (S × Bool)) (st':S):Option (S) :=
 (loopO (Z0D.s0 p1' p2' p3' yield) (0,st')).bind fun (y1:Jx (S) (S)) =>
 y1.elim (fun r' =>
   some r') fun a2 =>
 some a2
def Zo.s0 (f:Form) (to':Int) (s2:Int × (List Span)):Option ((Int × (List Span)) ⊕ (Jx ((List Span)) ((List Span) × Int))) :=
 (bif (decide (s2.1 < to')) then
  (
   (
    (Z0k f s2.1).bind fun x1 =>
    (bif (x1.2 != 0) then
     some (.ret ([],20))
    else
     (
      (
       (bif (decide ((w64 ((s2.2.length:Int) - 1)) ≥ 0)) then
        (at? x1.1 0).bind fun x2 =>
        (at? s2.2 (w64 ((s2.2.length:Int) - 1))).bind fun x3 =>
        some (x2.From == (w64 (x3.To + 1)))
       else
        some false)).bind fun (y5:Bool) =>
      (bif y5 then
       (at? x1.1 0).bind fun x4 =>
       (at? s2.2 (w64 ((s2.2.length:Int) - 1))).bind fun x5 =>
       (cut? x1.1 1 (x1.1.length:Int)).bind fun x6 =>
       some (x6,(s2.2.set ((w64 ((s2.2.length:Int) - 1))).toNat (Span.mk x5.From x4.To)))
      else
       some (x1.1,s2.2))).bind fun (y4:(List Span) × (List Span)) =>
     (app? 16 y4.2 y4.1).bind fun x7 =>
     some (.go x7))).bind fun (y3:Jx ((List Span)) ((List Span) × Int)) =>
   y3.elim (fun r' =>
     some (.ret r')) fun a4 =>
   some (.go a4)).bind fun (y2:Jx ((List Span)) ((List Span) × Int)) =>
  y2.elim (fun r' =>
    some (.inr (.ret r'))) fun a5 =>
  some (.inl ((w64 (s2.1 + 1)),a5))
 else
  some (.inr (.go s2.2)))
def Zo (f:Form) (from':Int) (to':Int):Option ((List Span) × Int) :=
 (loopO (Zo.s0 f to') (from',[])).bind fun (y1:Jx ((List Span)) ((List Span) × Int)) =>
 y1.elim (fun r' =>
   some r') fun a6 =>
 some (a6,0)
def ZL.s0 (coarse:Form) (x3:Int × Int × Int) (s1:Int):Option ((Int) ⊕ (Jx (Unit) ((List Int) × Int × Int))) :=
 (bif (decide (s1 < (w64 (x3.1 + 1)))) then
  (Z0k coarse s1).bind fun x4 =>
  (bif (x4.2 != 0) then
   some (.inr (.ret ([],0,20)))
  else
   some (.inl (w64 (s1 + 1))))
 else
  some (.inr (.go ())))
def ZL.b1 (s4:(List (List Span)) × (List Int)) (z3:(List Span) × Int):Option (((List (List Span)) × (List Int)) × Nat) :=
 (app? 24 s4.1 [z3.1]).bind fun x5 =>
 (app? 8 s4.2 [z3.2]).bind fun x6 =>
 some ((x5,x6),0)
def ZL.s2 (fine:Form) (y4:((List (List Span)) × (List Int)) × Nat) (x10:(List (List Span))) (s5:Int):Option ((Int) ⊕ (Jx (Unit) ((List Int) × Int × Int))) :=
 (bif (decide (s5 < (x10.length:Int))) then
  (at? x10 s5).bind fun x11 =>
  (at? y4.1.2 s5).bind fun x12 =>
  (at? y4.1.2 (w64 (s5 + 1))).bind fun x13 =>
  (Zo fine x12 x13).bind fun x14 =>
  (Z0j x14.1 x11).bind fun x15 =>
  (bif (!x15) then
   some (.inr (.ret ([],0,51)))
  else
   some (.inl (w64 (s5 + 1))))
 else
  some (.inr (.go ())))
def ZL (fine:Form) (coarse:Form):Option ((List Int) × Int × Int) :=
 (Z0S fine).bind fun x1 =>
 (
  (bif (!x1) then
   some true
  else
   (Z0S coarse).bind fun x2 =>
   some (!x2))).bind fun (y1:Bool) =>
 (bif y1 then
  some ([],0,51)
 else
  (Z3q fine coarse).bind fun x3 =>
  (bif (x3.2.2 != 0) then
   some ([],0,x3.2.2)
  else
   (loopO (ZL.s0 coarse x3) 0).bind fun (y2:Jx (Unit) ((List Int) × Int × Int)) =>
   y2.elim (fun r' =>
     some r') fun a2 =>
   (
    some (w64 (x3.1 + 1))).bind fun (y3:Int) =>
   (Z0D y3 coarse fine (Z1J ZL.b1) (([],[]),0)).bind fun (y4:((List (List Span)) × (List Int)) × Nat) =>
   (bif (decide ((y4.1.2.length:Int)≤x3.1)) then
    some ([],0,51)
   else
    (at? y4.1.2 0).bind fun x7 =>
    (at? y4.1.2 x3.1).bind fun x8 =>
    (Zo fine x7 x8).bind fun x9 =>
    (bif (x9.2 != 0) then
     some ([],0,x9.2)
    else
     (some? y4.1.1).bind fun u1 =>
     (cut? y4.1.1 0 x3.1).bind fun x10 =>
     (loopO (ZL.s2 fine y4 x10) 0).bind fun (y5:Jx (Unit) ((List Int) × Int × Int)) =>
     y5.elim (fun r' =>
       some r') fun a4 =>
     (some? y4.1.2).bind fun u2 =>
     (cut? y4.1.2 0 x3.1).bind fun x16 =>
     some (x16,x3.2.1,0)))))
def Zt (i:Int) (p1':Int) (p2':Int) (p3':Int) (p4':(List Int)) (p5':Int) (p6':Int):Option (Int) :=
 (Z0A i p1').bind fun x1 =>
 (Z0A (w64 ((w64 (i - 1)) - p2')) p3').bind fun x2 =>
 (at? p4' x1.2.1).bind fun x3 =>
 some (w64 ((w64 (x3 + (w64 (x1.1 * p5')))) + (w64 (p6' * (w64 (x2.1 + 1))))))
def Zb.s0 (k:Int) (l:Int) (m:Int) (x1:(List Int) × Int × Int) (y1:Int × Int) (s1:Int):Option ((Int) ⊕ (Jx (Unit) (Form × Int))) :=
 (bif (decide (s1 < y1.1)) then
  (Zt (w64 (s1 + 1)) (x1.1.length:Int) l m x1.1 x1.2.1 k).bind fun x5 =>
  (Zt s1 (x1.1.length:Int) l m x1.1 x1.2.1 k).bind fun x6 =>
  (bif (decide (x5≤x6)) then
   some (.inr (.ret ((Form.mk 0 0 [] []),51)))
  else
   some (.inl (w64 (s1 + 1))))
 else
  some (.inr (.go ())))
def Zb.s1 (fine:Form) (k:Int) (l:Int) (m:Int) (x1:(List Int) × Int × Int) (y1:Int × Int) (x7:Int × Int) (s3:Int × (List (List Span))):Option ((Int × (List (List Span))) ⊕ (Jx ((List (List Span)) × Int × Int) (Form × Int))) :=
 (bif (decide (s3.1 < (w64 (y1.1 * (w64 (fine.Count.tdiv x7.1)))))) then
  (Zt s3.1 (x1.1.length:Int) l m x1.1 x1.2.1 k).bind fun x8 =>
  (Zt (w64 (s3.1 + 1)) (x1.1.length:Int) l m x1.1 x1.2.1 k).bind fun x9 =>
  (Zo fine x8 x9).bind fun x10 =>
  (bif (x10.2 != 0) then
   some (.inr (.ret ((Form.mk 0 0 [] []),x10.2)))
  else
   (app? 24 s3.2 [x10.1]).bind fun x11 =>
   some (.inl ((w64 (s3.1 + 1)),x11)))
 else
  some (.inr (.go (s3.2,(Z7 (w64 ((w64 (y1.2 * (w64 (fine.Count.tdiv x7.1)))).tdiv fine.Count)) fine.Period).1,(w64 (y1.1 * (w64 (fine.Count.tdiv x7.1))))))))
def Zb (fine:Form) (coarse:Form) (k:Int) (l:Int) (m:Int):Option (Form × Int) :=
 (bif ((((((decide (m < 1)) || (decide (m > 6000))) || (decide (l < 0))) || (decide (l ≥ m))) || (decide (k < (-6000)))) || (decide (k > 6000))) then
  some ((Form.mk 0 0 [] []),2)
 else
  (ZL fine coarse).bind fun x1 =>
  (bif (x1.2.2 != 0) then
   some ((Form.mk 0 0 [] []),x1.2.2)
  else
   (
    (Z3X (x1.1.length:Int) m).bind fun x2 =>
    (Zt x2.1 (x1.1.length:Int) l m x1.1 x1.2.1 k).bind fun x3 =>
    (Zt 0 (x1.1.length:Int) l m x1.1 x1.2.1 k).bind fun x4 =>
    some (x2.1,(w64 (x3 - x4)))).bind fun (y1:Int × Int) =>
   (bif (decide (y1.1 > 6000)) then
    some ((Form.mk 0 0 [] []),3)
   else
    (loopO (Zb.s0 k l m x1 y1) 0).bind fun (y2:Jx (Unit) (Form × Int)) =>
    y2.elim (fun r' =>
      some r') fun a2 =>
    (Z5b fine.Count y1.2).bind fun x7 =>
    (nz? x7.1).bind fun u1 =>
    (bif ((decide ((w64 (y1.1 * (w64 (fine.Count.tdiv x7.1)))) > 6000)) || (decide ((w64 (y1.2 * (w64 (fine.Count.tdiv x7.1)))) > 60000))) then
     some ((Form.mk 0 0 [] []),3)
    else
     (nz? fine.Count).bind fun u2 =>
     (bif ((((Z7 (w64 ((w64 (y1.2 * (w64 (fine.Count.tdiv x7.1)))).tdiv fine.Count)) fine.Period).2) != 0) || (decide (((Z7 (w64 ((w64 (y1.2 * (w64 (fine.Count.tdiv x7.1)))).tdiv fine.Count)) fine.Period).1) > 1099511627776))) then
      some ((Form.mk 0 0 [] []),20)
     else
      (loopO (Zb.s1 fine k l m x1 y1 x7) (0,[])).bind fun (y3:Jx ((List (List Span)) × Int × Int) (Form × Int)) =>
      y3.elim (fun r' =>
        some r') fun a4 =>
      (Z1c (Form.mk a4.2.1 a4.2.2 a4.1 [])).bind fun x12 =>
      some (x12.1,x12.2))))))
def Z0h.s0 (a:(List Int)) (b:(List Int)) (s1:Int):Option ((Int) ⊕ (Jx (Unit) (Bool))) :=
 (bif (decide (s1 < (a.length:Int))) then
  (at? a s1).bind fun x1 =>
  (at? b s1).bind fun x2 =>
  (bif (x1 != x2) then
   some (.inr (.ret false))
  else
   some (.inl (w64 (s1 + 1))))
 else
  some (.inr (.go ())))
def Z0h (a:(List Int)) (b:(List Int)):Option (Bool) :=
 (bif ((a.length:Int) != (b.length:Int)) then
  some false
 else
  (loopO (Z0h.s0 a b) 0).bind fun (y1:Jx (Unit) (Bool)) =>
  y1.elim (fun r' =>
    some r') fun a2 =>
  some true)
def Z0G.s0 (x3:Form × Int) (s1:Int):Option ((Int) ⊕ (Jx (Unit) (Bool))) :=
 (bif (decide (s1 < ([(Span.mk 0 7),(Span.mk 8 14),(Span.mk 15 21),(Span.mk 22 28)].length:Int))) then
  (at? [(Span.mk 0 7),(Span.mk 8 14),(Span.mk 15 21),(Span.mk 22 28)] s1).bind fun x8 =>
  (Z01 x3.1 s1).bind fun x9 =>
  (
   (bif (x9.2 != 0) then
    some true
   else
    (Zh x9.1 [x8]).bind fun x10 =>
    some (!x10))).bind fun (y3:Bool) =>
  (bif y3 then
   some (.inr (.ret false))
  else
   some (.inl (w64 (s1 + 1))))
 else
  some (.inr (.go ())))
def Z0G:Option (Bool) :=
 (Za Z9 7).bind fun x1 =>
 (ZL Z9 x1.1).bind fun x2 =>
 (Zb Z9 x1.1 1 0 4).bind fun x3 =>
 (Zb Z9 x1.1 (-7) 0 4).bind fun x4 =>
 (ZL Z9 Z3N).bind fun x5 =>
 (Zb Z9 x1.1 1 4 4).bind fun x6 =>
 (
  (bif (((((((x1.2 != 0) || (x2.2.2 != 0)) || (x3.2 != 0)) || (x4.2 != 51)) || (x5.2.2 != 51)) || (x6.2 != 2)) || (x2.2.1 != 7)) then
   some true
  else
   (Z0h x2.1 [0]).bind fun x7 =>
   some (!x7))).bind fun (y1:Bool) =>
 (bif ((y1 || (x3.1.Period != 29)) || (x3.1.Count != 4)) then
  some false
 else
  (loopO (Z0G.s0 x3) 0).bind fun (y2:Jx (Unit) (Bool)) =>
  y2.elim (fun r' =>
    some r') fun a2 =>
  some true)
def Zm:Bool:=true
def Z1p.s1 (x3:Form) (s2:Bool × Int):Option ((Bool × Int) ⊕ (Bool)) :=
 (bif (decide (s2.2 < (x3.Core.length:Int))) then
  (at? x3.Core s2.2).bind fun x4 =>
  some (.inl ((s2.1 && (decide ((x4.length:Int) > 0))),(w64 (s2.2 + 1))))
 else
  some (.inr s2.1))
def Z1p.s0 (f:Form) (g:Form) (s1:Bool × Int):Option ((Bool × Int) ⊕ (Bool)) :=
 (bif (decide (s1.2 < ([f,g].length:Int))) then
  (at? [f,g] s1.2).bind fun x3 =>
  (loopO (Z1p.s1 x3) (((s1.1 && (decide (x3.Count > 0))) && ((x3.Odd.length:Int) == 0)),0)).bind fun (y3:Bool) =>
  some (.inl (y3,(w64 (s1.2 + 1))))
 else
  some (.inr s1.1))
def Z1p (f:Form) (g:Form) (m:Int) (more:Int):Option (Bool) :=
 (Z1n f).bind fun x1 =>
 (
  (bif (!x1) then
   some true
  else
   (Z1n g).bind fun x2 =>
   some (!x2))).bind fun (y1:Bool) =>
 (bif y1 then
  some Zm
 else
  (loopO (Z1p.s0 f g) (true,0)).bind fun (y2:Bool) =>
  (ZL f g).bind fun x5 =>
  (Zb f g 1 0 2).bind fun x6 =>
  (bif ((!y2) && ((x5.2.2 != 51) || (x6.2 != 51))) then
   some false
  else
   (Za Z9 (w64 (1 + (w64 (m.tmod 20))))).bind fun x7 =>
   (Zb Z9 x7.1 (w64 ((w64 (0 - (w64 (1 + (w64 (m.tmod 20)))))) - (w64 more))) 1 3).bind fun x8 =>
   (Zb Z9 x7.1 (w64 (1 - (w64 (1 + (w64 (m.tmod 20)))))) 1 3).bind fun x9 =>
   some ((((x7.2 == 0) && (x8.2 == 51)) && (x9.2 == 0)) && Zm)))
def Z08.s0 (f:Form) (s1:Int):Option ((Int) ⊕ (Jx (Unit) (Form × Form × Bool))) :=
 (bif (decide (s1 < (f.Core.length:Int))) then
  (at? f.Core s1).bind fun x2 =>
  (
   (bif ((x2.length:Int) == 0) then
    some true
   else
    (at? x2 0).bind fun x3 =>
    some (decide (x3.From < (-1073741824))))).bind fun (y2:Bool) =>
  (
   (bif y2 then
    some true
   else
    (at? x2 (w64 ((x2.length:Int) - 1))).bind fun x4 =>
    some (decide (x4.To > 1073741824)))).bind fun (y3:Bool) =>
  (bif y3 then
   some (.inr (.ret (f,f,false)))
  else
   some (.inl (w64 (s1 + 1))))
 else
  some (.inr (.go ())))
def Z08 (f:Form) (m:Int):Option (Form × Form × Bool) :=
 (Z1n f).bind fun x1 =>
 (bif (((!x1) || (f.Count == 0)) || (decide ((f.Odd.length:Int) > 0))) then
  some (f,f,false)
 else
  (loopO (Z08.s0 f) 0).bind fun (y1:Jx (Unit) (Form × Form × Bool)) =>
  y1.elim (fun r' =>
    some r') fun a2 =>
  (Za f (w64 (1 + (w64 (m.tmod 9))))).bind fun x5 =>
  some (f,x5.1,(x5.2 == 0)))
def Z4O.s0 (g:Int) (by':Int) (x3:(List Int) × Int × Int) (s1:Int):Option ((Int) ⊕ (Jx (Unit) (Bool))) :=
 (bif (decide (s1 < (x3.1.length:Int))) then
  (at? x3.1 s1).bind fun x4 =>
  (
   (bif (decide (s1 > 0)) then
    (at? x3.1 (w64 (s1 - 1))).bind fun x5 =>
    some (x4 != (w64 (x5 + (w64 (1 + (w64 (g.tmod 9)))))))
   else
    some false)).bind fun (y2:Bool) =>
  (bif (y2 || (x4 != (w64 ((w64 (s1 - (w64 (by'.tmod 20)))) * (w64 (1 + (w64 (g.tmod 9)))))))) then
   some (.inr (.ret false))
  else
   some (.inl (w64 (s1 + 1))))
 else
  some (.inr (.go ())))
def Z4O (f:Form) (g:Int) (by':Int):Option (Bool) :=
 (Z08 f g).bind fun x1 =>
 (bif (!x1.2.2) then
  some Zm
 else
  (Z1W x1.2.1 (w64 (by'.tmod 20))).bind fun x2 =>
  (bif (x2.2 != 0) then
   some Zm
  else
   (ZL x1.1 x2.1).bind fun x3 =>
   (bif (x3.2.2 != 0) then
    some (((x3.2.2 == 3) || (x3.2.2 == 20)) && Zm)
   else
    (bif (((x3.1.length:Int) == 0) || (x3.2.1 != (w64 ((w64 (1 + (w64 (g.tmod 9)))) * (x3.1.length:Int))))) then
     some false
    else
     (loopO (Z4O.s0 g by' x3) 0).bind fun (y1:Jx (Unit) (Bool)) =>
     y1.elim (fun r' =>
       some r') fun a2 =>
     (ZL Z9 (Form.mk 2 Z9.Count Z9.Core Z9.Odd)).bind fun x6 =>
     some ((x6.2.2 == 51) && Zm)))))
def Z1v (f:Form) (g:Int) (k:Int) (n:Int) (l:Int) (m:Int):Option (Bool) :=
 (Z08 f g).bind fun x1 =>
 (bif (!x1.2.2) then
  some Zm
 else
  (nz? (w64 (1 + (w64 (m.tmod 12))))).bind fun u1 =>
  (Zb x1.1 x1.2.1 0 ((w64 l).tmod (w64 (1 + (w64 (m.tmod 12))))) (w64 (1 + (w64 (m.tmod 12))))).bind fun x2 =>
  (bif (x2.2 != 0) then
   some (((x2.2 == 3) || (x2.2 == 20)) && Zm)
  else
   (ZT x1.2.1).bind fun x3 =>
   (Z3 x2.1 x3).bind fun x4 =>
   (bif (!x4) then
    some false
   else
    (Zb x1.1 x1.2.1 (w64 (k.tmod 10)) ((w64 l).tmod (w64 (1 + (w64 (m.tmod 12))))) (w64 (1 + (w64 (m.tmod 12))))).bind fun x5 =>
    (bif (x5.2 != 0) then
     some (((x5.2 == 3) || (x5.2 == 20)) && Zm)
    else
     (Zb x1.1 x5.1 (w64 (0 - (w64 (k.tmod 10)))) ((w64 l).tmod (w64 (1 + (w64 (m.tmod 12))))) (w64 (1 + (w64 (m.tmod 12))))).bind fun x6 =>
     (
      (bif (x6.2 == 0) then
       (Z3 x6.1 x2.1).bind fun x7 =>
       some (!x7)
      else
       some false)).bind fun (y1:Bool) =>
     (bif (y1 || (((x6.2 != 0) && (x6.2 != 3)) && (x6.2 != 20))) then
      some false
     else
      (Zb x1.1 x5.1 (w64 (n.tmod 10)) ((w64 l).tmod (w64 (1 + (w64 (m.tmod 12))))) (w64 (1 + (w64 (m.tmod 12))))).bind fun x8 =>
      (Zb x1.1 x1.2.1 (w64 ((w64 (k.tmod 10)) + (w64 (n.tmod 10)))) ((w64 l).tmod (w64 (1 + (w64 (m.tmod 12))))) (w64 (1 + (w64 (m.tmod 12))))).bind fun x9 =>
      (
       (bif ((x8.2 != 0) || (x9.2 != 0)) then
        some true
       else
        (Z3 x8.1 x9.1).bind fun x10 =>
        some x10)).bind fun (y2:Bool) =>
      some (y2 && Zm))))))
end
end Go.Dn

namespace Go.Dn
open Go
noncomputable section
def Le {α:Type} (a b:Option α):Prop:=∀ r,a = some r→b = some r
theorem Le.refl {α:Type} (a:Option α):Le a a:=fun _ h => h
theorem Le.bind {α β:Type} {a b:Option α} {f g:α→Option β} (h:Le a b) (hf:∀ x,Le (f x) (g x)):Le (a.bind f) (b.bind g):=fun r hr => by
 cases ha:a with
 | none => rw [ha] at hr;cases hr
 | some x => rw [ha] at hr;rw [h x ha];exact hf x r hr
theorem Le.cond {α:Type} {c:Bool} {a b a' b':Option α} (h:Le a a') (h':Le b b'):Le (bif c then a else b) (bif c then a' else b'):=by
 cases c
 ·exact h'
 ·exact h
theorem Le.elim {A B C:Type} {y:Jx A B} {f f':B→Option C} {g g':A→Option C} (h:∀ r,Le (f r) (f' r)) (h':∀ a,Le (g a) (g' a)):Le (y.elim f g) (y.elim f' g'):=by
 cases y
 ·exact h' _
 ·exact h _
theorem Le.Z1J {S T:Type} {f g:S→T→Option (S × Nat)} (h:∀ s t,Le (f s t) (g s t)) (s:S × Nat) (t:T):Le (Z1J f s t) (Z1J g s t):=fun r hr => by
 unfold Go.Dn.Z1J at hr ⊢
 split at hr
 ·rename_i h0;rw [if_pos h0];cases ha:f s.1 t with
  | none => rw [ha] at hr;cases hr
  | some x => rw [ha] at hr;rw [h _ _ x ha];exact hr
 ·cases hr
def Z0y {S R:Type} (step:S→Option (S ⊕ R)) (s:S):Option R:=Z4N step 1000000 s
theorem iterO_le {S R:Type} {step step':S→Option (S ⊕ R)} (h:∀ s,Le (step s) (step' s)):∀ (n:Nat) (s:S),Le (Z4N step n s) (Z4N step' n s)
 | 0,s => fun r hr => by cases hr
 | n + 1,s => fun r hr => by
  simp only [Z4N] at hr ⊢;cases hs:step s with
  | none => rw [hs] at hr;cases hr
  | some x =>
   rw [hs] at hr;rw [h s x hs];cases x with
   | inl s' => exact iterO_le h n s' r hr
   | inr r' => exact hr
theorem Le.loop {S R:Type} {step step':S→Option (S ⊕ R)} {s:S} (h:∀ s,Le (step s) (step' s)):Le (Z0y step s) (loopO step' s):=fun r hr => ZR.2 ⟨1000000,iterO_le h _ s r hr⟩
def Z7A (f:Form):Option (Int) :=
 (Z0y (Z04.s0 f) (0,0)).bind fun (y1:Int) =>
 (Z0y (Z04.s1 f) (y1,0)).bind fun (y2:Int) =>
 some y2
theorem ZCf {f:Form}:Le (Z7A f) (Z04 f):=by
 unfold Z7A Z04
 repeat' (with_reducible (first | exact Le.refl _ | apply Le.bind | apply Le.loop | intro _))
def Z4G (l:(List Span)):Option (Bool) :=
 (Z0y (Z06.s0 l) 0).bind fun (y1:Jx (Unit) (Bool)) =>
 y1.elim (fun r' =>
   some r') fun a2 =>
 some true
theorem Z6p {l:(List Span)}:Le (Z4G l) (Z06 l):=by
 unfold Z4G Z06
 repeat' (with_reducible (first | exact Le.refl _ | apply Le.bind | apply Le.elim | apply Le.loop | intro _))
def Z0e.s0 (f:Form) (s1:Int):Option ((Int) ⊕ (Jx (Unit) (Bool))) :=
 (bif (decide (s1 < (f.Core.length:Int))) then
  (at? f.Core s1).bind fun x1 =>
  (Z4G x1).bind fun x2 =>
  (bif (!x2) then
   some (.inr (.ret false))
  else
   some (.inl (w64 (s1 + 1))))
 else
  some (.inr (.go ())))
theorem Z9Z {f:Form} {s1:Int}:Le (Z0e.s0 f s1) (Zi.s0 f s1):=by
 unfold Z0e.s0 Zi.s0
 repeat' (with_reducible (first | exact Le.refl _ | apply Le.bind | apply Le.cond | apply Z6p | intro _))
def Z0e.s1 (f:Form) (s2:Int):Option ((Int) ⊕ (Jx (Unit) (Bool))) :=
 (bif (decide (s2 < (f.Odd.length:Int))) then
  (at? f.Odd s2).bind fun x3 =>
  (Z4G x3.Ticks).bind fun x4 =>
  (
   (bif ((!x4) || (!(Z0x x3.Index))) then
    some true
   else
    (
     (bif (decide (s2 > 0)) then
      (at? f.Odd (w64 (s2 - 1))).bind fun x5 =>
      some (decide (x3.Index≤x5.Index))
     else
      some false)).bind fun (y4:Bool) =>
    some y4)).bind fun (y3:Bool) =>
  (bif y3 then
   some (.inr (.ret false))
  else
   some (.inl (w64 (s2 + 1))))
 else
  some (.inr (.go ())))
theorem Z9X {f:Form} {s2:Int}:Le (Z0e.s1 f s2) (Zi.s1 f s2):=by
 unfold Z0e.s1 Zi.s1
 repeat' (with_reducible (first | exact Le.refl _ | apply Le.bind | apply Le.cond | apply Z6p | intro _))
def Z0e (f:Form):Option (Bool) :=
 (bif ((((f.Count != (f.Core.length:Int)) || ((f.Count == 0) != (f.Period == 0))) || (decide (f.Period < 0))) || (decide (f.Period > 1099511627776))) then
  some false
 else
  (Z0y (Z0e.s0 f) 0).bind fun (y1:Jx (Unit) (Bool)) =>
  y1.elim (fun r' =>
    some r') fun a2 =>
  (Z0y (Z0e.s1 f) 0).bind fun (y2:Jx (Unit) (Bool)) =>
  y2.elim (fun r' =>
    some r') fun a4 =>
  some true)
theorem ZBt {f:Form}:Le (Z0e f) (Zi f):=by
 unfold Z0e Zi
 repeat' (with_reducible (first | exact Le.refl _ | apply Le.bind | apply Le.cond | apply Le.elim | apply Le.loop | apply Z9Z | apply Z9X | intro _))
def Z6b (f:Form):Option (Bool) :=
 (Z0y (Z09.s0 f) (0,[])).bind fun (y1:(List (List Span))) =>
 (Z0y (Z09.s1 f y1) 0).bind fun (y4:Jx (Unit) (Bool)) =>
 y4.elim (fun r' =>
   some r') fun a6 =>
 some true
theorem ZBq {f:Form}:Le (Z6b f) (Z09 f):=by
 unfold Z6b Z09
 repeat' (with_reducible (first | exact Le.refl _ | apply Le.bind | apply Le.elim | apply Le.loop | intro _))
def ZI.s0 (x':(List Granule)) (target:Int) (cmp:Granule→Int→Option Int) (s1:Int × Int):Option ((Int × Int) ⊕ (Int)) :=
 (bif (decide (s1.1 < s1.2)) then
  (
   (at? x' (w64 ((IntKind.u64.wrap (w64 (s1.1 + s1.2))).fdiv (2 ^ 1)))).bind fun x1 =>
   (cmp x1 target).bind fun x2 =>
   (bif (decide (x2 < 0)) then
    some ((w64 ((w64 ((IntKind.u64.wrap (w64 (s1.1 + s1.2))).fdiv (2 ^ 1))) + 1)),s1.2)
   else
    some (s1.1,(w64 ((IntKind.u64.wrap (w64 (s1.1 + s1.2))).fdiv (2 ^ 1)))))).bind fun (y2:Int × Int) =>
  some (.inl (y2.1,y2.2))
 else
  some (.inr s1.1))
theorem Z1S {x':(List Granule)} {target:Int} {cmp cmp_:Granule→Int→Option Int} {s1:Int × Int} (h_cmp:∀ z0 z1,Le (cmp z0 z1) (cmp_ z0 z1)):Le (ZI.s0 x' target cmp s1) (Z2.s0 x' target cmp_ s1):=by
 unfold ZI.s0 Z2.s0
 repeat' (with_reducible (first | exact Le.refl _ | exact h_cmp _ _ | exact h_cmp | apply Le.bind | apply Le.cond | intro _))
def ZI (x':(List Granule)) (target:Int) (cmp:Granule→Int→Option Int):Option (Int × Bool) :=
 (Z0y (ZI.s0 x' target cmp) (0,(x'.length:Int))).bind fun (y1:Int) =>
 (
  (bif (decide (y1 < (x'.length:Int))) then
   (at? x' y1).bind fun x3 =>
   (cmp x3 target).bind fun x4 =>
   some (x4 == 0)
  else
   some false)).bind fun (y3:Bool) =>
 some (y1,y3)
theorem Z1q {x':(List Granule)} {target:Int} {cmp cmp_:Granule→Int→Option Int} (h_cmp:∀ z0 z1,Le (cmp z0 z1) (cmp_ z0 z1)):Le (ZI x' target cmp) (Z2 x' target cmp_):=by
 unfold ZI Z2
 repeat' (with_reducible (first | exact Le.refl _ | exact h_cmp _ _ | exact h_cmp | apply Le.bind | apply Le.cond | apply Le.loop | apply Z1S | intro _))
def Z67 (f:Form) (i:Int):Option (Int × Bool) :=
 (ZI f.Odd i (fun z0 z1 => some (Z3n z0 z1))).bind fun x1 =>
 some (x1.1,x1.2)
theorem Z8r {f:Form} {i:Int}:Le (Z67 f i) (Z58 f i):=by
 unfold Z67 Z58
 repeat' (with_reducible (first | exact Le.refl _ | apply Le.bind | apply Z1q | intro _))
def Z5P (f:Form) (i:Int):Option ((List Span) × Int × Int) :=
 (Z67 f i).bind fun x1 =>
 (bif x1.2 then
  (at? f.Odd x1.1).bind fun x2 =>
  some (x2.Ticks,0,0)
 else
  (bif (f.Count == 0) then
   some ([],0,0)
  else
   (Z0A i f.Count).bind fun x3 =>
   (at? f.Core x3.2.1).bind fun x4 =>
   some (x4,(Z7 x3.1 f.Period).1,(Z7 x3.1 f.Period).2)))
theorem Z7m {f:Form} {i:Int}:Le (Z5P f i) (Z2u f i):=by
 unfold Z5P Z2u
 repeat' (with_reducible (first | exact Le.refl _ | apply Le.bind | apply Le.cond | apply Z8r | intro _))
def Z4q (l:(List Span)) (by':Int):Option ((List Span) × Int) :=
 (Z0y (Z0C.s0 l by') (0,[])).bind fun (y1:Jx ((List Span)) ((List Span) × Int)) =>
 y1.elim (fun r' =>
   some r') fun a2 =>
 some (a2,0)
theorem Z7c {l:(List Span)} {by':Int}:Le (Z4q l by') (Z0C l by'):=by
 unfold Z4q Z0C
 repeat' (with_reducible (first | exact Le.refl _ | apply Le.bind | apply Le.elim | apply Le.loop | intro _))
def Z1X (f:Form) (i:Int):Option ((List Span) × Int) :=
 (bif (!(Z0x i)) then
  some ([],20)
 else
  (Z5P f i).bind fun x1 =>
  (bif ((x1.1.length:Int) == 0) then
   some ([],0)
  else
   (bif (x1.2.2 != 0) then
    some ([],20)
   else
    (Z4q x1.1 x1.2.1).bind fun x2 =>
    some (x2.1,x2.2))))
theorem Z2q {f:Form} {i:Int}:Le (Z1X f i) (Z01 f i):=by
 unfold Z1X Z01
 repeat' (with_reducible (first | exact Le.refl _ | apply Le.bind | apply Le.cond | apply Z7m | apply Z7c | intro _))
def Zd.s0 (s:(List (List Span))) (f:(List Span)→Option Bool) (s1:Int):Option ((Int) ⊕ (Jx (Unit) (Int))) :=
 (bif (decide (s1 < (s.length:Int))) then
  (at? s s1).bind fun x1 =>
  (f x1).bind fun x2 =>
  (bif x2 then
   some (.inr (.ret s1))
  else
   some (.inl (w64 (s1 + 1))))
 else
  some (.inr (.go ())))
theorem Z3M {s:(List (List Span))} {f f_:(List Span)→Option Bool} {s1:Int} (h_f:∀ z0,Le (f z0) (f_ z0)):Le (Zd.s0 s f s1) (ZF.s0 s f_ s1):=by
 unfold Zd.s0 ZF.s0
 repeat' (with_reducible (first | exact Le.refl _ | exact h_f _ | exact h_f | apply Le.bind | apply Le.cond | intro _))
def Zd (s:(List (List Span))) (f:(List Span)→Option Bool):Option (Int) :=
 (Z0y (Zd.s0 s f) 0).bind fun (y1:Jx (Unit) (Int)) =>
 y1.elim (fun r' =>
   some r') fun a2 =>
 some (-1)
theorem Z3m {s:(List (List Span))} {f f_:(List Span)→Option Bool} (h_f:∀ z0,Le (f z0) (f_ z0)):Le (Zd s f) (ZF s f_):=by
 unfold Zd ZF
 repeat' (with_reducible (first | exact Le.refl _ | exact h_f _ | exact h_f | apply Le.bind | apply Le.elim | apply Le.loop | apply Z3M | intro _))
def Z0F (s:(List (List Span))) (f:(List Span)→Option Bool):Option (Bool) :=
 (Zd s f).bind fun x1 =>
 some (decide (x1 ≥ 0))
theorem Z1E {s:(List (List Span))} {f f_:(List Span)→Option Bool} (h_f:∀ z0,Le (f z0) (f_ z0)):Le (Z0F s f) (ZV s f_):=by
 unfold Z0F ZV
 repeat' (with_reducible (first | exact Le.refl _ | exact h_f _ | exact h_f | apply Le.bind | apply Z3m | intro _))
def Z79 (f:Form):Option (Bool) :=
 (Z0F f.Core (fun z0 => some (Z55 z0))).bind fun x1 =>
 some (!x1)
theorem ZCr {f:Form}:Le (Z79 f) (Z3V f):=by
 unfold Z79 Z3V
 repeat' (with_reducible (first | exact Le.refl _ | apply Le.bind | apply Z1E | intro _))
def Z7B (f:Form) (i:Int):Option (Bool) :=
 (Z5P f i).bind fun x1 =>
 some (decide ((x1.1.length:Int) > 0))
theorem ZCS {f:Form} {i:Int}:Le (Z7B f i) (Z4i f i):=by
 unfold Z7B Z4i
 repeat' (with_reducible (first | exact Le.refl _ | apply Le.bind | apply Z7m | intro _))
def Z22.s1 (f:Form) (by':Int) (s2:Int):Option ((Int) ⊕ (Jx (Unit) (Int × Bool))) :=
 (bif (Z0x s2) then
  (Z7B f s2).bind fun x5 =>
  (bif x5 then
   some (.inr (.ret (s2,true)))
  else
   some (.inl (w64 (s2 + by'))))
 else
  some (.inr (.go ())))
theorem Z9o {f:Form} {by':Int} {s2:Int}:Le (Z22.s1 f by' s2) (Zq.s1 f by' s2):=by
 unfold Z22.s1 Zq.s1
 repeat' (with_reducible (first | exact Le.refl _ | apply Le.bind | apply Le.cond | apply ZCS | intro _))
def Z22 (f:Form) (from':Int) (by':Int):Option (Int × Bool) :=
 (Z79 f).bind fun x1 =>
 (bif x1 then
  (Z67 f from').bind fun x2 =>
  (
   (bif ((decide (by' < 0)) && (!x2.2)) then
    some (w64 (x2.1 - 1))
   else
    some x2.1)).bind fun (y1:Int) =>
  (Z0y (Zq.s0 f by') y1).bind fun (y2:Jx (Unit) (Int × Bool)) =>
  y2.elim (fun r' =>
    some r') fun a2 =>
  some (0,false)
 else
  (Z0y (Z22.s1 f by') from').bind fun (y3:Jx (Unit) (Int × Bool)) =>
  y3.elim (fun r' =>
    some r') fun a4 =>
  some (0,false))
theorem Z84 {f:Form} {from':Int} {by':Int}:Le (Z22 f from' by') (Zq f from' by'):=by
 unfold Z22 Zq
 repeat' (with_reducible (first | exact Le.refl _ | apply Le.bind | apply Le.cond | apply Le.elim | apply Le.loop | apply ZCr | apply Z8r | apply Z9o | intro _))
def Z5p (f:Form) (i:Int):Option (Int × Bool) :=
 (bif (decide (i≤(-1099511627776))) then
  some (0,false)
 else
  (Z22 f (iMin (w64 (i - 1)) 1099511627776) (-1)).bind fun x1 =>
  some (x1.1,x1.2))
theorem ZB2 {f:Form} {i:Int}:Le (Z5p f i) (Z1b f i):=by
 unfold Z5p Z1b
 repeat' (with_reducible (first | exact Le.refl _ | apply Le.bind | apply Le.cond | apply Z84 | intro _))
def Z3J (f:Form) (i:Int):Option (Int × Bool) :=
 (bif (decide (i ≥ 1099511627776)) then
  some (0,false)
 else
  (Z22 f (iMax (w64 (i + 1)) (-1099511627776)) 1).bind fun x1 =>
  some (x1.1,x1.2))
theorem Z4Z {f:Form} {i:Int}:Le (Z3J f i) (Z0o f i):=by
 unfold Z3J Z0o
 repeat' (with_reducible (first | exact Le.refl _ | apply Le.bind | apply Le.cond | apply Z84 | intro _))
def Z5m (f:Form) (i:Int):Option (Bool) :=
 (Z1X f i).bind fun x1 =>
 (bif (x1.2 != 0) then
  some false
 else
  (Z5p f i).bind fun x2 =>
  (Z3J f i).bind fun x3 =>
  (
   (bif x2.2 then
    (Z1X f x2.1).bind fun x4 =>
    (bif (x4.2 != 0) then
     some (.ret false)
    else
     some (.go x4.1))
   else
    some (.go []))).bind fun (y1:Jx ((List Span)) (Bool)) =>
  y1.elim (fun r' =>
    some r') fun a2 =>
  (
   (bif x3.2 then
    (Z1X f x3.1).bind fun x5 =>
    (bif (x5.2 != 0) then
     some (.ret false)
    else
     some (.go x5.1))
   else
    some (.go []))).bind fun (y2:Jx ((List Span)) (Bool)) =>
  y2.elim (fun r' =>
    some r') fun a4 =>
  (Z0a a2 x1.1).bind fun x6 =>
  (
   (bif x6 then
    (Z0a x1.1 a4).bind fun x7 =>
    some x7
   else
    some false)).bind fun (y3:Bool) =>
  (
   (bif y3 then
    (Z0a a2 a4).bind fun x8 =>
    some x8
   else
    some false)).bind fun (y4:Bool) =>
  some y4)
theorem ZAe {f:Form} {i:Int}:Le (Z5m f i) (Z1y f i):=by
 unfold Z5m Z1y
 repeat' (with_reducible (first | exact Le.refl _ | apply Le.bind | apply Le.cond | apply Le.elim | apply Z2q | apply ZB2 | apply Z4Z | intro _))
def Z26.s0 (f:Form) (s1:Int):Option ((Int) ⊕ (Jx (Unit) (Int))) :=
 (bif (decide (s1 < (f.Odd.length:Int))) then
  (at? f.Odd s1).bind fun x4 =>
  (Z5m f x4.Index).bind fun x5 =>
  (bif (!x5) then
   some (.inr (.ret 50))
  else
   some (.inl (w64 (s1 + 1))))
 else
  some (.inr (.go ())))
theorem Z9Q {f:Form} {s1:Int}:Le (Z26.s0 f s1) (Z00.s0 f s1):=by
 unfold Z26.s0 Z00.s0
 repeat' (with_reducible (first | exact Le.refl _ | apply Le.bind | apply Le.cond | apply ZAe | intro _))
def Z26 (f:Form):Option (Int) :=
 (
  (bif ((decide ((f.Core.length:Int) > 6000)) || (decide ((f.Odd.length:Int) > 6000))) then
   some true
  else
   (Z7A f).bind fun x1 =>
   some (decide (x1 > 60000)))).bind fun (y1:Bool) =>
 (bif y1 then
  some 3
 else
  (Z0e f).bind fun x2 =>
  (
   (bif (!x2) then
    some true
   else
    (Z6b f).bind fun x3 =>
    some (!x3))).bind fun (y2:Bool) =>
  (bif y2 then
   some 50
  else
   (Z0y (Z26.s0 f) 0).bind fun (y3:Jx (Unit) (Int)) =>
   y3.elim (fun r' =>
     some r') fun a2 =>
   some 0))
theorem ZC1 {f:Form}:Le (Z26 f) (Z00 f):=by
 unfold Z26 Z00
 repeat' (with_reducible (first | exact Le.refl _ | apply Le.bind | apply Le.cond | apply Le.elim | apply Le.loop | apply ZCf | apply ZBt | apply ZBq | apply Z9Q | intro _))
def Z1o (s1':(List Span)) (s2':(List Span)):Option (Bool) :=
 (bif ((s1'.length:Int) != (s2'.length:Int)) then
  some false
 else
  (Z0y (ZS.s0 s1' s2') 0).bind fun (y1:Jx (Unit) (Bool)) =>
  y1.elim (fun r' =>
    some r') fun a2 =>
  some true)
theorem Z5E {s1':(List Span)} {s2':(List Span)}:Le (Z1o s1' s2') (ZS s1' s2'):=by
 unfold Z1o ZS
 repeat' (with_reducible (first | exact Le.refl _ | apply Le.bind | apply Le.cond | apply Le.elim | apply Le.loop | intro _))
def Z4o (a:(List Span)) (b:(List Span)):Option (Bool) :=
 (Z1o a b).bind fun x1 =>
 some x1
theorem Z7h {a:(List Span)} {b:(List Span)}:Le (Z4o a b) (Z0j a b):=by
 unfold Z4o Z0j
 repeat' (with_reducible (first | exact Le.refl _ | apply Le.bind | apply Z5E | intro _))
def ZM.s0 (s1':(List Span)) (s2':(List Span)) (eq:Span→Span→Option Bool) (s1:Int):Option ((Int) ⊕ (Jx (Unit) (Bool))) :=
 (bif (decide (s1 < (s1'.length:Int))) then
  (at? s1' s1).bind fun x1 =>
  (at? s2' s1).bind fun x2 =>
  (eq x1 x2).bind fun x3 =>
  (bif (!x3) then
   some (.inr (.ret false))
  else
   some (.inl (w64 (s1 + 1))))
 else
  some (.inr (.go ())))
theorem Z28 {s1':(List Span)} {s2':(List Span)} {eq eq_:Span→Span→Option Bool} {s1:Int} (h_eq:∀ z0 z1,Le (eq z0 z1) (eq_ z0 z1)):Le (ZM.s0 s1' s2' eq s1) (ZA.s0 s1' s2' eq_ s1):=by
 unfold ZM.s0 ZA.s0
 repeat' (with_reducible (first | exact Le.refl _ | exact h_eq _ _ | exact h_eq | apply Le.bind | apply Le.cond | intro _))
def ZM (s1':(List Span)) (s2':(List Span)) (eq:Span→Span→Option Bool):Option (Bool) :=
 (bif ((s1'.length:Int) != (s2'.length:Int)) then
  some false
 else
  (Z0y (ZM.s0 s1' s2' eq) 0).bind fun (y1:Jx (Unit) (Bool)) =>
  y1.elim (fun r' =>
    some r') fun a2 =>
  some true)
theorem Z2S {s1':(List Span)} {s2':(List Span)} {eq eq_:Span→Span→Option Bool} (h_eq:∀ z0 z1,Le (eq z0 z1) (eq_ z0 z1)):Le (ZM s1' s2' eq) (ZA s1' s2' eq_):=by
 unfold ZM ZA
 repeat' (with_reducible (first | exact Le.refl _ | exact h_eq _ _ | exact h_eq | apply Le.bind | apply Le.cond | apply Le.elim | apply Le.loop | apply Z28 | intro _))
def Z42 (a:(List Span)) (b:(List Span)):Option (Bool) :=
 (bif ((a.length:Int) != (b.length:Int)) then
  some false
 else
  (Z0y (Zh.s0 a b) 0).bind fun (y1:Jx (Unit) (Bool)) =>
  y1.elim (fun r' =>
    some r') fun a2 =>
  some true)
theorem Z8g {a:(List Span)} {b:(List Span)}:Le (Z42 a b) (Zh a b):=by
 unfold Z42 Zh
 repeat' (with_reducible (first | exact Le.refl _ | apply Le.bind | apply Le.cond | apply Le.elim | apply Le.loop | intro _))
def Z6Z (f:Form):Option (Bool) :=
 (Z0F f.Core (fun z0 => some (Z5L z0))).bind fun x1 =>
 some (!x1)
theorem ZBr {f:Form}:Le (Z6Z f) (Z3l f):=by
 unfold Z6Z Z3l
 repeat' (with_reducible (first | exact Le.refl _ | apply Le.bind | apply Z1E | intro _))
def Z0Z.s0 (p1':Int) {S:Type} (yield:S→Int→Option (S × Bool)) (s1:Int × S):Option ((Int × S) ⊕ (Jx (S) (S))) :=
 (bif (decide (s1.1≤p1')) then
  (nz? s1.1).bind fun u1 =>
  (
   (bif ((p1'.tmod s1.1) == 0) then
    (yield s1.2 s1.1).bind fun x1 =>
    some ((!x1.2),x1.1)
   else
    some (false,s1.2))).bind fun (y2:Bool × S) =>
  (bif y2.1 then
   some (.inr (.ret y2.2))
  else
   some (.inl ((w64 (s1.1 + 1)),y2.2)))
 else
  some (.inr (.go s1.2)))
theorem Z6W {p1':Int} {S:Type} {yield yield_:S→Int→Option (S × Bool)} {s1:Int × S} (h_yield:∀ z0 z1,Le (yield z0 z1) (yield_ z0 z1)):Le (Z0Z.s0 p1' yield s1) (Zr.s0 p1' yield_ s1):=by
 unfold Z0Z.s0 Zr.s0
 repeat' (with_reducible (first | exact Le.refl _ | exact h_yield _ _ | exact h_yield | apply Le.bind | apply Le.cond | intro _))
def Z0Z {S:Type} (p1':Int) (yield:S→Int→Option (S × Bool)) (st':S):Option (S) :=
 (Z0y (Z0Z.s0 p1' yield) (1,st')).bind fun (y1:Jx (S) (S)) =>
 y1.elim (fun r' =>
   some r') fun a2 =>
 some a2
theorem Z7i {S:Type} {p1':Int} {yield yield_:S→Int→Option (S × Bool)} {st':S} (h_yield:∀ z0 z1,Le (yield z0 z1) (yield_ z0 z1)):Le (Z0Z p1' yield st') (Zr p1' yield_ st'):=by
 unfold Z0Z Zr
 repeat' (with_reducible (first | exact Le.refl _ | exact h_yield _ _ | exact h_yield | apply Le.bind | apply Le.elim | apply Le.loop | apply Z6W | intro _))
def Z4U (a:(List Span)) (b:(List Span)) (by':Int):Option (Bool) :=
 (ZM a b (fun z0 z1 => some (Z1N z0 z1 by'))).bind fun x1 =>
 some x1
theorem Z9U {a:(List Span)} {b:(List Span)} {by':Int}:Le (Z4U a b by') (Z25 a b by'):=by
 unfold Z4U Z25
 repeat' (with_reducible (first | exact Le.refl _ | apply Le.bind | apply Z2S | intro _))
def Z27.s0 (f:Form) (d:Int) (by':Int) (s1:Int):Option ((Int) ⊕ (Jx (Unit) (Bool))) :=
 (bif (decide (s1 < (f.Core.length:Int))) then
  (
   (
    (at? f.Core s1).bind fun x1 =>
    (
     (bif (decide ((w64 (s1 + d)) ≥ f.Count)) then
      some ((w64 ((w64 (s1 + d)) - f.Count)),f.Period)
     else
      some ((w64 (s1 + d)),0))).bind fun (y4:Int × Int) =>
    (at? f.Core y4.1).bind fun x2 =>
    (Z4U x1 x2 (w64 (by' - y4.2))).bind fun x3 =>
    (bif (!x3) then
     some (.ret false)
    else
     some (.go ()))).bind fun (y3:Jx (Unit) (Bool)) =>
   y3.elim (fun r' =>
     some (.ret r')) fun a4 =>
   some (.go ())).bind fun (y2:Jx (Unit) (Bool)) =>
  y2.elim (fun r' =>
    some (.inr (.ret r'))) fun a5 =>
  some (.inl (w64 (s1 + 1)))
 else
  some (.inr (.go ())))
theorem Z9M {f:Form} {d:Int} {by':Int} {s1:Int}:Le (Z27.s0 f d by' s1) (Z0i.s0 f d by' s1):=by
 unfold Z27.s0 Z0i.s0
 repeat' (with_reducible (first | exact Le.refl _ | apply Le.bind | apply Le.cond | apply Le.elim | apply Z9U | intro _))
def Z27 (f:Form) (d:Int) (by':Int):Option (Bool) :=
 (Z0y (Z27.s0 f d by') 0).bind fun (y1:Jx (Unit) (Bool)) =>
 y1.elim (fun r' =>
   some r') fun a6 =>
 some true
theorem ZBp {f:Form} {d:Int} {by':Int}:Le (Z27 f d by') (Z0i f d by'):=by
 unfold Z27 Z0i
 repeat' (with_reducible (first | exact Le.refl _ | apply Le.bind | apply Le.elim | apply Le.loop | apply Z9M | intro _))
def Z24.b0 (f:Form) (s2:(List (List Span)) × Int × Int) (z2:Int):Option (((List (List Span)) × Int × Int) × Nat) :=
 (nz? z2).bind fun u1 =>
 (Z0A f.Period (w64 (f.Count.tdiv z2))).bind fun x2 =>
 (
  (bif (x2.2.1 != 0) then
   some true
  else
   (Z27 f z2 x2.1).bind fun x3 =>
   some (!x3))).bind fun (y3:Bool) =>
 (bif y3 then
  some ((s2.1,s2.2.1,s2.2.2),0)
 else
  (cut? f.Core 0 z2).bind fun x4 =>
  (Z0y (Zn.s1 x4) (0,s2.1)).bind fun (y4:(List (List Span))) =>
  some ((y4,x2.1,z2),1))
theorem Z9T {f:Form} {s2:(List (List Span)) × Int × Int} {z2:Int}:Le (Z24.b0 f s2 z2) (Zn.b0 f s2 z2):=by
 unfold Z24.b0 Zn.b0
 repeat' (with_reducible (first | exact Le.refl _ | apply Le.bind | apply Le.cond | apply Le.loop | apply ZBp | intro _))
def Z24 (f:Form):Option (Form) :=
 (Z6Z f).bind fun x1 =>
 (bif x1 then
  some (Form.mk 0 0 [] [])
 else
  (
   (Z0Z f.Count (Z1J (Z24.b0 f)) (([],0,0),0)).bind fun (y2:((List (List Span)) × Int × Int) × Nat) =>
   (bif (y2.2 == 0) then
    some (y2.1.1,y2.1.2.1,y2.1.2.2)
   else
    some (y2.1.1,y2.1.2.1,y2.1.2.2))).bind fun (y1:(List (List Span)) × Int × Int) =>
  some (Form.mk y1.2.1 y1.2.2 y1.1 []))
theorem ZC2 {f:Form}:Le (Z24 f) (Zn f):=by
 unfold Z24 Zn
 repeat' (with_reducible (first | exact Le.refl _ | apply Le.bind | apply Le.cond | refine Le.Z1J ?_ _ _ | apply ZBr | apply Z7i | apply Z9T | intro _))
def Z5v (f:Form) (g:Granule):Option (Bool) :=
 (Z1X f g.Index).bind fun x1 =>
 (
  (bif (x1.2 == 0) then
   (Z4o x1.1 g.Ticks).bind fun x2 =>
   some x2
  else
   some false)).bind fun (y1:Bool) =>
 some y1
theorem ZAq {f:Form} {g:Granule}:Le (Z5v f g) (Z35 f g):=by
 unfold Z5v Z35
 repeat' (with_reducible (first | exact Le.refl _ | apply Le.bind | apply Le.cond | apply Z2q | apply Z7h | intro _))
def Z29.s0 (f:Form) (x1:Form) (s2:Int × (List Granule)):Option ((Int × (List Granule)) ⊕ ((List Granule))) :=
 (bif (decide (s2.1 < (f.Odd.length:Int))) then
  (
   (
    (at? f.Odd s2.1).bind fun x2 =>
    (Z5v x1 x2).bind fun x3 =>
    (bif (!x3) then
     (clone? 16 x2.Ticks).bind fun x4 =>
     (app? 32 s2.2 [(Granule.mk x2.Index x4)]).bind fun x5 =>
     some x5
    else
     some s2.2)).bind fun (y3:(List Granule)) =>
   some y3).bind fun (y2:(List Granule)) =>
  some (.inl ((w64 (s2.1 + 1)),y2))
 else
  some (.inr s2.2))
theorem Z9I {f:Form} {x1:Form} {s2:Int × (List Granule)}:Le (Z29.s0 f x1 s2) (ZT.s0 f x1 s2):=by
 unfold Z29.s0 ZT.s0
 repeat' (with_reducible (first | exact Le.refl _ | apply Le.bind | apply Le.cond | apply ZAq | intro _))
def Z29 (f:Form):Option (Form) :=
 (Z24 f).bind fun x1 =>
 (Z0y (Z29.s0 f x1) (0,[])).bind fun (y1:(List Granule)) =>
 some (Form.mk x1.Period x1.Count x1.Core y1)
theorem ZBz {f:Form}:Le (Z29 f) (ZT f):=by
 unfold Z29 ZT
 repeat' (with_reducible (first | exact Le.refl _ | apply Le.bind | apply Le.loop | apply ZC2 | apply Z9I | intro _))
def Z0O (f:Form) (t:Int):Option (Int × Bool) :=
 (Z0y (Z6.s0 f t) (0,false,0)).bind fun (y1:Int × Bool) =>
 some (y1.1,y1.2)
theorem Z2n {f:Form} {t:Int}:Le (Z0O f t) (Z6 f t):=by
 unfold Z0O Z6
 repeat' (with_reducible (first | exact Le.refl _ | apply Le.bind | apply Le.loop | intro _))
def ZP.s1 (f:Form) (y1:(List (Int × Int))) (s2:Int × Bool × Int):Option ((Int × Bool × Int) ⊕ (Jx (Unit) (Int × Bool))) :=
 (bif (s2.2.1 && (decide (s2.2.2 < 2))) then
  (
   (
    (Z1X (Form.mk f.Period f.Count f.Core []) s2.1).bind fun x4 =>
    (bif (x4.2 != 0) then
     some (.go (w64 (s2.2.2 + 1)))
    else
     (bif ((mget y1 s2.1) == 0) then
      some (.ret (s2.1,true))
     else
      some (.go s2.2.2)))).bind fun (y4:Jx (Int) (Int × Bool)) =>
   y4.elim (fun r' =>
     some (.ret r')) fun a4 =>
   some (.go a4)).bind fun (y3:Jx (Int) (Int × Bool)) =>
  y3.elim (fun r' =>
    some (.inr (.ret r'))) fun a5 =>
  (Z3J (Form.mk f.Period f.Count f.Core []) s2.1).bind fun x5 =>
  some (.inl (x5.1,x5.2,a5))
 else
  some (.inr (.go ())))
theorem Z2P {f:Form} {y1:(List (Int × Int))} {s2:Int × Bool × Int}:Le (ZP.s1 f y1 s2) (Z1.s1 f y1 s2):=by
 unfold ZP.s1 Z1.s1
 repeat' (with_reducible (first | exact Le.refl _ | apply Le.bind | apply Le.cond | apply Le.elim | apply Z2q | apply Z4Z | intro _))
def ZP (f:Form) (t:Int):Option (Int × Bool) :=
 (Z0O f t).bind fun x1 =>
 (bif (!x1.2) then
  some (0,false)
 else
  (Z0y (Z1.s0 f) (0,[])).bind fun (y1:(List (Int × Int))) =>
  (Z3J (Form.mk f.Period f.Count f.Core []) (w64 (x1.1 - 1))).bind fun x3 =>
  (Z0y (ZP.s1 f y1) (x3.1,x3.2,0)).bind fun (y2:Jx (Unit) (Int × Bool)) =>
  y2.elim (fun r' =>
    some r') fun a6 =>
  some (0,false))
theorem Z2j {f:Form} {t:Int}:Le (ZP f t) (Z1 f t):=by
 unfold ZP Z1
 repeat' (with_reducible (first | exact Le.refl _ | apply Le.bind | apply Le.cond | apply Le.elim | apply Le.loop | apply Z2n | apply Z4Z | apply Z2P | intro _))
def Z0K (f:Form) (t:Int):Option (Int × Bool) :=
 (ZP f (iMax (iMin t 1099511627777) (-1099511627777))).bind fun x1 =>
 (Z0y (Z8.s0 f t) (x1.1,x1.2,0)).bind fun (y1:Int × Bool) =>
 some (y1.1,y1.2)
theorem Z2R {f:Form} {t:Int}:Le (Z0K f t) (Z8 f t):=by
 unfold Z0K Z8
 repeat' (with_reducible (first | exact Le.refl _ | apply Le.bind | apply Le.loop | apply Z2j | intro _))
def Z7I (f:Form) (t:Int):Option (Int × Bool) :=
 (Z0K f t).bind fun x1 =>
 some (x1.1,x1.2)
theorem ZCZ {f:Form} {t:Int}:Le (Z7I f t) (Z5W f t):=by
 unfold Z7I Z5W
 repeat' (with_reducible (first | exact Le.refl _ | apply Le.bind | apply Z2R | intro _))
def ZO.s0 (x':(List Span)) (target:Int) (cmp:Span→Int→Option Int) (s1:Int × Int):Option ((Int × Int) ⊕ (Int)) :=
 (bif (decide (s1.1 < s1.2)) then
  (
   (at? x' (w64 ((IntKind.u64.wrap (w64 (s1.1 + s1.2))).fdiv (2 ^ 1)))).bind fun x1 =>
   (cmp x1 target).bind fun x2 =>
   (bif (decide (x2 < 0)) then
    some ((w64 ((w64 ((IntKind.u64.wrap (w64 (s1.1 + s1.2))).fdiv (2 ^ 1))) + 1)),s1.2)
   else
    some (s1.1,(w64 ((IntKind.u64.wrap (w64 (s1.1 + s1.2))).fdiv (2 ^ 1)))))).bind fun (y2:Int × Int) =>
  some (.inl (y2.1,y2.2))
 else
  some (.inr s1.1))
theorem Z2B {x':(List Span)} {target:Int} {cmp cmp_:Span→Int→Option Int} {s1:Int × Int} (h_cmp:∀ z0 z1,Le (cmp z0 z1) (cmp_ z0 z1)):Le (ZO.s0 x' target cmp s1) (Z4.s0 x' target cmp_ s1):=by
 unfold ZO.s0 Z4.s0
 repeat' (with_reducible (first | exact Le.refl _ | exact h_cmp _ _ | exact h_cmp | apply Le.bind | apply Le.cond | intro _))
def ZO (x':(List Span)) (target:Int) (cmp:Span→Int→Option Int):Option (Int × Bool) :=
 (Z0y (ZO.s0 x' target cmp) (0,(x'.length:Int))).bind fun (y1:Int) =>
 (
  (bif (decide (y1 < (x'.length:Int))) then
   (at? x' y1).bind fun x3 =>
   (cmp x3 target).bind fun x4 =>
   some (x4 == 0)
  else
   some false)).bind fun (y3:Bool) =>
 some (y1,y3)
theorem Z2T {x':(List Span)} {target:Int} {cmp cmp_:Span→Int→Option Int} (h_cmp:∀ z0 z1,Le (cmp z0 z1) (cmp_ z0 z1)):Le (ZO x' target cmp) (Z4 x' target cmp_):=by
 unfold ZO Z4
 repeat' (with_reducible (first | exact Le.refl _ | exact h_cmp _ _ | exact h_cmp | apply Le.bind | apply Le.cond | apply Le.loop | apply Z2B | intro _))
def Z7T (l:(List Span)) (t:Int):Option (Bool) :=
 (ZO l t (fun z0 z1 => some (Z20 z0 z1))).bind fun x1 =>
 some (x1.2 && (decide (x1.1 < (l.length:Int))))
theorem ZCB {l:(List Span)} {t:Int}:Le (Z7T l t) (Z4a l t):=by
 unfold Z7T Z4a
 repeat' (with_reducible (first | exact Le.refl _ | apply Le.bind | apply Z2T | intro _))
def Z9k (f:Form) (t:Int):Option (Int × Bool) :=
 (Z7I f t).bind fun x1 =>
 (bif (!x1.2) then
  some (0,false)
 else
  (Z1X f x1.1).bind fun x2 =>
  (Z7T x2.1 t).bind fun x3 =>
  (bif (!x3) then
   some (0,false)
  else
   some (x1.1,true)))
theorem evle_find_At {f:Form} {t:Int}:Le (Z9k f t) (Z4l f t):=by
 unfold Z9k Z4l
 repeat' (with_reducible (first | exact Le.refl _ | apply Le.bind | apply Le.cond | apply ZCZ | apply Z2q | apply ZCB | intro _))
def Z15.s0 {S:Type} (p1':Int) (p2':Int→Option ((List Span) × Int)) (p3':Int) (yield:S→((List Span) × Int)→Option (S × Bool)) (s1:Int × S):Option ((Int × S) ⊕ (Jx (S) (S))) :=
 (bif (decide (s1.1 < p1')) then
  (p2' (w64 (p3' + s1.1))).bind fun x1 =>
  (yield s1.2 (x1.1,x1.2)).bind fun x2 =>
  (bif (!x2.2) then
   some (.inr (.ret x2.1))
  else
   some (.inl ((w64 (s1.1 + 1)),x2.1)))
 else
  some (.inr (.go s1.2)))
theorem Z7j {S:Type} {p1':Int} {p2' p2'_:Int→Option ((List Span) × Int)} {p3':Int} {yield yield_:S→((List Span) × Int)→Option (S × Bool)} {s1:Int × S} (h_p2':∀ z0,Le (p2' z0) (p2'_ z0)) (h_yield:∀ z0 z1,Le (yield z0 z1) (yield_ z0 z1)):Le (Z15.s0 p1' p2' p3' yield s1) (Z0L.s0 p1' p2'_ p3' yield_ s1):=by
 unfold Z15.s0 Z0L.s0
 repeat' (with_reducible (first | exact Le.refl _ | exact h_p2' _ | exact h_yield _ _ | exact h_p2' | exact h_yield | apply Le.bind | apply Le.cond | intro _))
def Z15 {S:Type} (p1':Int) (p2':Int→Option ((List Span) × Int)) (p3':Int) (yield:S→((List Span) × Int)→Option (S × Bool)) (st':S):Option (S) :=
 (Z0y (Z15.s0 p1' p2' p3' yield) (0,st')).bind fun (y1:Jx (S) (S)) =>
 y1.elim (fun r' =>
   some r') fun a2 =>
 some a2
theorem Z9O {S:Type} {p1':Int} {p2' p2'_:Int→Option ((List Span) × Int)} {p3':Int} {yield yield_:S→((List Span) × Int)→Option (S × Bool)} {st':S} (h_p2':∀ z0,Le (p2' z0) (p2'_ z0)) (h_yield:∀ z0 z1,Le (yield z0 z1) (yield_ z0 z1)):Le (Z15 p1' p2' p3' yield st') (Z0L p1' p2'_ p3' yield_ st'):=by
 unfold Z15 Z0L
 repeat' (with_reducible (first | exact Le.refl _ | exact h_p2' _ | exact h_yield _ _ | exact h_p2' | exact h_yield | apply Le.bind | apply Le.elim | apply Le.loop | apply Z7j | intro _))
def Z2b (tell:Int→Option ((List Span) × Int)) (from':Int) (many:Int):Option ((List Span) × Int) :=
 (
  some ()).bind fun (y1:Unit) =>
 (Z15 many tell from' (Z1J Zg.b0) (([],0),0)).bind fun (y2:((List Span) × Int) × Nat) =>
 (bif (y2.2 == 0) then
  some (y2.1.1,0)
 else
  some ([],y2.1.2))
theorem Z57 {tell tell_:Int→Option ((List Span) × Int)} {from':Int} {many:Int} (h_tell:∀ z0,Le (tell z0) (tell_ z0)):Le (Z2b tell from' many) (Zg tell_ from' many):=by
 unfold Z2b Zg
 repeat' (with_reducible (first | exact Le.refl _ | exact h_tell _ | exact h_tell | apply Le.bind | apply Le.cond | refine Le.Z1J ?_ _ _ | apply Z9O | intro _))
def Z2v (f:Form) (i:Int):Option ((List Span) × Int) :=
 (bif (f.Count == 0) then
  some ([],0)
 else
  (Z0A i f.Count).bind fun x1 =>
  (at? f.Core x1.2.1).bind fun x2 =>
  (bif ((x2.length:Int) == 0) then
   some ([],0)
  else
   (bif ((x1.2.2 != 0) || (((Z7 x1.1 f.Period).2) != 0)) then
    some ([],20)
   else
    (at? f.Core x1.2.1).bind fun x3 =>
    (Z4q x3 ((Z7 x1.1 f.Period).1)).bind fun x4 =>
    some (x4.1,x4.2))))
theorem Z3h {f:Form} {i:Int}:Le (Z2v f i) (Z0k f i):=by
 unfold Z2v Z0k
 repeat' (with_reducible (first | exact Le.refl _ | apply Le.bind | apply Le.cond | apply Z7c | intro _))
def Z3y (i:Int) (p1':Form):Option ((List Span) × Int) :=
 (Z2v p1' i).bind fun x1 =>
 some (x1.1,x1.2)
theorem Z8m {i:Int} {p1':Form}:Le (Z3y i p1') (Z0R i p1'):=by
 unfold Z3y Z0R
 repeat' (with_reducible (first | exact Le.refl _ | apply Le.bind | apply Z3h | intro _))
def Z1O.s1 (f:Form) (m:Int) (x1:Int × Int) (s3:Int × (List (List Span))):Option ((Int × (List (List Span))) ⊕ (Jx ((List (List Span)) × Int) (Int))) :=
 (bif (decide (s3.1 < x1.1)) then
  (Z2b (fun z0 => Z3y z0 f) (w64 (s3.1 * m)) m).bind fun x3 =>
  (bif (x3.2 != 0) then
   some (.inr (.ret x3.2))
  else
   (app? 24 s3.2 [x3.1]).bind fun x4 =>
   some (.inl ((w64 (s3.1 + 1)),x4)))
 else
  some (.inr (.go (s3.2,(Z7 f.Period (w64 (x1.2.tdiv f.Count))).1))))
theorem Z8B {f:Form} {m:Int} {x1:Int × Int} {s3:Int × (List (List Span))}:Le (Z1O.s1 f m x1 s3) (Ze.s1 f m x1 s3):=by
 unfold Z1O.s1 Ze.s1
 repeat' (with_reducible (first | exact Le.refl _ | apply Le.bind | apply Le.cond | apply Z57 | apply Z8m | intro _))
def Z1O (f:Form) (m:Int):Option (Form × Int) :=
 (Z1Y f m).bind fun x1 =>
 (bif (x1.1 == 0) then
  some ((Form.mk 0 0 [] []),0)
 else
  (Z0y (Ze.s0 f) (0,0)).bind fun (y1:Int) =>
  (nz? f.Count).bind fun u1 =>
  (bif (decide ((w64 (y1 * (w64 (x1.2.tdiv f.Count)))) > 60000)) then
   some ((Form.mk 0 0 [] []),3)
  else
   (nz? f.Count).bind fun u2 =>
   (bif ((((Z7 f.Period (w64 (x1.2.tdiv f.Count))).2) != 0) || (decide (((Z7 f.Period (w64 (x1.2.tdiv f.Count))).1) > 1099511627776))) then
    some ((Form.mk 0 0 [] []),20)
   else
    (Z0y (Z1O.s1 f m x1) (0,[])).bind fun (y2:Jx ((List (List Span)) × Int) (Int)) =>
    y2.elim (fun a4 =>
      some ((Form.mk 0 0 [] []),a4)) fun a3 =>
    some ((Form.mk a3.2 x1.1 a3.1 []),0))))
theorem Z9p {f:Form} {m:Int}:Le (Z1O f m) (Ze f m):=by
 unfold Z1O Ze
 repeat' (with_reducible (first | exact Le.refl _ | apply Le.bind | apply Le.cond | apply Le.elim | apply Le.loop | apply Z8B | intro _))
def Z3w (f:Form):Option (Form × Int) :=
 (Z26 f).bind fun x1 =>
 (bif (x1 == 0) then
  (Z29 f).bind fun x2 =>
  some (x2,0)
 else
  (bif (x1 == 3) then
   some ((Form.mk 0 0 [] []),3)
  else
   some ((Form.mk 0 0 [] []),20)))
theorem Z6w {f:Form}:Le (Z3w f) (Z1c f):=by
 unfold Z3w Z1c
 repeat' (with_reducible (first | exact Le.refl _ | apply Le.bind | apply Le.cond | apply ZC1 | apply ZBz | intro _))
def Z47 (i:Int) (p1':Form):Option ((List Span) × Int) :=
 (Z1X p1' i).bind fun x1 =>
 some (x1.1,x1.2)
theorem Z8j {i:Int} {p1':Form}:Le (Z47 i p1') (Z0T i p1'):=by
 unfold Z47 Z0T
 repeat' (with_reducible (first | exact Le.refl _ | apply Le.bind | apply Z2q | intro _))
def Z10.s0 (f:Form) (m:Int) (s2:Int × (List Granule)):Option ((Int × (List Granule)) ⊕ (Jx ((List Granule)) (Form × Int))) :=
 (bif (decide (s2.1 < (f.Odd.length:Int))) then
  (
   (at? f.Odd s2.1).bind fun x2 =>
   (Z0A x2.Index m).bind fun x3 =>
   (
    (bif (decide ((s2.2.length:Int) > 0)) then
     (at? s2.2 (w64 ((s2.2.length:Int) - 1))).bind fun x4 =>
     some (x4.Index == x3.1)
    else
     some false)).bind fun (y3:Bool) =>
   (bif y3 then
    some (.go s2.2)
   else
    (Z2b (fun z0 => Z47 z0 f) (w64 (x3.1 * m)) m).bind fun x5 =>
    (bif (x5.2 != 0) then
     some (.ret ((Form.mk 0 0 [] []),20))
    else
     (app? 32 s2.2 [(Granule.mk x3.1 x5.1)]).bind fun x6 =>
     some (.go x6)))).bind fun (y2:Jx ((List Granule)) (Form × Int)) =>
  y2.elim (fun r' =>
    some (.inr (.ret r'))) fun a3 =>
  some (.inl ((w64 (s2.1 + 1)),a3))
 else
  some (.inr (.go s2.2)))
theorem Z7w {f:Form} {m:Int} {s2:Int × (List Granule)}:Le (Z10.s0 f m s2) (Za.s0 f m s2):=by
 unfold Z10.s0 Za.s0
 repeat' (with_reducible (first | exact Le.refl _ | apply Le.bind | apply Le.cond | apply Le.elim | apply Z57 | apply Z8j | intro _))
def Z10 (f:Form) (m:Int):Option (Form × Int) :=
 (bif ((decide (m < 1)) || (decide (m > 6000))) then
  some ((Form.mk 0 0 [] []),2)
 else
  (Z1O f m).bind fun x1 =>
  (bif (x1.2 != 0) then
   some ((Form.mk 0 0 [] []),x1.2)
  else
   (Z0y (Z10.s0 f m) (0,[])).bind fun (y1:Jx ((List Granule)) (Form × Int)) =>
   y1.elim (fun r' =>
     some r') fun a4 =>
   (Z3w (Form.mk x1.1.Period x1.1.Count x1.1.Core a4)).bind fun x7 =>
   some (x7.1,x7.2)))
theorem ZAX {f:Form} {m:Int}:Le (Z10 f m) (Za f m):=by
 unfold Z10 Za
 repeat' (with_reducible (first | exact Le.refl _ | apply Le.bind | apply Le.cond | apply Le.elim | apply Le.loop | apply Z9p | apply Z7w | apply Z6w | intro _))
def Z3x (f:Form):Option (Bool) :=
 (Z0y (Z0S.s0 f) 0).bind fun (y1:Jx (Unit) (Bool)) =>
 y1.elim (fun r' =>
   some r') fun a2 =>
 some ((decide (f.Count > 0)) && ((f.Odd.length:Int) == 0))
theorem ZAf {f:Form}:Le (Z3x f) (Z0S f):=by
 unfold Z3x Z0S
 repeat' (with_reducible (first | exact Le.refl _ | apply Le.bind | apply Le.elim | apply Le.loop | intro _))
def Z0w.s0 {S:Type} (p1':Int) (p2':Form) (p3':Form) (yield:S→((List Span) × Int)→Option (S × Bool)) (s1:Int × S):Option ((Int × S) ⊕ (Jx (S) (S))) :=
 (bif (decide (s1.1 < p1')) then
  (Z2v p2' s1.1).bind fun x1 =>
  (at? x1.1 0).bind fun x2 =>
  (Z9k p3' x2.From).bind fun x3 =>
  (
   (bif (!x3.2) then
    some (true,s1.2)
   else
    (yield s1.2 (x1.1,x3.1)).bind fun x4 =>
    some ((!x4.2),x4.1))).bind fun (y2:Bool × S) =>
  (bif y2.1 then
   some (.inr (.ret y2.2))
  else
   some (.inl ((w64 (s1.1 + 1)),y2.2)))
 else
  some (.inr (.go s1.2)))
theorem Z7P {S:Type} {p1':Int} {p2':Form} {p3':Form} {yield yield_:S→((List Span) × Int)→Option (S × Bool)} {s1:Int × S} (h_yield:∀ z0 z1,Le (yield z0 z1) (yield_ z0 z1)):Le (Z0w.s0 p1' p2' p3' yield s1) (Z0D.s0 p1' p2' p3' yield_ s1):=by
 unfold Z0w.s0 Z0D.s0
 repeat' (with_reducible (first | exact Le.refl _ | exact h_yield _ _ | exact h_yield | apply Le.bind | apply Le.cond | apply Z3h | apply evle_find_At | intro _))
def Z0w {S:Type} (p1':Int) (p2':Form) (p3':Form) (yield:S→((List Span) × Int)→Option (S × Bool)) (st':S):Option (S) :=
 (Z0y (Z0w.s0 p1' p2' p3' yield) (0,st')).bind fun (y1:Jx (S) (S)) =>
 y1.elim (fun r' =>
   some r') fun a2 =>
 some a2
theorem Z8k {S:Type} {p1':Int} {p2':Form} {p3':Form} {yield yield_:S→((List Span) × Int)→Option (S × Bool)} {st':S} (h_yield:∀ z0 z1,Le (yield z0 z1) (yield_ z0 z1)):Le (Z0w p1' p2' p3' yield st') (Z0D p1' p2' p3' yield_ st'):=by
 unfold Z0w Z0D
 repeat' (with_reducible (first | exact Le.refl _ | exact h_yield _ _ | exact h_yield | apply Le.bind | apply Le.elim | apply Le.loop | apply Z7P | intro _))
def Z0N.s0 (f:Form) (to':Int) (s2:Int × (List Span)):Option ((Int × (List Span)) ⊕ (Jx ((List Span)) ((List Span) × Int))) :=
 (bif (decide (s2.1 < to')) then
  (
   (
    (Z2v f s2.1).bind fun x1 =>
    (bif (x1.2 != 0) then
     some (.ret ([],20))
    else
     (
      (
       (bif (decide ((w64 ((s2.2.length:Int) - 1)) ≥ 0)) then
        (at? x1.1 0).bind fun x2 =>
        (at? s2.2 (w64 ((s2.2.length:Int) - 1))).bind fun x3 =>
        some (x2.From == (w64 (x3.To + 1)))
       else
        some false)).bind fun (y5:Bool) =>
      (bif y5 then
       (at? x1.1 0).bind fun x4 =>
       (at? s2.2 (w64 ((s2.2.length:Int) - 1))).bind fun x5 =>
       (cut? x1.1 1 (x1.1.length:Int)).bind fun x6 =>
       some (x6,(s2.2.set ((w64 ((s2.2.length:Int) - 1))).toNat (Span.mk x5.From x4.To)))
      else
       some (x1.1,s2.2))).bind fun (y4:(List Span) × (List Span)) =>
     (app? 16 y4.2 y4.1).bind fun x7 =>
     some (.go x7))).bind fun (y3:Jx ((List Span)) ((List Span) × Int)) =>
   y3.elim (fun r' =>
     some (.ret r')) fun a4 =>
   some (.go a4)).bind fun (y2:Jx ((List Span)) ((List Span) × Int)) =>
  y2.elim (fun r' =>
    some (.inr (.ret r'))) fun a5 =>
  some (.inl ((w64 (s2.1 + 1)),a5))
 else
  some (.inr (.go s2.2)))
theorem Z7K {f:Form} {to':Int} {s2:Int × (List Span)}:Le (Z0N.s0 f to' s2) (Zo.s0 f to' s2):=by
 unfold Z0N.s0 Zo.s0
 repeat' (with_reducible (first | exact Le.refl _ | apply Le.bind | apply Le.cond | apply Le.elim | apply Z3h | intro _))
def Z0N (f:Form) (from':Int) (to':Int):Option ((List Span) × Int) :=
 (Z0y (Z0N.s0 f to') (from',[])).bind fun (y1:Jx ((List Span)) ((List Span) × Int)) =>
 y1.elim (fun r' =>
   some r') fun a6 =>
 some (a6,0)
theorem Z3W {f:Form} {from':Int} {to':Int}:Le (Z0N f from' to') (Zo f from' to'):=by
 unfold Z0N Zo
 repeat' (with_reducible (first | exact Le.refl _ | apply Le.bind | apply Le.elim | apply Le.loop | apply Z7K | intro _))
def Zv.s0 (coarse:Form) (x3:Int × Int × Int) (s1:Int):Option ((Int) ⊕ (Jx (Unit) ((List Int) × Int × Int))) :=
 (bif (decide (s1 < (w64 (x3.1 + 1)))) then
  (Z2v coarse s1).bind fun x4 =>
  (bif (x4.2 != 0) then
   some (.inr (.ret ([],0,20)))
  else
   some (.inl (w64 (s1 + 1))))
 else
  some (.inr (.go ())))
theorem Z8d {coarse:Form} {x3:Int × Int × Int} {s1:Int}:Le (Zv.s0 coarse x3 s1) (ZL.s0 coarse x3 s1):=by
 unfold Zv.s0 ZL.s0
 repeat' (with_reducible (first | exact Le.refl _ | apply Le.bind | apply Le.cond | apply Z3h | intro _))
def Zv.s2 (fine:Form) (y4:((List (List Span)) × (List Int)) × Nat) (x10:(List (List Span))) (s5:Int):Option ((Int) ⊕ (Jx (Unit) ((List Int) × Int × Int))) :=
 (bif (decide (s5 < (x10.length:Int))) then
  (at? x10 s5).bind fun x11 =>
  (at? y4.1.2 s5).bind fun x12 =>
  (at? y4.1.2 (w64 (s5 + 1))).bind fun x13 =>
  (Z0N fine x12 x13).bind fun x14 =>
  (Z4o x14.1 x11).bind fun x15 =>
  (bif (!x15) then
   some (.inr (.ret ([],0,51)))
  else
   some (.inl (w64 (s5 + 1))))
 else
  some (.inr (.go ())))
theorem Z8i {fine:Form} {y4:((List (List Span)) × (List Int)) × Nat} {x10:(List (List Span))} {s5:Int}:Le (Zv.s2 fine y4 x10 s5) (ZL.s2 fine y4 x10 s5):=by
 unfold Zv.s2 ZL.s2
 repeat' (with_reducible (first | exact Le.refl _ | apply Le.bind | apply Le.cond | apply Z3W | apply Z7h | intro _))
def Zv (fine:Form) (coarse:Form):Option ((List Int) × Int × Int) :=
 (Z3x fine).bind fun x1 =>
 (
  (bif (!x1) then
   some true
  else
   (Z3x coarse).bind fun x2 =>
   some (!x2))).bind fun (y1:Bool) =>
 (bif y1 then
  some ([],0,51)
 else
  (Z3q fine coarse).bind fun x3 =>
  (bif (x3.2.2 != 0) then
   some ([],0,x3.2.2)
  else
   (Z0y (Zv.s0 coarse x3) 0).bind fun (y2:Jx (Unit) ((List Int) × Int × Int)) =>
   y2.elim (fun r' =>
     some r') fun a2 =>
   (
    some (w64 (x3.1 + 1))).bind fun (y3:Int) =>
   (Z0w y3 coarse fine (Z1J ZL.b1) (([],[]),0)).bind fun (y4:((List (List Span)) × (List Int)) × Nat) =>
   (bif (decide ((y4.1.2.length:Int)≤x3.1)) then
    some ([],0,51)
   else
    (at? y4.1.2 0).bind fun x7 =>
    (at? y4.1.2 x3.1).bind fun x8 =>
    (Z0N fine x7 x8).bind fun x9 =>
    (bif (x9.2 != 0) then
     some ([],0,x9.2)
    else
     (some? y4.1.1).bind fun u1 =>
     (cut? y4.1.1 0 x3.1).bind fun x10 =>
     (Z0y (Zv.s2 fine y4 x10) 0).bind fun (y5:Jx (Unit) ((List Int) × Int × Int)) =>
     y5.elim (fun r' =>
       some r') fun a4 =>
     (some? y4.1.2).bind fun u2 =>
     (cut? y4.1.2 0 x3.1).bind fun x16 =>
     some (x16,x3.2.1,0)))))
theorem Z6r {fine:Form} {coarse:Form}:Le (Zv fine coarse) (ZL fine coarse):=by
 unfold Zv ZL
 repeat' (with_reducible (first | exact Le.refl _ | apply Le.bind | apply Le.cond | apply Le.elim | apply Le.loop | refine Le.Z1J ?_ _ _ | apply ZAf | apply Z8d | apply Z8k | apply Z3W | apply Z8i | intro _))
def Z0t.s1 (fine:Form) (k:Int) (l:Int) (m:Int) (x1:(List Int) × Int × Int) (y1:Int × Int) (x7:Int × Int) (s3:Int × (List (List Span))):Option ((Int × (List (List Span))) ⊕ (Jx ((List (List Span)) × Int × Int) (Form × Int))) :=
 (bif (decide (s3.1 < (w64 (y1.1 * (w64 (fine.Count.tdiv x7.1)))))) then
  (Zt s3.1 (x1.1.length:Int) l m x1.1 x1.2.1 k).bind fun x8 =>
  (Zt (w64 (s3.1 + 1)) (x1.1.length:Int) l m x1.1 x1.2.1 k).bind fun x9 =>
  (Z0N fine x8 x9).bind fun x10 =>
  (bif (x10.2 != 0) then
   some (.inr (.ret ((Form.mk 0 0 [] []),x10.2)))
  else
   (app? 24 s3.2 [x10.1]).bind fun x11 =>
   some (.inl ((w64 (s3.1 + 1)),x11)))
 else
  some (.inr (.go (s3.2,(Z7 (w64 ((w64 (y1.2 * (w64 (fine.Count.tdiv x7.1)))).tdiv fine.Count)) fine.Period).1,(w64 (y1.1 * (w64 (fine.Count.tdiv x7.1))))))))
theorem Z9J {fine:Form} {k:Int} {l:Int} {m:Int} {x1:(List Int) × Int × Int} {y1:Int × Int} {x7:Int × Int} {s3:Int × (List (List Span))}:Le (Z0t.s1 fine k l m x1 y1 x7 s3) (Zb.s1 fine k l m x1 y1 x7 s3):=by
 unfold Z0t.s1 Zb.s1
 repeat' (with_reducible (first | exact Le.refl _ | apply Le.bind | apply Le.cond | apply Z3W | intro _))
def Z0t (fine:Form) (coarse:Form) (k:Int) (l:Int) (m:Int):Option (Form × Int) :=
 (bif ((((((decide (m < 1)) || (decide (m > 6000))) || (decide (l < 0))) || (decide (l ≥ m))) || (decide (k < (-6000)))) || (decide (k > 6000))) then
  some ((Form.mk 0 0 [] []),2)
 else
  (Zv fine coarse).bind fun x1 =>
  (bif (x1.2.2 != 0) then
   some ((Form.mk 0 0 [] []),x1.2.2)
  else
   (
    (Z3X (x1.1.length:Int) m).bind fun x2 =>
    (Zt x2.1 (x1.1.length:Int) l m x1.1 x1.2.1 k).bind fun x3 =>
    (Zt 0 (x1.1.length:Int) l m x1.1 x1.2.1 k).bind fun x4 =>
    some (x2.1,(w64 (x3 - x4)))).bind fun (y1:Int × Int) =>
   (bif (decide (y1.1 > 6000)) then
    some ((Form.mk 0 0 [] []),3)
   else
    (Z0y (Zb.s0 k l m x1 y1) 0).bind fun (y2:Jx (Unit) (Form × Int)) =>
    y2.elim (fun r' =>
      some r') fun a2 =>
    (Z5b fine.Count y1.2).bind fun x7 =>
    (nz? x7.1).bind fun u1 =>
    (bif ((decide ((w64 (y1.1 * (w64 (fine.Count.tdiv x7.1)))) > 6000)) || (decide ((w64 (y1.2 * (w64 (fine.Count.tdiv x7.1)))) > 60000))) then
     some ((Form.mk 0 0 [] []),3)
    else
     (nz? fine.Count).bind fun u2 =>
     (bif ((((Z7 (w64 ((w64 (y1.2 * (w64 (fine.Count.tdiv x7.1)))).tdiv fine.Count)) fine.Period).2) != 0) || (decide (((Z7 (w64 ((w64 (y1.2 * (w64 (fine.Count.tdiv x7.1)))).tdiv fine.Count)) fine.Period).1) > 1099511627776))) then
      some ((Form.mk 0 0 [] []),20)
     else
      (Z0y (Z0t.s1 fine k l m x1 y1 x7) (0,[])).bind fun (y3:Jx ((List (List Span)) × Int × Int) (Form × Int)) =>
      y3.elim (fun r' =>
        some r') fun a4 =>
      (Z3w (Form.mk a4.2.1 a4.2.2 a4.1 [])).bind fun x12 =>
      some (x12.1,x12.2))))))
theorem ZBs {fine:Form} {coarse:Form} {k:Int} {l:Int} {m:Int}:Le (Z0t fine coarse k l m) (Zb fine coarse k l m):=by
 unfold Z0t Zb
 repeat' (with_reducible (first | exact Le.refl _ | apply Le.bind | apply Le.cond | apply Le.elim | apply Le.loop | apply Z6r | apply Z9J | apply Z6w | intro _))
def Z3j (a:(List Int)) (b:(List Int)):Option (Bool) :=
 (bif ((a.length:Int) != (b.length:Int)) then
  some false
 else
  (Z0y (Z0h.s0 a b) 0).bind fun (y1:Jx (Unit) (Bool)) =>
  y1.elim (fun r' =>
    some r') fun a2 =>
  some true)
theorem Z8I {a:(List Int)} {b:(List Int)}:Le (Z3j a b) (Z0h a b):=by
 unfold Z3j Z0h
 repeat' (with_reducible (first | exact Le.refl _ | apply Le.bind | apply Le.cond | apply Le.elim | apply Le.loop | intro _))
def Z0Q.s0 (x3:Form × Int) (s1:Int):Option ((Int) ⊕ (Jx (Unit) (Bool))) :=
 (bif (decide (s1 < ([(Span.mk 0 7),(Span.mk 8 14),(Span.mk 15 21),(Span.mk 22 28)].length:Int))) then
  (at? [(Span.mk 0 7),(Span.mk 8 14),(Span.mk 15 21),(Span.mk 22 28)] s1).bind fun x8 =>
  (Z1X x3.1 s1).bind fun x9 =>
  (
   (bif (x9.2 != 0) then
    some true
   else
    (Z42 x9.1 [x8]).bind fun x10 =>
    some (!x10))).bind fun (y3:Bool) =>
  (bif y3 then
   some (.inr (.ret false))
  else
   some (.inl (w64 (s1 + 1))))
 else
  some (.inr (.go ())))
theorem Z66 {x3:Form × Int} {s1:Int}:Le (Z0Q.s0 x3 s1) (Z0G.s0 x3 s1):=by
 unfold Z0Q.s0 Z0G.s0
 repeat' (with_reducible (first | exact Le.refl _ | apply Le.bind | apply Le.cond | apply Z2q | apply Z8g | intro _))
def Z0Q:Option (Bool) :=
 (Z10 Z9 7).bind fun x1 =>
 (Zv Z9 x1.1).bind fun x2 =>
 (Z0t Z9 x1.1 1 0 4).bind fun x3 =>
 (Z0t Z9 x1.1 (-7) 0 4).bind fun x4 =>
 (Zv Z9 Z3N).bind fun x5 =>
 (Z0t Z9 x1.1 1 4 4).bind fun x6 =>
 (
  (bif (((((((x1.2 != 0) || (x2.2.2 != 0)) || (x3.2 != 0)) || (x4.2 != 51)) || (x5.2.2 != 51)) || (x6.2 != 2)) || (x2.2.1 != 7)) then
   some true
  else
   (Z3j x2.1 [0]).bind fun x7 =>
   some (!x7))).bind fun (y1:Bool) =>
 (bif ((y1 || (x3.1.Period != 29)) || (x3.1.Count != 4)) then
  some false
 else
  (Z0y (Z0Q.s0 x3) 0).bind fun (y2:Jx (Unit) (Bool)) =>
  y2.elim (fun r' =>
    some r') fun a2 =>
  some true)
theorem Z7W:Le (Z0Q) (Z0G):=by
 unfold Z0Q Z0G
 repeat' (with_reducible (first | exact Le.refl _ | apply Le.bind | apply Le.cond | apply Le.elim | apply Le.loop | apply ZAX | apply Z6r | apply ZBs | apply Z8I | apply Z66 | intro _))
theorem Z77:Z0Q = some true:=by kernel_rfl
theorem Z7U:Z0G = some true:=Z7W _ Z77
end
end Go.Dn

namespace Go.Dn
open Go Go.Proofs
set_option maxRecDepth 100000
set_option maxHeartbeats 4000000
abbrev vl {α:Type} (c:α→List FV) (x:List α):PV:=.v (.sl (x.map c))
abbrev vi (x:Int):PV:=.v (.int .i64 x)
abbrev vu (x:Int):PV:=.v (.int .u64 x)
abbrev vb (x:Bool):PV:=.v (.bool x)
section
theorem Ops.wt {X:Ctx} {n:Nat} {dr:Bool} {ops:Array Oper} {base i:Nat} {l:List Oper} {e:Env} {σ:Heap} {K:Env→Heap→Prop} {op:Op} {t:TypeId} {p:String} {af:Array Edge} {j:Nat} {g:Tmp} {w:Bool} {dst:Option Tmp} (hg:(ops[j]?).bind (·.dst) = some g) (he:e g = .v (.bool w)) (hk:Ops X n dr ops base i (⟨dst,op,t,p,af,none⟩ :: l) e σ K):Ops X n dr ops base i (⟨dst,op,t,p,af,some (j,w)⟩ :: l) e σ K:=.wanted hg he hk
variable {X:Ctx} {n:Nat} {dr:Bool} {ops:Array Oper} {base i:Nat} {l:List Oper} {e:Env} {σ:Heap} {K:Env→Heap→Prop} {d:Nat} {t t1 t2:TypeId} {p:String} {af:Array Edge} {x y:Operand} {lo hi:Nat} {L:List Res}
theorem Ops.mv (v:PV) (hx:Z0 X e x = some v) (hd:Nat.blt d n = true) (hk:Ops X n dr ops base (i + 1) l (set e d v) σ K):Ops X n dr ops base i (⟨some d,.move x,t,p,af,none⟩ :: l) e σ K:=.move hx hd hk
theorem Ops.av (v:PV) (hx:Z0 X e x = some v) (hd:Nat.blt d n = true) (hk:Ops X n dr ops base (i + 1) l (set e d v) σ K):Ops X n dr ops base i (⟨some d,.assign x,t,p,af,none⟩ :: l) e σ K:=.assign hx hd hk
theorem Ops.it {op:BinOp} {k:IntKind} (m m':Int) (r:FV) (hx:Z0 X e x = some (.v (.int k m))) (hy:Z0 X e y = some (.v (.int k m'))) (hop:(op != .shl && op != .shr) = true) (hr:Z8L op k m m' = some r) (hd:Nat.blt d n = true) (hk:Ops X n dr ops base (i + 1) l (set e d (.v r)) σ K):Ops X n dr ops base i (⟨some d,.binOp op t1 x y t2,t,p,af,none⟩ :: l) e σ K:=.int hx hy hop hr hd hk
theorem Ops.xt (v:PV) {vs:List PV} {j:Nat} (hx:Z0 X e x = some (.tup vs)) (hj:vs[j]? = some v) (hd:Nat.blt d n = true) (hk:Ops X n dr ops base (i + 1) l (set e d v) σ K):Ops X n dr ops base i (⟨some d,.extract x j,t,p,af,none⟩ :: l) e σ K:=.extract hx hj hd hk
theorem Ops.ld (v:PV) {id ver off:Nat} {te:TypeId} {cells:List PV} (H:Has σ lo hi L) (k:Nat) (hk:L[k]? = some (.blk id te cells)) (hv:cells.length = ver) (hx:Z0 X e x = some (.ptr id ver off)) (hg:tagg X.P t1 = some false) (hc:cells[off]? = some v) (ha:dr = true→Seen ops base i id false) (hd:Nat.blt d n = true) (hk':Ops X n dr ops base (i + 1) l (set e d v) σ K):Ops X n dr ops base i (⟨some d,.load t1 x,t,p,af,none⟩ :: l) e σ K:=.loadH H k hk hv hx hg hc ha hd hk'
end
theorem sk {α:Type} {a b:α} (h:some a = some b):b = a:=(Option.some.inj h).symm
theorem V {α:Sort _} {a:α}:a = a:=rfl
theorem U:True:=trivial
theorem Has.wk {σ:Heap} {lo hi:Nat} {L:List Res} (H:Has σ lo hi L) {lo':Nat} (h:lo≤lo'):Has σ lo' hi L:=H.weak h (YB _)
abbrev vR (x:Range):List PV:=[vi x.Low,vi x.High,vb x.HasLow,vb x.HasHigh]
theorem sj {α:Type} {a b:α} (h:some a = some b):a = b:=Option.some.inj h
abbrev vF (f:Form):List PV:=[vi f.Period,vi f.Count,vl (cL Span.cs) f.Core,vl Granule.cs f.Odd]
abbrev vG (f:size_form):List PV:=[vi f.Form.Period,vi f.Form.Count,vl (cL Span.cs) f.Form.Core,vl Granule.cs f.Form.Odd,vl size_spot.cs f.spots]
theorem Z9t {f:Form} {r:Int} (h:Z04 f = some r):Fn CX 55 [(.agg (vs (Form.cs f)))] (vi r):=by
 refine Fn.go Try.func55 V fun σ H => ?_;unfold Z04 at h;refine .tR 2 V H fun b1 σ H => (.bxc (cs:=(vF f)) H V V V fun σ H => (.aV V (.na H fun H => (.tR 1 V H fun b2 σ H => (.aV V (.na H fun H => (.then (.tR 4 V H fun b3 σ H => ?_))))))));refine .fV H 0 V (.lV H 0 V (.nV V (.mV V (.na H fun H => (.inBlock ?_)))));refine .lp h (fun s1 => [(1,(.ptr (b1 + 0) 4 0)),(3,(vi s1.1)),(9,(vl (cL Span.cs) f.Core)),(10,(vi (f.Core.length:Int))),(11,(vi s1.2))]) (fun s1 => [.blk (b1 + 0) 25 (vF f)]) (.exit 0) (fun y1 => [(1,(.ptr (b1 + 0) 4 0)),(3,(vi y1))]) (fun y1 => [.blk (b1 + 0) 25 (vF f)]) (EI V) H (fun s1 e σ H z h => ?_) fun y1 e σ H h => ?_
 ·unfold Z04.s0 at h;refine .tR 1 V H fun b4 σ H => (.iV V (.na H fun H => (.then ?_)));refine .wh h V ?_ ?_ <;> intro h
  ·refine .skip (.then (.inBlock (.tR 3 V H fun b5 σ H => ?_)));obtain ⟨x1,q1,h⟩:=bs h;refine .jV q1 V (.pV V (.aV V (.na H fun H => (.ZJ 5 V H fun b6 σ H => (.mV V (.mV V (.nV V (.iV V ?_))))))));refine .aV V (.na H fun H => (.ZJ 2 V H fun b7 σ H => (.iV V (.mV V (.na H fun H => ?_)))));obtain rfl:=sj h;exact ⟨V,EI V,H⟩
  refine .exit ?_;obtain rfl:=sj h;exact ⟨nofun,⟨V,EI V,H⟩⟩
 refine .then (.tR 4 V H fun b8 σ H => (.fV H 0 V (.lV H 0 V (.nV V (.mV V (.na H fun H => (.inBlock ?_)))))));refine .lp h (fun s2 => [(3,(vi s2.1)),(21,(vl Granule.cs f.Odd)),(22,(vi (f.Odd.length:Int))),(23,(vi s2.2))]) (fun s2 => []) (.exit 2) (fun y2 => [(3,(vi y2))]) (fun y2 => []) (EI V) (H.erase 0) (fun s2 e σ H z h => ?_) fun y2 e σ H h => ?_
 ·unfold Z04.s1 at h;refine .tR 1 V H fun b9 σ H => (.iV V (.na H fun H => (.then ?_)));refine .wh h V ?_ ?_ <;> intro h
  ·refine .skip (.then (.inBlock (.tR 4 V H fun b10 σ H => ?_)));obtain ⟨x2,q2,h⟩:=bs h;refine .jV q2 V (.qV [(.int .i64 x2.Index),(.sl (x2.Ticks.map Span.cs))] V (.alc (cs:=[(vi 0),.nils]) H V V fun σ H => (.sV [(vi x2.Index),(vl Span.cs x2.Ticks)] H 0 V fun σ H => (.na H fun H => (.ZJ 6 V H fun b11 σ H => (.mV V (.fV H 0 V (.lV H 0 V ?_))))))));refine .nV V (.iV V (.aV V (.na H fun H => (.ZJ 2 V H fun b12 σ H => (.iV V (.mV V (.na H fun H => ?_)))))));obtain rfl:=sj h;exact ⟨V,EI V,(H.erase 0)⟩
  refine .exit ?_;obtain rfl:=sj h;exact ⟨nofun,⟨V,EI V,H⟩⟩
 refine .tR 2 V H fun b13 σ H => (.mV V (.aV V (.na H fun H => (.ret ?_))));obtain rfl:=sj h;exact Ends.eR V
theorem Z8h {f:Form} {r:Bool} (h:Z0n f = some r):Fn CX 26 [(.agg (vs (Form.cs f)))] (vb r):=by
 refine Fn.go Try.func26 V fun σ H => ?_;unfold Z0n at h;refine .tR 2 V H fun b1 σ H => (.bxc (cs:=(vF f)) H V V V fun σ H => (.aV V (.na H fun H => (.tR 16 V H fun b2 σ H => (.fV H 0 V (.lV H 0 V (.nV V (.iV V ?_))))))));refine .mV V ?_;refine .md H 5 [(12,(vb ((decide ((f.Core.length:Int)≤12)) && (decide ((f.Odd.length:Int)≤8))))),(1,(.ptr (b1 + 0) 4 0))] [.blk (b1 + 0) 25 (vF f)] V ?_ fun e σ H => ?_
 ·refine .split V V ?_ ?_ <;> intro hc1
  ·refine .fV H 0 V (.lV H 0 V (.nV V (.iV V (.kT V (.nil ?_)))));exact ⟨⟨Z3C hc1,V,U⟩,H.wk (by omega)⟩
  ·refine .ps 4 V (.kF V (.nil ?_));exact ⟨⟨Z3B hc1,V,U⟩,H.wk (by omega)⟩
 refine .mV V ?_;obtain ⟨y1,hj1,h⟩:=bs h;refine .md H 4 [(17,(vb y1))] [] V ?_ fun e σ H => ?_
 ·refine .sp hj1 V ?_ ?_ <;> intro h
  ·refine .LV (vF f) H 0 V (.wt V V ?_);obtain ⟨x1,q1,h⟩:=bs h;refine .cV (Z9t q1) V (.iV V (.kT V (.nil ?_)));obtain rfl:=sj h;exact ⟨EI V,(H.erase 0).wk (by omega)⟩
  refine .ps 3 V (.kF V (.nil ?_));obtain rfl:=sj h;exact ⟨EI V,(H.erase 0).wk (by omega)⟩
 refine .aV V (.na H fun H => (.ret ?_));obtain rfl:=sj h;exact Ends.eR V
theorem Z4n {t:Int} {r:Bool} (h:Z0l t = r):Fn CX 69 [(vi t)] (vb r):=by
 refine Fn.go Try.func69 V fun σ H => ?_;unfold Z0l at h;refine .tR 1 V H fun b1 σ H => (.aV V (.na H fun H => (.tR 7 V H fun b2 σ H => (.mV V (.iV V (.mV V ?_))))));refine .md H 3 [(8,(vb ((decide (t ≥ (-1099511627776))) && (decide (t≤1099511627776)))))] [] V ?_ fun e σ H => ?_
 ·refine .split V V ?_ ?_ <;> intro hc1
  ·refine .mV V (.iV V (.kT V (.nil ?_)));exact ⟨⟨Z3C hc1,U⟩,H.wk (by omega)⟩
  ·refine .ps 2 V (.kF V (.nil ?_));exact ⟨⟨Z3B hc1,U⟩,H.wk (by omega)⟩
 refine .aV V (.na H fun H => (.ret ?_));subst h;exact Ends.eR V
theorem Z8J {l:(List Span)} {r:Bool} (h:Z06 l = some r):Fn CX 83 [(vl Span.cs l)] (vb r):=by
 refine Fn.go Try.func83 V fun σ H => ?_;unfold Z06 at h;refine .tR 1 V H fun b1 σ H => (.aV V (.na H fun H => (.then (.tR 3 V H fun b2 σ H => (.mV V (.nV V (.mV V (.na H fun H => ?_))))))));refine .inBlock ?_;obtain ⟨y1,hj1,h⟩:=bs h;obtain ⟨n1,hj1⟩:=ZR.1 hj1;refine .mono (Runs.loopO hj1 (fun s1 e σ => ZE e [(0,(vl Span.cs l)),(5,(vl Span.cs l)),(6,(vi (l.length:Int))),(7,(vi s1))]∧Hs σ []) (fun y1 x e σ => (∃ a1,y1 = (.go a1)∧x = .exit 0∧ZE e []∧Hs σ [])∨(∃ r',y1 = (.ret r')∧x = .ret∧Ends CX Try.f83.results.toList (vb r') x e σ)) ⟨EI V,H⟩ ?_) ?_
 ·intro s1 e σ hI z h;obtain ⟨he,H⟩:=hI;obtain ⟨e,rfl⟩:=he.ex;unfold Z06.s0 at h;refine .tR 1 V H fun b3 σ H => (.iV V (.na H fun H => (.then ?_)));refine .wh h V ?_ ?_ <;> intro h
  ·refine .skip (.then (.inBlock (.tR 6 V H fun b4 σ H => (.mV V ?_))));obtain ⟨x1,q1,h⟩:=bs h;refine .jV q1 V (.qV [(.int .i64 x1.From),(.int .i64 x1.To)] V (.alc (cs:=[(vi 0),(vi 0)]) H V V fun σ H => (.aV V (.sV [(vi x1.From),(vi x1.To)] H 0 V fun σ H => (.na H fun H => (.then (.Z0P 33 V (by kernel_rfl) H fun b5 σ H B5 => (.ZN H 0 V V V V V (so (B5 0 _ V _ V)) V ?_))))))));refine .ld (vi x1.From) H 0 V V V V V (so (B5 0 _ V _ V)) V (.cV (Z4n V) V (.tV V (.mV V ?_)));refine .md H 5 [(21,(vb ((!(Z0l x1.From)) || (!(Z0l x1.To))))),(0,(vl Span.cs l)),(3,(vi s1)),(4,(.ptr (b4 + 3) 2 0)),(5,(vl Span.cs l)),(6,(vi (l.length:Int))),(7,(vi s1))] [.blk (b4 + 3) 59 [(vi x1.From),(vi x1.To)]] rfl ?_ fun e σ H => ?_
   ·refine .split V V ?_ ?_ <;> intro hc2
    ·refine .ps 4 V (.kT V (.nil ?_));exact ⟨⟨or_T hc2,V,V,V,V,V,V,U⟩,H.wk (by omega)⟩
    ·refine .wt V V (.ZN H 0 V V V V V (so (B5 0 _ V _ V)) V (.wt V V (.ld (vi x1.To) H 0 V V V V V (so (B5 0 _ V _ V)) V (.cV (Z4n V) V (.tV V (.kF V (.nil ?_)))))));exact ⟨⟨or_F hc2,V,V,V,V,V,V,U⟩,H.wk (by omega)⟩
   refine .mV V ?_;refine .md H 6 [(28,(vb (((!(Z0l x1.From)) || (!(Z0l x1.To))) || (decide (x1.From > x1.To))))),(0,(vl Span.cs l)),(3,(vi s1)),(4,(.ptr (b4 + 3) 2 0)),(5,(vl Span.cs l)),(6,(vi (l.length:Int))),(7,(vi s1))] [.blk (b4 + 3) 59 [(vi x1.From),(vi x1.To)]] rfl ?_ fun e σ H => ?_
   ·refine .split V V ?_ ?_ <;> intro hc3
    ·refine .ps 5 V (.kT V (.nil ?_));exact ⟨⟨or_T hc3,V,V,V,V,V,V,U⟩,H.wk (by omega)⟩
    ·refine .wt V V (.ZN H 0 V V V V V (so (B5 0 _ V _ V)) V (.wt V V (.ld (vi x1.From) H 0 V V V V V (so (B5 0 _ V _ V)) V (.wt V V (.ZN H 0 V V V V V (so (B5 0 _ V _ V)) V (.wt V V (.ld (vi x1.To) H 0 V V V V V (so (B5 0 _ V _ V)) V (.iV V ?_))))))));refine .kF V (.nil ?_);exact ⟨⟨or_F hc3,V,V,V,V,V,V,U⟩,H.wk (by omega)⟩
   refine .mV V ?_;obtain ⟨y2,hj2,h⟩:=bs h;refine .md H 15 [(44,(vb y2)),(0,(vl Span.cs l)),(5,(vl Span.cs l)),(6,(vi (l.length:Int))),(7,(vi s1))] [] V ?_ fun e σ H => ?_
   ·refine .sp hj2 V ?_ ?_ <;> intro h
    ·refine .ps 14 V (.kT V (.nil ?_));obtain rfl:=sj h;exact ⟨EI V,(H.erase 0).wk (by omega)⟩
    refine .mV V (.iV V (.mV V ?_));obtain ⟨y3,hj3,h⟩:=bs h;refine .md H 11 [(43,(vb y3)),(0,(vl Span.cs l)),(5,(vl Span.cs l)),(6,(vi (l.length:Int))),(7,(vi s1)),(29,(vb false))] [] V ?_ fun e σ H => ?_
    ·refine .sp hj3 V ?_ ?_ <;> intro h
     ·refine .wt V V (.ZN H 0 V V V V V (so (B5 0 _ V _ V)) V (.wt V V (.ld (vi x1.From) H 0 V V V V V (so (B5 0 _ V _ V)) V (.mV V (.mV V (.iV V (.wt V V ?_)))))));obtain ⟨x2,q2,h⟩:=bs h;refine .jV q2 V (.wt V V (.Z0B V V V V (.pV V (.iV V (.iV V (.kT V (.nil ?_)))))));obtain rfl:=sj h;exact ⟨EI V,(H.erase 0).wk (by omega)⟩
     refine .ps 10 V (.kF V (.nil ?_));obtain rfl:=sj h;exact ⟨EI V,(H.erase 0).wk (by omega)⟩
    refine .kF V (.nil ?_);obtain rfl:=sj h;exact ⟨EI V,H.wk (by omega)⟩
   refine .na H fun H => ?_;refine .wh h V ?_ ?_ <;> intro h
   ·refine .tR 1 V H fun b6 σ H => (.aV V (.na H fun H => (.ret ?_)));obtain rfl:=sj h;exact ⟨nofun,(.inr ⟨_,V,V,(Ends.H (xs:=[(vb false)]) (.inr V) H (.tmp (v:=(vb false)) V .nil) (.one (.c (.v _))))⟩)⟩
   refine .skip (.ZJ 2 V H fun b7 σ H => (.iV V (.mV V (.na H fun H => ?_))));obtain rfl:=sj h;exact ⟨V,EI V,H⟩
  refine .exit ?_;obtain rfl:=sj h;exact ⟨nofun,(.inl ⟨_,V,V,U,H⟩)⟩
 ·rintro x e σ (⟨a2,rfl,rfl,he,H⟩ | ⟨r',rfl,rfl,hE⟩)
  ·replace h:=jgo h;obtain ⟨e,rfl⟩:=he.ex;refine .tR 1 V H fun b8 σ H => (.aV V (.na H fun H => (.ret ?_)));obtain rfl:=sj h;exact Ends.eR V
  ·replace h:=jret h;obtain rfl:=sj h;exact hE
theorem Z5F {i:Int} {r:Bool} (h:Z0x i = r):Fn CX 41 [(vi i)] (vb r):=by
 refine Fn.go Try.func41 V fun σ H => ?_;unfold Z0x at h;refine .tR 1 V H fun b1 σ H => (.aV V (.na H fun H => (.tR 7 V H fun b2 σ H => (.mV V (.iV V (.mV V ?_))))));refine .md H 3 [(8,(vb ((decide (i ≥ (-1099511627776))) && (decide (i≤1099511627776)))))] [] V ?_ fun e σ H => ?_
 ·refine .split V V ?_ ?_ <;> intro hc1
  ·refine .mV V (.iV V (.kT V (.nil ?_)));exact ⟨⟨Z3C hc1,U⟩,H.wk (by omega)⟩
  ·refine .ps 2 V (.kF V (.nil ?_));exact ⟨⟨Z3B hc1,U⟩,H.wk (by omega)⟩
 refine .aV V (.na H fun H => (.ret ?_));subst h;exact Ends.eR V
theorem gran_shape_fn {f:Form} {r:Bool} (h:Zi f = some r):Fn CX 56 [(.agg (vs (Form.cs f)))] (vb r):=by
 refine Fn.go Try.func56 V fun σ H => ?_;unfold Zi at h;refine .tR 2 V H fun b1 σ H => (.bxc (cs:=(vF f)) H V V V fun σ H => (.aV V (.na H fun H => (.then (.tR 25 V H fun b2 σ H => (.fV H 0 V (.lV H 0 V (.fV H 0 V ?_))))))));refine .lV H 0 V (.nV V (.iV V (.mV V ?_)));refine .md H 8 [(21,(vb ((f.Count != (f.Core.length:Int)) || ((f.Count == 0) != (f.Period == 0))))),(1,(.ptr (b1 + 0) 4 0))] [.blk (b1 + 0) 25 (vF f)] rfl ?_ fun e σ H => ?_
 ·refine .split V V ?_ ?_ <;> intro hc1
  ·refine .ps 7 V (.kT V (.nil ?_));exact ⟨⟨or_T hc1,V,U⟩,H.wk (by omega)⟩
  ·refine .fV H 0 V (.lV H 0 V (.iV V (.fV H 0 V (.lV H 0 V (.iV V (.wt V V (.neB (b:=(f.Count == 0)) (b':=(f.Period == 0)) V V V V (.kF V ?_))))))));refine .nil ?_;exact ⟨⟨or_F hc1,V,U⟩,H.wk (by omega)⟩
 refine .mV V ?_;refine .md H 4 [(26,(vb (((f.Count != (f.Core.length:Int)) || ((f.Count == 0) != (f.Period == 0))) || (decide (f.Period < 0))))),(1,(.ptr (b1 + 0) 4 0))] [.blk (b1 + 0) 25 (vF f)] rfl ?_ fun e σ H => ?_
 ·refine .split V V ?_ ?_ <;> intro hc2
  ·refine .ps 3 V (.kT V (.nil ?_));exact ⟨⟨or_T hc2,V,U⟩,H.wk (by omega)⟩
  ·refine .fV H 0 V (.lV H 0 V (.iV V (.kF V (.nil ?_))));exact ⟨⟨or_F hc2,V,U⟩,H.wk (by omega)⟩
 refine .mV V ?_;refine .md H 4 [(31,(vb ((((f.Count != (f.Core.length:Int)) || ((f.Count == 0) != (f.Period == 0))) || (decide (f.Period < 0))) || (decide (f.Period > 1099511627776))))),(1,(.ptr (b1 + 0) 4 0))] [.blk (b1 + 0) 25 (vF f)] rfl ?_ fun e σ H => ?_
 ·refine .split V V ?_ ?_ <;> intro hc3
  ·refine .ps 3 V (.kT V (.nil ?_));exact ⟨⟨or_T hc3,V,U⟩,H.wk (by omega)⟩
  ·refine .fV H 0 V (.lV H 0 V (.iV V (.kF V (.nil ?_))));exact ⟨⟨or_F hc3,V,U⟩,H.wk (by omega)⟩
 refine .na H fun H => ?_;refine .wh h V ?_ ?_ <;> intro h
 ·refine .tR 1 V H fun b3 σ H => (.aV V (.na H fun H => (.ret ?_)));obtain rfl:=sj h;exact Ends.eR V
 refine .skip (.then (.tR 4 V H fun b4 σ H => (.fV H 0 V (.lV H 0 V (.nV V (.mV V (.na H fun H => (.inBlock ?_))))))));obtain ⟨y1,hj1,h⟩:=bs h;obtain ⟨n1,hj1⟩:=ZR.1 hj1;refine .mono (Runs.loopO hj1 (fun s1 e σ => ZE e [(1,(.ptr (b1 + 0) 4 0)),(33,(vl (cL Span.cs) f.Core)),(34,(vi (f.Core.length:Int))),(35,(vi s1))]∧Hs σ [.blk (b1 + 0) 25 (vF f)]) (fun y1 x e σ => (∃ a1,y1 = (.go a1)∧x = .exit 0∧ZE e [(1,(.ptr (b1 + 0) 4 0))]∧Hs σ [.blk (b1 + 0) 25 (vF f)])∨(∃ r',y1 = (.ret r')∧x = .ret∧Ends CX Try.f56.results.toList (vb r') x e σ)) ⟨EI V,H⟩ ?_) ?_
 ·intro s1 e σ hI z h;obtain ⟨he,H⟩:=hI;obtain ⟨e,rfl⟩:=he.ex;unfold Zi.s0 at h;refine .tR 1 V H fun b5 σ H => (.iV V (.na H fun H => (.then ?_)));refine .wh h V ?_ ?_ <;> intro h
  ·refine .skip (.then (.inBlock (.tR 3 V H fun b6 σ H => ?_)));obtain ⟨x1,q1,h⟩:=bs h;refine .jV q1 V (.pV V (.aV V (.na H fun H => (.tR 3 V H fun b7 σ H => (.mV V ?_)))));obtain ⟨x2,q2,h⟩:=bs h;refine .cV (Z8J q2) V (.tV V (.na H fun H => ?_));refine .wh h V ?_ ?_ <;> intro h
   ·refine .tR 1 V H fun b8 σ H => (.aV V (.na H fun H => (.ret ?_)));obtain rfl:=sj h;exact ⟨nofun,(.inr ⟨_,V,V,(Ends.H (xs:=[(vb false)]) (.inr V) H (.tmp (v:=(vb false)) V .nil) (.one (.c (.v _))))⟩)⟩
   refine .skip (.ZJ 2 V H fun b9 σ H => (.iV V (.mV V (.na H fun H => ?_))));obtain rfl:=sj h;exact ⟨V,EI V,H⟩
  refine .exit ?_;obtain rfl:=sj h;exact ⟨nofun,(.inl ⟨_,V,V,EI V,H⟩)⟩
 ·rintro x e σ (⟨a2,rfl,rfl,he,H⟩ | ⟨r',rfl,rfl,hE⟩)
  ·replace h:=jgo h;obtain ⟨e,rfl⟩:=he.ex;refine .then (.tR 4 V H fun b10 σ H => (.fV H 0 V (.lV H 0 V (.nV V (.mV V (.na H fun H => (.inBlock ?_)))))));obtain ⟨y2,hj2,h⟩:=bs h;obtain ⟨n2,hj2⟩:=ZR.1 hj2;refine .mono (Runs.loopO hj2 (fun s2 e σ => ZE e [(1,(.ptr (b1 + 0) 4 0)),(44,(vl Granule.cs f.Odd)),(45,(vi (f.Odd.length:Int))),(46,(vi s2))]∧Hs σ [.blk (b1 + 0) 25 (vF f)]) (fun y2 x e σ => (∃ a3,y2 = (.go a3)∧x = .exit 2∧ZE e []∧Hs σ [])∨(∃ r',y2 = (.ret r')∧x = .ret∧Ends CX Try.f56.results.toList (vb r') x e σ)) ⟨EI V,H⟩ ?_) ?_
   ·intro s2 e σ hI z h;obtain ⟨he,H⟩:=hI;obtain ⟨e,rfl⟩:=he.ex;unfold Zi.s1 at h;refine .tR 1 V H fun b11 σ H => (.iV V (.na H fun H => (.then ?_)));refine .wh h V ?_ ?_ <;> intro h
    ·refine .skip (.then (.inBlock (.tR 6 V H fun b12 σ H => (.mV V ?_))));obtain ⟨x3,q3,h⟩:=bs h;refine .jV q3 V (.qV [(.int .i64 x3.Index),(.sl (x3.Ticks.map Span.cs))] V (.alc (cs:=[(vi 0),.nils]) H V V fun σ H => (.aV V (.sV [(vi x3.Index),(vl Span.cs x3.Ticks)] H 0 V fun σ H => (.na H fun H => (.then (.Z0P 26 V (by kernel_rfl) H fun b13 σ H B13 => (.ZN H 0 V V V V V (so (B13 0 _ V _ V)) V ?_))))))));refine .ld (vl Span.cs x3.Ticks) H 0 V V V V V (so (B13 0 _ V _ V)) V ?_;obtain ⟨x4,q4,h⟩:=bs h;refine .cV (Z8J q4) V (.tV V (.mV V ?_));refine .md H 5 [(60,(vb ((!x4) || (!(Z0x x3.Index))))),(1,(.ptr (b1 + 0) 4 0)),(5,(vi s2)),(6,(.ptr (b12 + 3) 2 0)),(44,(vl Granule.cs f.Odd)),(45,(vi (f.Odd.length:Int))),(46,(vi s2))] [.blk (b12 + 3) 61 [(vi x3.Index),(vl Span.cs x3.Ticks)],.blk (b1 + 0) 25 (vF f)] rfl ?_ fun e σ H => ?_
     ·refine .split V V ?_ ?_ <;> intro hc8
      ·refine .ps 4 V (.kT V (.nil ?_));exact ⟨⟨or_T hc8,V,V,V,V,V,V,U⟩,H.wk (by omega)⟩
      ·refine .wt V V (.ZN H 0 V V V V V (so (B13 0 _ V _ V)) V (.wt V V (.ld (vi x3.Index) H 0 V V V V V (so (B13 0 _ V _ V)) V (.cV (Z5F V) V (.tV V (.kF V (.nil ?_)))))));exact ⟨⟨or_F hc8,V,V,V,V,V,V,U⟩,H.wk (by omega)⟩
     refine .mV V ?_;obtain ⟨y3,hj3,h⟩:=bs h;refine .md H 15 [(76,(vb y3)),(1,(.ptr (b1 + 0) 4 0)),(44,(vl Granule.cs f.Odd)),(45,(vi (f.Odd.length:Int))),(46,(vi s2))] [.blk (b1 + 0) 25 (vF f)] V ?_ fun e σ H => ?_
     ·refine .sp hj3 V ?_ ?_ <;> intro h
      ·refine .ps 14 V (.kT V (.nil ?_));obtain rfl:=sj h;exact ⟨EI V,(H.erase 0).wk (by omega)⟩
      refine .mV V (.iV V (.mV V ?_));obtain ⟨y4,hj4,h⟩:=bs h;refine .md H 11 [(75,(vb y4)),(1,(.ptr (b1 + 0) 4 0)),(44,(vl Granule.cs f.Odd)),(45,(vi (f.Odd.length:Int))),(46,(vi s2)),(61,(vb false))] [.blk (b1 + 0) 25 (vF f)] V ?_ fun e σ H => ?_
      ·refine .sp hj4 V ?_ ?_ <;> intro h
       ·refine .wt V V (.ZN H 0 V V V V V (so (B13 0 _ V _ V)) V (.wt V V (.ld (vi x3.Index) H 0 V V V V V (so (B13 0 _ V _ V)) V (.wt V V (.ZN H 1 V V V V V (so (B13 1 _ V _ V)) V (.wt V V (.ld (vl Granule.cs f.Odd) H 1 V V V V V (so (B13 1 _ V _ V)) V (.mV V ?_))))))));refine .iV V (.wt V V ?_);obtain ⟨x5,q5,h⟩:=bs h;refine .jV q5 V (.wt V V (.Z0B V V V V (.pV V (.iV V (.kT V (.nil ?_))))));obtain rfl:=sj h;exact ⟨EI V,(H.erase 0).wk (by omega)⟩
       refine .ps 10 V (.kF V (.nil ?_));obtain rfl:=sj h;exact ⟨EI V,(H.erase 0).wk (by omega)⟩
      refine .kF V (.nil ?_);obtain rfl:=sj h;exact ⟨EI V,H.wk (by omega)⟩
     refine .na H fun H => ?_;refine .wh h V ?_ ?_ <;> intro h
     ·refine .tR 1 V H fun b14 σ H => (.aV V (.na H fun H => (.ret ?_)));obtain rfl:=sj h;exact ⟨nofun,(.inr ⟨_,V,V,(Ends.H (xs:=[(vb false)]) (.inr V) H (.tmp (v:=(vb false)) V .nil) (.one (.c (.v _))))⟩)⟩
     refine .skip (.ZJ 2 V H fun b15 σ H => (.iV V (.mV V (.na H fun H => ?_))));obtain rfl:=sj h;exact ⟨V,EI V,H⟩
    refine .exit ?_;obtain rfl:=sj h;exact ⟨nofun,(.inl ⟨_,V,V,U,(H.erase 0)⟩)⟩
   ·rintro x e σ (⟨a4,rfl,rfl,he,H⟩ | ⟨r',rfl,rfl,hE⟩)
    ·replace h:=jgo h;obtain ⟨e,rfl⟩:=he.ex;refine .tR 1 V H fun b16 σ H => (.aV V (.na H fun H => (.ret ?_)));obtain rfl:=sj h;exact Ends.eR V
    ·replace h:=jret h;obtain rfl:=sj h;exact hE
  ·replace h:=jret h;obtain rfl:=sj h;exact hE
theorem gran_turns_fn {f:Form} {r:Bool} (h:Z09 f = some r):Fn CX 57 [(.agg (vs (Form.cs f)))] (vb r):=by
 refine Fn.go Try.func57 V fun σ H => ?_;unfold Z09 at h;refine .tR 2 V H fun b1 σ H => (.bxc (cs:=(vF f)) H V V V fun σ H => (.aV V (.na H fun H => (.tR 1 V H fun b2 σ H => (.a1 .nils V V (.na H fun H => (.then (.tR 4 V H fun b3 σ H => ?_))))))));refine .fV H 0 V (.lV H 0 V (.nV V (.mV V (.na H fun H => (.inBlock ?_)))));replace H:=H.pushNil 37 1 true;obtain ⟨y1,hj1,h⟩:=bs h;obtain ⟨n1,hj1⟩:=ZR.1 hj1;refine .mono (Runs.loopO hj1 (fun s2 e σ => ∃ (w3:PV),ZE e [(1,(.ptr (b1 + 0) 4 0)),(3,w3),(11,(vl (cL Span.cs) f.Core)),(12,(vi (f.Core.length:Int))),(13,(vi s2.1))]∧Hs σ [.sl w3 37 1 (s2.2.map (cL Span.cs)) true,.blk (b1 + 0) 25 (vF f)]) (fun y1 x e σ => ∃ (w4:PV),x = .exit 0∧ZE e [(1,(.ptr (b1 + 0) 4 0)),(3,w4)]∧Hs σ [.sl w4 37 1 (y1.map (cL Span.cs)) true,.blk (b1 + 0) 25 (vF f)]) ⟨.nils,EI V,H⟩ ?_) ?_
 ·intro s2 e σ hI z h;obtain ⟨w3,he,H⟩:=hI;obtain ⟨e,rfl⟩:=he.ex;unfold Z09.s0 at h;refine .tR 1 V H fun b4 σ H => (.iV V (.na H fun H => (.then ?_)));refine .wh h V ?_ ?_ <;> intro h
  ·refine .skip (.then ?_);obtain ⟨y2,hj2,h⟩:=bs h;refine .mono (Q:=fun x e σ => ∃ (w5:PV),x = .normal∧ZE e [(1,(.ptr (b1 + 0) 4 0)),(3,w5),(11,(vl (cL Span.cs) f.Core)),(12,(vi (f.Core.length:Int))),(13,(vi s2.1))]∧Hs σ [.sl w5 37 1 (y2.map (cL Span.cs)) true,.blk (b1 + 0) 25 (vF f)]) ?_ ?_
   ·replace h:=hj2;refine .inBlock ?_;obtain ⟨y3,hj3,h⟩:=bs h;refine .mono (Q:=fun x e σ => ∃ (w6:PV),x = .normal∧ZE e [(1,(.ptr (b1 + 0) 4 0)),(3,w6),(11,(vl (cL Span.cs) f.Core)),(12,(vi (f.Core.length:Int))),(13,(vi s2.1))]∧Hs σ [.sl w6 37 1 (y3.map (cL Span.cs)) true,.blk (b1 + 0) 25 (vF f)]) ?_ ?_
    ·replace h:=hj3;refine .tR 3 V H fun b5 σ H => ?_;obtain ⟨x1,q1,h⟩:=bs h;refine .jV q1 V (.pV V (.aV V (.na H fun H => (.tR 3 V H fun b6 σ H => (.mV V (.nV V (.iV V (.na H fun H => ?_))))))));refine .wh h V ?_ ?_ <;> intro h
     ·refine .ZJ 5 V H fun b7 σ H => (.m1 w3 V V (.mV V (.Z3o (sz:=1) ([x1].map (cL Span.cs)) H (by omega) (by omega) V V V V V V V V V fun σ H => ?_)));obtain ⟨x2,q2,h⟩:=bs h;refine .Z3Z (c:=(cL Span.cs)) (v:=w3) (w:=(.buf (b7 + 2) 1 1)) (xs:=s2.2) (ys:=[x1]) H (by omega) (by omega) 1 V V V (.s 0 V) q2 V V V V V nofun V fun w7 σ H => (.a1 w7 V V (.na H fun H => ?_));obtain rfl:=sj h;exact ⟨w7,V,EI V,(H.erase 0)⟩
     refine .skip ?_;obtain rfl:=sj h;exact ⟨w3,V,EI V,H⟩
    ·rintro x e σ ⟨w8,rfl,he,H⟩;obtain ⟨e,rfl⟩:=he.ex;obtain rfl:=sj h;exact ⟨w8,V,EI V,H⟩
   ·rintro x e σ ⟨w9,rfl,he,H⟩;obtain ⟨e,rfl⟩:=he.ex;refine .ZJ 2 V H fun b8 σ H => (.iV V (.mV V (.na H fun H => ?_)));obtain rfl:=sj h;exact ⟨V,w9,EI V,H⟩
  refine .exit ?_;obtain rfl:=sj h;exact ⟨nofun,⟨w3,V,EI V,H⟩⟩
 ·rintro x e σ ⟨w10,rfl,he,H⟩;obtain ⟨e,rfl⟩:=he.ex;refine .then (.tR 3 V H fun b9 σ H => (.m1 w10 V V (.Z8t (c:=(cL Span.cs)) (xs:=y1) H 0 V V V nofun V (.mV V (.na H fun H => (.inBlock ?_))))));obtain ⟨y4,hj4,h⟩:=bs h;obtain ⟨n2,hj4⟩:=ZR.1 hj4;refine .mono (Runs.loopO hj4 (fun s3 e σ => ZE e [(1,(.ptr (b1 + 0) 4 0)),(3,w10),(25,w10),(26,(vi (y1.length:Int))),(27,(vi s3))]∧Hs σ [.sl w10 37 1 (y1.map (cL Span.cs)) true,.blk (b1 + 0) 25 (vF f)]) (fun y4 x e σ => (∃ a1,y4 = (.go a1)∧x = .exit 2∧ZE e []∧Hs σ [])∨(∃ r',y4 = (.ret r')∧x = .ret∧Ends CX Try.f57.results.toList (vb r') x e σ)) ⟨EI V,H⟩ ?_) ?_
  ·intro s3 e σ hI z h;obtain ⟨he,H⟩:=hI;obtain ⟨e,rfl⟩:=he.ex;unfold Z09.s1 at h;refine .tR 1 V H fun b10 σ H => (.iV V (.na H fun H => (.then ?_)));refine .wh h V ?_ ?_ <;> intro h
   ·refine .skip (.then ?_);obtain ⟨y5,hj5,h⟩:=bs h;refine .mono (Q:=fun x e σ => (∃ a2,y5 = (.go a2)∧x = .normal∧ZE e [(1,(.ptr (b1 + 0) 4 0)),(3,w10),(25,w10),(26,(vi (y1.length:Int))),(27,(vi s3))]∧Hs σ [.sl w10 37 1 (y1.map (cL Span.cs)) true,.blk (b1 + 0) 25 (vF f)])∨(∃ r',y5 = (.ret r')∧x = .ret∧Ends CX Try.f57.results.toList (vb r') x e σ)) ?_ ?_
    ·replace h:=hj5;refine .inBlock ?_;obtain ⟨y6,hj6,h⟩:=bs h;refine .mono (Q:=fun x e σ => (∃ a3,y6 = (.go a3)∧x = .normal∧ZE e [(1,(.ptr (b1 + 0) 4 0)),(3,w10),(25,w10),(26,(vi (y1.length:Int))),(27,(vi s3))]∧Hs σ [.sl w10 37 1 (y1.map (cL Span.cs)) true,.blk (b1 + 0) 25 (vF f)])∨(∃ r',y6 = (.ret r')∧x = .ret∧Ends CX Try.f57.results.toList (vb r') x e σ)) ?_ ?_
     ·replace h:=hj6;refine .tR 5 V H fun b11 σ H => (.mV V ?_);obtain ⟨x3,q3,h⟩:=bs h;refine .Z5B H 0 V V V (at?_map q3) V V nofun V ?_;intro id1 hv1;refine .loadS (id:=id1) (j:=0) (w:=(.sl (x3.map Span.cs))) H 0 V hv1 (by simp) (at?_map q3) V (by simp) V V V nofun V ?_;refine .aV V (.aV V (.na H fun H => (.tR 10 V H fun b12 σ H => (.m1 w10 V V (.mV V (.iV V (.m1 w10 V V (.Z8t (c:=(cL Span.cs)) (xs:=y1) H 0 V V V nofun V ?_))))))));obtain ⟨u1,q4,h⟩:=bs h;refine .rem (m:=(w64 (s3 + 1))) (m':=(y1.length:Int)) V V (Z6D q4) V ?_;obtain ⟨x4,q5,h⟩:=bs h;refine .Z5B H 0 V V V (at?_map q5) V V nofun V ?_;intro id2 hv2;refine .loadS (id:=id2) (j:=0) (w:=(.sl (x4.map Span.cs))) H 0 V hv2 (by simp) (at?_map q5) V (by simp) V V V nofun V ?_;refine .aV V (.aV V (.na H fun H => (.then ?_)));refine .jn h .normal (fun y7 => [(1,(.ptr (b1 + 0) 4 0)),(3,w10),(7,(vl Span.cs x3)),(8,(vl Span.cs x4)),(9,(vi y7)),(25,w10),(26,(vi (y1.length:Int))),(27,(vi s3))]) (fun y7 => [.sl w10 37 1 (y1.map (cL Span.cs)) true,.blk (b1 + 0) 25 (vF f)]) (fun y7 h => ?_) fun y7 e σ H h => ?_
      ·refine .tR 5 V H fun b13 σ H => (.mV V (.iV V (.m1 w10 V V (.Z8t (c:=(cL Span.cs)) (xs:=y1) H 0 V V V nofun V (.iV V (.na H fun H => ?_))))));refine .wh h V ?_ ?_ <;> intro h
       ·refine .ZJ 3 V H fun b14 σ H => (.fV H 1 V (.lV H 1 V (.aV V (.na H fun H => ?_))));obtain rfl:=sj h;exact ⟨V,EI V,H⟩
       refine .skip ?_;obtain rfl:=sj h;exact ⟨V,EI V,H⟩
      refine .then (.Z0P 14 V (by kernel_rfl) H fun b15 σ H B15 => (.mV V (.mV V (.nV V (.iV V ?_)))));obtain ⟨x5,q6,h⟩:=bs h;refine .jV q6 V (.Z0B V V V V (.pV V (.mV V ?_)));obtain ⟨x6,q7,h⟩:=bs h;refine .jV q7 V (.Z0B V V V V (.pV V (.mV V (.iV V (.iV V (.na H fun H => ?_))))));refine .wh h V ?_ ?_ <;> intro h
      ·refine .tR 1 V H fun b16 σ H => (.aV V (.na H fun H => (.ret ?_)));obtain rfl:=sj h;exact (.inr ⟨_,V,V,(Ends.H (xs:=[(vb false)]) (.inr V) H (.tmp (v:=(vb false)) V .nil) (.one (.c (.v _))))⟩)
      refine .skip ?_;obtain rfl:=sj h;exact (.inl ⟨_,V,V,EI V,H⟩)
     ·rintro x e σ (⟨a4,rfl,rfl,he,H⟩ | ⟨r',rfl,rfl,hE⟩)
      ·replace h:=jgo h;obtain ⟨e,rfl⟩:=he.ex;obtain rfl:=sj h;exact (.inl ⟨_,V,V,EI V,H⟩)
      ·replace h:=jret h;obtain rfl:=sj h;exact (.inr ⟨_,V,V,hE⟩)
    ·rintro x e σ (⟨a5,rfl,rfl,he,H⟩ | ⟨r',rfl,rfl,hE⟩)
     ·replace h:=jgo h;obtain ⟨e,rfl⟩:=he.ex;refine .ZJ 2 V H fun b17 σ H => (.iV V (.mV V (.na H fun H => ?_)));obtain rfl:=sj h;exact ⟨V,EI V,H⟩
     ·replace h:=jret h;obtain rfl:=sj h;exact ⟨nofun,(.inr ⟨_,V,V,hE⟩)⟩
   refine .exit ?_;obtain rfl:=sj h;exact ⟨nofun,(.inl ⟨_,V,V,U,((H.erase 1).erase 0)⟩)⟩
  ·rintro x e σ (⟨a6,rfl,rfl,he,H⟩ | ⟨r',rfl,rfl,hE⟩)
   ·replace h:=jgo h;obtain ⟨e,rfl⟩:=he.ex;refine .tR 1 V H fun b18 σ H => (.aV V (.na H fun H => (.ret ?_)));obtain rfl:=sj h;exact Ends.eR V
   ·replace h:=jret h;obtain rfl:=sj h;exact hE
theorem Z1w {x':(List Granule)} {target:Int} {cmp:Granule→Int→Option Int} {C:List Res} {cv0:PV} (hs0:cv0.one = true) (hp0:cv0.pure = true→C = []) (hf0:∀ z0 z1 y,cmp z0 z1 = some y→CloH CX cv0 [(.agg (vs (Granule.cs z0))),(vi z1)] (vi y) C) {r:Int × Bool} (h:Z2 x' target cmp = some r):FnH CX 92 [(vl Granule.cs x'),(vi target),cv0] (.tup [(vi r.1),(vb r.2)]) C:=by
 refine FnH.of Try.func92 V V V V (Z5J V (Z5J V (Z5J (Z5Y hs0) all_nil))) V (fun h => hp0 (Z4s h 2 V)) ?_;intro σ L hC H;unfold Z2 at h;refine .tR 2 V H fun b1 σ H => (.aV V (.aV V (.na H fun H => (.tR 3 V H fun b2 σ H => (.mV V (.nV V (.aV V (.na H fun H => ?_))))))));refine .tR 3 V H fun b3 σ H => (.mV V (.aV V (.aV V (.na H fun H => (.then (.inBlock ?_))))));refine .lp h (fun s1 => [(0,(vl Granule.cs x')),(1,(vi target)),(2,cv0),(8,(vi (x'.length:Int))),(9,(vi s1.1)),(10,(vi s1.2))]) (fun s1 => (L)) (.exit 0) (fun y1 => [(0,(vl Granule.cs x')),(1,(vi target)),(2,cv0),(8,(vi (x'.length:Int))),(9,(vi y1))]) (fun y1 => (L)) (EI V) H (fun s1 e σ H z h => ?_) fun y1 e σ H h => ?_
 ·unfold Z2.s0 at h;refine .then (.tR 3 V H fun b4 σ H => (.mV V (.mV V (.iV V (.na H fun H => ?_)))));refine .wh h V ?_ ?_ <;> intro h
  ·refine .skip (.inBlock ?_);refine .jn h .normal (fun y2 => [(0,(vl Granule.cs x')),(1,(vi target)),(2,cv0),(8,(vi (x'.length:Int))),(9,(vi y2.1)),(10,(vi y2.2))]) (fun y2 => (L)) (fun y2 h => ?_) fun y2 e σ H h => ?_
   ·refine .tR 7 V H fun b5 σ H => (.mV V (.mV V (.iV V (.conv (m:=(w64 (s1.1 + s1.2))) V V V V (.shr (m:=(IntKind.u64.wrap (w64 (s1.1 + s1.2)))) (m':=1) V V (by decide) V (.conv (m:=((IntKind.u64.wrap (w64 (s1.1 + s1.2))).fdiv (2 ^ 1))) V V V V (.aV V (.na H fun H => ?_))))))));refine .tR 8 V H fun b6 σ H => (.m1 cv0 V V (.mV V (.mV V ?_)));obtain ⟨x1,q1,h⟩:=bs h;refine .jV q1 V (.qV [(.int .i64 x1.Index),(.sl (x1.Ticks.map Span.cs))] V (.mV V ?_));obtain ⟨x2,q2,h⟩:=bs h;refine .callV (cv:=cv0) (ys:=[(.agg (vs (Granule.cs x1))),(vi target)]) (r:=(vi x2)) H V V (hf0 x1 target _ q2) hC nofun V fun σ H => (.iV V (.na H fun H => ?_));refine .wh h V ?_ ?_ <;> intro h
    ·refine .ZJ 3 V H fun b7 σ H => (.mV V (.iV V (.aV V (.na H fun H => ?_))));obtain rfl:=sj h;exact ⟨V,EI V,H⟩
    refine .ZJ 2 V H fun b8 σ H => (.mV V (.aV V (.na H fun H => ?_)));obtain rfl:=sj h;exact ⟨V,EI V,H⟩
   obtain rfl:=sj h;exact ⟨V,EI V,H⟩
  refine .exit ?_;obtain rfl:=sj h;exact ⟨nofun,⟨V,EI V,H⟩⟩
 refine .tR 16 V H fun b9 σ H => (.mV V (.mV V (.mV V (.iV V (.mV V ?_)))));obtain ⟨y3,hj3,h⟩:=bs h;refine .md H 9 [(48,(vb y3)),(35,(vi y1))] (L) V ?_ fun e σ H => ?_
 ·refine .sp hj3 V ?_ ?_ <;> intro h
  ·refine .m1 cv0 V V (.mV V (.mV V (.wt V V ?_)));obtain ⟨x3,q3,h⟩:=bs h;refine .jV q3 V (.qV [(.int .i64 x3.Index),(.sl (x3.Ticks.map Span.cs))] V (.mV V (.wt V V ?_)));obtain ⟨x4,q4,h⟩:=bs h;refine .callV (cv:=cv0) (ys:=[(.agg (vs (Granule.cs x3))),(vi target)]) (r:=(vi x4)) H V V (hf0 x3 target _ q4) hC nofun V fun σ H => (.iV V (.kT V (.nil ?_)));obtain rfl:=sj h;exact ⟨EI V,H.wk (by omega)⟩
  refine .ps 8 V (.kF V (.nil ?_));obtain rfl:=sj h;exact ⟨EI V,H.wk (by omega)⟩
 refine .aV V (.aV V (.na H fun H => (.ret ?_)));obtain rfl:=sj h;exact (EndsH.H (xs:=[(vi y1),(vb y3)]) (.inr V) H (.tmp (v:=(vi y1)) V (.tmp (v:=(vb y3)) V .nil)) (.two (.cons (.c (.v _)) (.cons (.c (.v _)) .nil))) 0 V)
theorem Z76 {x':Int} {r:Bool} (h:Z2t x' = r):Fn CX 103 [(vi x')] (vb r):=by
 refine Fn.go Try.func103 V fun σ H => ?_;unfold Z2t at h;refine .tR 1 V H fun b1 σ H => (.aV V (.na H fun H => (.tR 4 V H fun b2 σ H => (.mV V (.mV V (.iV V (.aV V (.na H fun H => ?_))))))));refine .ret ?_;subst h;exact Ends.eR V
theorem Z9K {x':Int} {y:Int} {r:Int} (h:Z1t x' y = r):Fn CX 94 [(vi x'),(vi y)] (vi r):=by
 refine Fn.go Try.func94 V fun σ H => ?_;unfold Z1t at h;refine .tR 1 V H fun b1 σ H => (.aV V (.na H fun H => (.tR 3 V H fun b2 σ H => (.mV V (.cV (Z76 V) V (.aV V (.na H fun H => (.tR 3 V H fun b3 σ H => ?_))))))));refine .mV V (.cV (Z76 V) V (.aV V (.na H fun H => (.then (.tR 1 V H fun b4 σ H => (.mV V (.na H fun H => ?_)))))));refine .wh h V ?_ ?_ <;> intro h
 ·refine .then (.tR 1 V H fun b5 σ H => (.mV V (.na H fun H => ?_)));refine .wh h V ?_ ?_ <;> intro h
  ·refine .tR 1 V H fun b6 σ H => (.aV V (.na H fun H => (.ret ?_)));subst h;exact Ends.eR V
  refine .skip (.tR 1 V H fun b7 σ H => (.aV V (.na H fun H => (.ret ?_))));subst h;exact Ends.eR V
 refine .skip (.then (.tR 1 V H fun b8 σ H => (.mV V (.na H fun H => ?_))));refine .wh h V ?_ ?_ <;> intro h
 ·refine .tR 1 V H fun b9 σ H => (.aV V (.na H fun H => (.ret ?_)));subst h;exact Ends.eR V
 refine .skip (.then (.tR 3 V H fun b10 σ H => (.mV V (.mV V (.iV V (.na H fun H => ?_))))));refine .wh h V ?_ ?_ <;> intro h
 ·refine .tR 1 V H fun b11 σ H => (.aV V (.na H fun H => (.ret ?_)));subst h;exact Ends.eR V
 refine .skip (.then (.tR 3 V H fun b12 σ H => (.mV V (.mV V (.iV V (.na H fun H => ?_))))));refine .wh h V ?_ ?_ <;> intro h
 ·refine .tR 1 V H fun b13 σ H => (.aV V (.na H fun H => (.ret ?_)));subst h;exact Ends.eR V
 refine .skip (.tR 1 V H fun b14 σ H => (.aV V (.na H fun H => (.ret ?_))));subst h;exact Ends.eR V
theorem gran_odd_1_fn {g:Granule} {i:Int} {r:Int} (h:Z3n g i = r):Fn CX 93 [(.agg (vs (Granule.cs g))),(vi i)] (vi r):=by
 refine Fn.go Try.func93 V fun σ H => ?_;unfold Z3n at h;refine .tR 2 V H fun b1 σ H => (.bxc (cs:=[(vi g.Index),(vl Span.cs g.Ticks)]) H V V V fun σ H => (.aV V (.na H fun H => (.tR 5 V H fun b2 σ H => (.fV H 0 V (.lV H 0 V (.mV V (.cV (Z9K V) V ?_))))))));refine .aV V (.na H fun H => (.ret ?_));subst h;exact Ends.eR V
theorem ZBY {f:Form} {i:Int} {r:Int × Bool} (h:Z58 f i = some r):Fn CX 67 [(.agg (vs (Form.cs f))),(vi i)] (.tup [(vi r.1),(vb r.2)]):=by
 refine Fn.go Try.func67 V fun σ H => ?_;unfold Z58 at h;refine .tR 3 V H fun b1 σ H => (.bxc (cs:=(vF f)) H V V V fun σ H => (.aV V (.aV V (.na H fun H => (.tR 8 V H fun b2 σ H => (.fV H 0 V (.lV H 0 V (.mV V ?_))))))));obtain ⟨x1,q1,h⟩:=bs h;refine .callH (ys:=[(vl Granule.cs f.Odd),(vi i),(.v (.fn 93))]) (r:=(.tup [(vi x1.1),(vb x1.2)])) H V (Z1w (C:=[]) V (fun _ => V) (fun z0 z1 y hz => (CloH.fn (Fn.toH (gran_odd_1_fn (Option.some.inj hz)) _))) q1) .nil nofun V fun σ H => (.xV V (.xV V (.aV V (.aV V (.na H fun H => (.ret ?_))))));obtain rfl:=sj h;exact Ends.eR V
theorem Z23 {a:Int} {b:Int} {r:Int × Int × Int} (h:Z0A a b = some r):Fn CX 32 [(vi a),(vi b)] (.tup [(vi r.1),(vi r.2.1),(vi r.2.2)]):=by
 refine Fn.go Try.func32 V fun σ H => ?_;unfold Z0A at h;refine .tR 3 V H fun b1 σ H => (.aV V (.aV V (.aV V (.na H fun H => (.then (.inBlock (.tR 3 V H fun b2 σ H => (.mV V ?_))))))));refine .iV V (.aV V (.na H fun H => ?_));refine .wh h V ?_ ?_ <;> intro h
 ·refine .tR 3 V H fun b3 σ H => (.aV V (.aV V (.aV V (.na H fun H => (.ret ?_)))));obtain rfl:=sj h;exact Ends.eR V
 refine .tR 7 V H fun b4 σ H => (.mV V (.iV V (.mV V ?_)));refine .md H 3 [(18,(vb ((b == (-1)) && (a == (-9223372036854775808))))),(0,(vi a)),(1,(vi b))] [] V ?_ fun e σ H => ?_
 ·refine .split V V ?_ ?_ <;> intro hc2
  ·refine .mV V (.iV V (.kT V (.nil ?_)));exact ⟨⟨Z3C hc2,V,V,U⟩,H.wk (by omega)⟩
  ·refine .ps 2 V (.kF V (.nil ?_));exact ⟨⟨Z3B hc2,V,V,U⟩,H.wk (by omega)⟩
 refine .aV V (.na H fun H => ?_);refine .wh h V ?_ ?_ <;> intro h
 ·refine .tR 3 V H fun b5 σ H => (.aV V (.aV V (.aV V (.na H fun H => (.ret ?_)))));obtain rfl:=sj h;exact Ends.eR V
 refine .skip (.then (.Z0P 8 V (by kernel_rfl) H fun b6 σ H B6 => (.mV V (.mV V ?_))));obtain ⟨u1,q1,h⟩:=bs h;refine .quo (m:=a) (m':=b) V V (Z6D q1) V (.mV V (.mV V ?_));obtain ⟨u2,q2,h⟩:=bs h;refine .rem (m:=a) (m':=b) V V (Z6D q2) V (.aV V (.aV V (.na H fun H => (.then ?_))));refine .jn h .normal (fun y1 => [(7,(vi y1.1)),(8,(vi y1.2))]) (fun y1 => []) (fun y1 h => ?_) fun y1 e σ H h => ?_
 ·refine .tR 9 V H fun b7 σ H => (.mV V (.iV V (.mV V ?_)));refine .md H 6 [(33,(vb (((a.tmod b) != 0) && ((decide ((a.tmod b) < 0)) != (decide (b < 0)))))),(1,(vi b)),(7,(vi (w64 (a.tdiv b)))),(8,(vi (a.tmod b)))] [] V ?_ fun e σ H => ?_
  ·refine .split V V ?_ ?_ <;> intro hc4
   ·refine .mV V (.iV V (.mV V (.iV V (.wt V V (.neB (b:=(decide ((a.tmod b) < 0))) (b':=(decide (b < 0))) V V V V (.kT V (.nil ?_)))))));exact ⟨⟨Z3C hc4,V,V,V,U⟩,H.wk (by omega)⟩
   ·refine .ps 5 V (.kF V (.nil ?_));exact ⟨⟨Z3B hc4,V,V,V,U⟩,H.wk (by omega)⟩
  refine .na H fun H => ?_;refine .wh h V ?_ ?_ <;> intro h
  ·refine .ZJ 7 V H fun b8 σ H => (.mV V (.iV V (.mV V (.mV V (.iV V (.aV V (.aV V (.na H fun H => ?_))))))));obtain rfl:=sj h;exact ⟨V,EI V,H⟩
  refine .skip ?_;obtain rfl:=sj h;exact ⟨V,EI V,H⟩
 refine .tR 5 V H fun b9 σ H => (.mV V (.mV V (.aV V (.aV V (.aV V (.na H fun H => (.ret ?_)))))));obtain rfl:=sj h;exact Ends.eR V
theorem Z3P {a:Int} {r:Int} (h:ZZ a = r):Fn CX 79 [(vi a)] (vu r):=by
 refine Fn.go Try.func79 V fun σ H => ?_;unfold ZZ at h;refine .tR 1 V H fun b1 σ H => (.aV V (.na H fun H => (.then (.tR 2 V H fun b2 σ H => (.mV V (.iV V (.na H fun H => ?_)))))));refine .wh h V ?_ ?_ <;> intro h
 ·refine .tR 4 V H fun b3 σ H => (.mV V (.conv (m:=a) V V V V (.neg (m:=(IntKind.u64.wrap a)) V V (.aV V (.na H fun H => (.ret ?_))))));subst h;exact Ends.eR V
 refine .skip (.tR 3 V H fun b4 σ H => (.mV V (.conv (m:=a) V V V V (.aV V (.na H fun H => (.ret ?_))))));subst h;exact Ends.eR V
theorem Z5e {x':Int} {y:Int} {r:Int × Int} (h:Zu x' y = r):Fn CX 80 [(vu x'),(vu y)] (.tup [(vu r.1),(vu r.2)]):=by
 refine Fn.go Try.func80 V fun σ H => ?_;unfold Zu at h;refine .tR 2 V H fun b1 σ H => (.aV V (.aV V (.na H fun H => (.tR 3 V H fun b2 σ H => (.mV V (.iV V (.aV V (.na H fun H => ?_))))))));refine .tR 3 V H fun b3 σ H => (.mV V (.shr (m:=x') (m':=32) V V (by decide) V (.aV V (.na H fun H => (.tR 3 V H fun b4 σ H => (.mV V (.iV V (.aV V ?_))))))));refine .na H fun H => (.tR 3 V H fun b5 σ H => (.mV V (.shr (m:=y) (m':=32) V V (by decide) V (.aV V (.na H fun H => (.tR 4 V H fun b6 σ H => (.mV V (.mV V ?_))))))));refine .iV V (.aV V (.na H fun H => (.tR 7 V H fun b7 σ H => (.mV V (.mV V (.iV V (.mV V (.shr (m:=(IntKind.u64.wrap ((iAnd .u64 x' 4294967295) * (iAnd .u64 y 4294967295)))) (m':=32) V V (by decide) V ?_))))))));refine .iV V (.aV V (.na H fun H => (.tR 3 V H fun b8 σ H => (.mV V (.iV V (.aV V (.na H fun H => (.tR 3 V H fun b9 σ H => ?_))))))));refine .mV V (.shr (m:=(IntKind.u64.wrap ((IntKind.u64.wrap ((x'.fdiv (2 ^ 32)) * (iAnd .u64 y 4294967295))) + ((IntKind.u64.wrap ((iAnd .u64 x' 4294967295) * (iAnd .u64 y 4294967295))).fdiv (2 ^ 32))))) (m':=32) V V (by decide) V (.aV V (.na H fun H => (.tR 6 V H fun b10 σ H => (.mV V (.mV V (.mV V (.iV V ?_))))))));refine .iV V (.aV V (.na H fun H => (.tR 9 V H fun b11 σ H => (.mV V (.mV V (.iV V (.mV V (.iV V ?_))))))));refine .mV V (.shr (m:=(IntKind.u64.wrap ((iAnd .u64 (IntKind.u64.wrap ((IntKind.u64.wrap ((x'.fdiv (2 ^ 32)) * (iAnd .u64 y 4294967295))) + ((IntKind.u64.wrap ((iAnd .u64 x' 4294967295) * (iAnd .u64 y 4294967295))).fdiv (2 ^ 32)))) 4294967295) + (IntKind.u64.wrap ((iAnd .u64 x' 4294967295) * (y.fdiv (2 ^ 32))))))) (m':=32) V V (by decide) V (.iV V (.aV V (.na H fun H => (.tR 4 V H fun b12 σ H => (.mV V (.mV V (.iV V ?_))))))))
 refine .aV V (.na H fun H => (.ret ?_));subst h;exact Ends.eR V
theorem Z5x {n:Int} {minus:Bool} {r:Int × Int} (h:Z1d n minus = r):Fn CX 77 [(vu n),(vb minus)] (.tup [(vi r.1),(vi r.2)]):=by
 refine Fn.go Try.func77 V fun σ H => ?_;unfold Z1d at h;refine .tR 2 V H fun b1 σ H => (.aV V (.aV V (.na H fun H => (.then (.inBlock (.tR 6 V H fun b2 σ H => (.mV V (.mV V ?_))))))));refine .md H 3 [(11,(vb (minus && (decide (n≤9223372036854775808))))),(0,(vu n)),(1,(vb minus))] [] V ?_ fun e σ H => ?_
 ·refine .split V V ?_ ?_ <;> intro hc1
  ·refine .mV V (.iV V (.kT V (.nil ?_)));exact ⟨⟨Z3C hc1,V,V,U⟩,H.wk (by omega)⟩
  ·refine .ps 2 V (.kF V (.nil ?_));exact ⟨⟨Z3B hc1,V,V,U⟩,H.wk (by omega)⟩
 refine .aV V (.na H fun H => ?_);refine .wh h V ?_ ?_ <;> intro h
 ·refine .tR 5 V H fun b3 σ H => (.mV V (.neg (m:=n) V V (.conv (m:=(IntKind.u64.wrap (0 - n))) V V V V (.aV V (.aV V (.na H fun H => (.ret ?_)))))));subst h;exact Ends.eR V
 refine .tR 7 V H fun b4 σ H => (.mV V (.tV V (.mV V ?_)));refine .md H 3 [(21,(vb ((!minus) && (decide (n≤9223372036854775807))))),(0,(vu n))] [] V ?_ fun e σ H => ?_
 ·refine .split V V ?_ ?_ <;> intro hc3
  ·refine .mV V (.iV V (.kT V (.nil ?_)));exact ⟨⟨Z3C hc3,V,U⟩,H.wk (by omega)⟩
  ·refine .ps 2 V (.kF V (.nil ?_));exact ⟨⟨Z3B hc3,V,U⟩,H.wk (by omega)⟩
 refine .aV V (.na H fun H => ?_);refine .wh h V ?_ ?_ <;> intro h
 ·refine .tR 4 V H fun b5 σ H => (.mV V (.conv (m:=n) V V V V (.aV V (.aV V (.na H fun H => (.ret ?_))))));subst h;exact Ends.eR V
 refine .skip (.tR 2 V H fun b6 σ H => (.aV V (.aV V (.na H fun H => (.ret ?_)))));subst h;exact Ends.eR V
theorem Z3s {a:Int} {b:Int} {r:Int × Int} (h:Z7 a b = r):Fn CX 50 [(vi a),(vi b)] (.tup [(vi r.1),(vi r.2)]):=by
 refine Fn.go Try.func50 V fun σ H => ?_;unfold Z7 at h;refine .tR 2 V H fun b1 σ H => (.aV V (.aV V (.na H fun H => (.tR 10 V H fun b2 σ H => (.mV V (.cV (Z3P V) V (.mV V (.cV (Z3P V) V ?_))))))));refine .cV (Z5e V) V (.m1 (.tup [(vu (Zu (ZZ a) (ZZ b)).1),(vu (Zu (ZZ a) (ZZ b)).2)]) V V (.xV V (.xV V (.aV V (.aV V (.na H fun H => (.then (.tR 2 V H fun b3 σ H => ?_))))))));refine .mV V (.iV V (.na H fun H => ?_));refine .wh h V ?_ ?_ <;> intro h
 ·refine .tR 2 V H fun b4 σ H => (.aV V (.aV V (.na H fun H => (.ret ?_))));subst h;exact Ends.eR V
 refine .skip (.tR 11 V H fun b5 σ H => (.mV V (.mV V (.iV V (.mV V (.iV V (.neB (b:=(decide (a < 0))) (b':=(decide (b < 0))) V V V V (.cV (Z5x V) V ?_))))))));refine .xV V (.xV V (.aV V (.aV V (.na H fun H => (.ret ?_)))));subst h;exact Ends.eR V
theorem ZA5 {f:Form} {i:Int} {r:(List Span) × Int × Int} (h:Z2u f i = some r):Fn CX 42 [(.agg (vs (Form.cs f))),(vi i)] (.tup [(vl Span.cs r.1),(vi r.2.1),(vi r.2.2)]):=by
 refine Fn.go Try.func42 V fun σ H => ?_;unfold Z2u at h;refine .tR 4 V H fun b1 σ H => (.bxc (cs:=(vF f)) H V V V fun σ H => (.a1 .nils V V (.aV V (.aV V (.na H fun H => (.then (.tR 8 V H fun b2 σ H => (.LV (vF f) H 0 V ?_))))))));refine .mV V ?_;obtain ⟨x1,q1,h⟩:=bs h;refine .cV (ZBY q1) V (.m1 (.tup [(vi x1.1),(vb x1.2)]) V V (.xV V (.xV V (.aV V (.aV V (.na H fun H => (.tR 1 V H fun b3 σ H => (.mV V ?_))))))));refine .na H fun H => ?_;refine .wh h V ?_ ?_ <;> intro h
 ·refine .tR 9 V H fun b4 σ H => (.fV H 0 V (.lV H 0 V (.mV V ?_)));obtain ⟨x2,q2,h⟩:=bs h;refine .jV q2 V (.Z0B V V V V (.pV V (.aV V (.aV V (.aV V (.na H fun H => (.ret ?_)))))));obtain rfl:=sj h;exact Ends.eR V
 refine .skip (.then (.tR 3 V H fun b5 σ H => (.fV H 0 V (.lV H 0 V (.iV V (.na H fun H => ?_))))));refine .wh h V ?_ ?_ <;> intro h
 ·refine .tR 3 V H fun b6 σ H => (.a1 .nils V V (.aV V (.aV V (.na H fun H => (.ret ?_)))));obtain rfl:=sj h;exact (Ends.H (xs:=[.nils,(vi 0),(vi 0)]) (.inr V) H (.tmp (v:=.nils) V (.tmp (v:=(vi 0)) V (.tmp (v:=(vi 0)) V .nil))) (.two (.cons (.c .n) (.cons (.c (.v _)) (.cons (.c (.v _)) .nil)))))
 refine .skip (.tR 11 V H fun b7 σ H => (.mV V (.fV H 0 V (.lV H 0 V ?_))));obtain ⟨x3,q3,h⟩:=bs h;refine .cV (Z23 q3) V (.m1 (.tup [(vi x3.1),(vi x3.2.1),(vi x3.2.2)]) V V (.xV V (.xV V (.xV V (.aV V (.aV V (.aV V (.na H fun H => ?_))))))));refine .tR 9 V H fun b8 σ H => (.mV V (.fV H 0 V (.lV H 0 V (.cV (Z3s V) V (.m1 (.tup [(vi (Z7 x3.1 f.Period).1),(vi (Z7 x3.1 f.Period).2)]) V V (.xV V (.xV V (.aV V ?_))))))));refine .aV V (.na H fun H => (.tR 10 V H fun b9 σ H => (.fV H 0 V (.lV H 0 V (.mV V ?_)))));obtain ⟨x4,q4,h⟩:=bs h;refine .jV q4 V (.pV V (.mV V (.mV V (.aV V (.aV V (.aV V (.na H fun H => (.ret ?_))))))));obtain rfl:=sj h;exact Ends.eR V
theorem ZBi {a:Int} {b:Int} {r:Int × Int} (h:Zc a b = r):Fn CX 68 [(vi a),(vi b)] (.tup [(vi r.1),(vi r.2)]):=by
 refine Fn.go Try.func68 V fun σ H => ?_;unfold Zc at h;refine .tR 2 V H fun b1 σ H => (.aV V (.aV V (.na H fun H => (.tR 4 V H fun b2 σ H => (.mV V (.mV V (.iV V (.aV V ?_))))))));refine .na H fun H => (.then (.tR 10 V H fun b3 σ H => (.mV V (.mV V (.iV V (.mV V (.iV V (.neB (b:=(decide ((w64 (a + b)) > a))) (b':=(decide (b > 0))) V V V V ?_))))))));refine .mV V ?_;refine .md H 3 [(19,(vb (((decide ((w64 (a + b)) > a)) != (decide (b > 0))) && (b != 0)))),(6,(vi (w64 (a + b))))] [] V ?_ fun e σ H => ?_
 ·refine .split V V ?_ ?_ <;> intro hc1
  ·refine .mV V (.iV V (.kT V (.nil ?_)));exact ⟨⟨Z3C hc1,V,U⟩,H.wk (by omega)⟩
  ·refine .ps 2 V (.kF V (.nil ?_));exact ⟨⟨Z3B hc1,V,U⟩,H.wk (by omega)⟩
 refine .na H fun H => ?_;refine .wh h V ?_ ?_ <;> intro h
 ·refine .tR 2 V H fun b4 σ H => (.aV V (.aV V (.na H fun H => (.ret ?_))));subst h;exact Ends.eR V
 refine .skip (.tR 3 V H fun b5 σ H => (.mV V (.aV V (.aV V (.na H fun H => (.ret ?_))))));subst h;exact Ends.eR V
end Go.Dn
