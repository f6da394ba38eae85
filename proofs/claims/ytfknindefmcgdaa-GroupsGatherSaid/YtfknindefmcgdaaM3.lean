/- Part 3 of what the row stands on. -/
import Derived.KernelRfl
import Derived.Test.YtfknindefmcgdaaM2
set_option linter.unusedVariables false
set_option linter.unusedSimpArgs false
namespace Go.Dn
open Go
noncomputable section
structure Span where
 From:Int
 To:Int
 deriving DecidableEq
def Span.cs (x:Span):List FV:=[(.int .i64 x.From),(.int .i64 x.To)]
def Span.ok (x:Span):Prop:=okI .i64 x.From∧okI .i64 x.To
structure Granule where
 Index:Int
 Ticks:(List Span)
 deriving DecidableEq
def Granule.cs (x:Granule):List FV:=[(.int .i64 x.Index),(.sl (x.Ticks.map Span.cs))]
def Granule.ok (x:Granule):Prop:=okI .i64 x.Index∧okL 16 Span.ok x.Ticks
structure Form where
 Period:Int
 Count:Int
 Core:(List (List Span))
 Odd:(List Granule)
 deriving DecidableEq
def Form.cs (x:Form):List FV:=[(.int .i64 x.Period),(.int .i64 x.Count),(.sl (x.Core.map (cL Span.cs))),(.sl (x.Odd.map Granule.cs))]
def Form.ok (x:Form):Prop:=okI .i64 x.Period∧okI .i64 x.Count∧okL 24 (okL 16 Span.ok) x.Core∧okL 32 Granule.ok x.Odd
structure Bound where
 Inf:Int
 N:Int
 deriving DecidableEq
def Bound.cs (x:Bound):List FV:=[(.int .i8 x.Inf),(.int .i64 x.N)]
def Bound.ok (x:Bound):Prop:=okI .i8 x.Inf∧okI .i64 x.N
structure Arr9_u32 where
 d0:Int
 d1:Int
 d2:Int
 d3:Int
 d4:Int
 d5:Int
 d6:Int
 d7:Int
 d8:Int
 deriving DecidableEq
def Arr9_u32.cs (x:Arr9_u32):List FV:=[(.int .u32 x.d0),(.int .u32 x.d1),(.int .u32 x.d2),(.int .u32 x.d3),(.int .u32 x.d4),(.int .u32 x.d5),(.int .u32 x.d6),(.int .u32 x.d7),(.int .u32 x.d8)]
def Arr9_u32.ok (x:Arr9_u32):Prop:=okI .u32 x.d0∧okI .u32 x.d1∧okI .u32 x.d2∧okI .u32 x.d3∧okI .u32 x.d4∧okI .u32 x.d5∧okI .u32 x.d6∧okI .u32 x.d7∧okI .u32 x.d8
structure epactref01_long where
 minus:Bool
 digits:Arr9_u32
 deriving DecidableEq
def epactref01_long.cs (x:epactref01_long):List FV:=[(.bool x.minus),(.int .u32 x.digits.d0),(.int .u32 x.digits.d1),(.int .u32 x.digits.d2),(.int .u32 x.digits.d3),(.int .u32 x.digits.d4),(.int .u32 x.digits.d5),(.int .u32 x.digits.d6),(.int .u32 x.digits.d7),(.int .u32 x.digits.d8)]
def epactref01_long.ok (x:epactref01_long):Prop:=okB x.minus∧Arr9_u32.ok x.digits
structure spans_border where
 at':Int
 a:Bool
 b:Bool
 deriving DecidableEq
def spans_border.cs (x:spans_border):List FV:=[(.int .i64 x.at'),(.bool x.a),(.bool x.b)]
def spans_border.ok (x:spans_border):Prop:=okI .i64 x.at'∧okB x.a∧okB x.b
def Zw.s0 (f:Form) (s1:Int × Int):Option ((Int × Int) ⊕ (Int)) :=
 (bif (decide (s1.2 < (f.Core.length:Int))) then
  (at? f.Core s1.2).bind fun x1 =>
  some (.inl ((w64 (s1.1 + (x1.length:Int))),(w64 (s1.2 + 1))))
 else
  some (.inr s1.1))
def Zw.s1 (f:Form) (s2:Int × Int):Option ((Int × Int) ⊕ (Int)) :=
 (bif (decide (s2.2 < (f.Odd.length:Int))) then
  (at? f.Odd s2.2).bind fun x2 =>
  some (.inl ((w64 (s2.1 + (x2.Ticks.length:Int))),(w64 (s2.2 + 1))))
 else
  some (.inr s2.1))
def Zw (f:Form):Option (Int) :=
 (loopO (Zw.s0 f) (0,0)).bind fun (y1:Int) =>
 (loopO (Zw.s1 f) (y1,0)).bind fun (y2:Int) =>
 some y2
def Z0h (f:Form):Option (Bool) :=
 (
  (bif ((decide ((f.Core.length:Int)≤12)) && (decide ((f.Odd.length:Int)≤8))) then
   (Zw f).bind fun x1 =>
   some (decide (x1≤60))
  else
   some false)).bind fun (y1:Bool) =>
 some y1
def Z0S (t:Int):Bool :=
 ((decide (t ≥ (-1099511627776))) && (decide (t≤1099511627776)))
def Zy.s0 (l:(List Span)) (s1:Int):Option ((Int) ⊕ (Jx (Unit) (Bool))) :=
 (bif (decide (s1 < (l.length:Int))) then
  (at? l s1).bind fun x1 =>
  (
   (bif (((!(Z0S x1.From)) || (!(Z0S x1.To))) || (decide (x1.From > x1.To))) then
    some true
   else
    (
     (bif (decide (s1 > 0)) then
      (at? l (w64 (s1 - 1))).bind fun x2 =>
      some (decide (x1.From < (w64 (x2.To + 2))))
     else
      some false)).bind fun (y3:Bool) =>
    some y3)).bind fun (y2:Bool) =>
  (bif y2 then
   some (.inr (.ret false))
  else
   some (.inl (w64 (s1 + 1))))
 else
  some (.inr (.go ())))
def Zy (l:(List Span)):Option (Bool) :=
 (loopO (Zy.s0 l) 0).bind fun (y1:Jx (Unit) (Bool)) =>
 y1.elim (fun r' =>
   some r') fun a2 =>
 some true
def Z0W (i:Int):Bool :=
 ((decide (i ≥ (-1099511627776))) && (decide (i≤1099511627776)))
def ZZ.s0 (f:Form) (s1:Int):Option ((Int) ⊕ (Jx (Unit) (Bool))) :=
 (bif (decide (s1 < (f.Core.length:Int))) then
  (at? f.Core s1).bind fun x1 =>
  (Zy x1).bind fun x2 =>
  (bif (!x2) then
   some (.inr (.ret false))
  else
   some (.inl (w64 (s1 + 1))))
 else
  some (.inr (.go ())))
def ZZ.s1 (f:Form) (s2:Int):Option ((Int) ⊕ (Jx (Unit) (Bool))) :=
 (bif (decide (s2 < (f.Odd.length:Int))) then
  (at? f.Odd s2).bind fun x3 =>
  (Zy x3.Ticks).bind fun x4 =>
  (
   (bif ((!x4) || (!(Z0W x3.Index))) then
    some true
   else
    (
     (bif (decide (s2 > 0)) then
      (at? f.Odd (w64 (s2 - 1))).bind fun x5 =>
      some (decide (x3.Index≤x5.Index))
     else
      some false)).bind fun (y4:Bool) =>
    some y4)).bind fun (y3:Bool) =>
  (bif y3 then
   some (.inr (.ret false))
  else
   some (.inl (w64 (s2 + 1))))
 else
  some (.inr (.go ())))
def ZZ (f:Form):Option (Bool) :=
 (bif ((((f.Count != (f.Core.length:Int)) || ((f.Count == 0) != (f.Period == 0))) || (decide (f.Period < 0))) || (decide (f.Period > 1099511627776))) then
  some false
 else
  (loopO (ZZ.s0 f) 0).bind fun (y1:Jx (Unit) (Bool)) =>
  y1.elim (fun r' =>
    some r') fun a2 =>
  (loopO (ZZ.s1 f) 0).bind fun (y2:Jx (Unit) (Bool)) =>
  y2.elim (fun r' =>
    some r') fun a4 =>
  some true)
def Z03.s0 (f:Form) (s2:Int × (List (List Span))):Option ((Int × (List (List Span))) ⊕ ((List (List Span)))) :=
 (bif (decide (s2.1 < (f.Core.length:Int))) then
  (
   (
    (at? f.Core s2.1).bind fun x1 =>
    (bif (decide ((x1.length:Int) > 0)) then
     (app? 24 s2.2 [x1]).bind fun x2 =>
     some x2
    else
     some s2.2)).bind fun (y3:(List (List Span))) =>
   some y3).bind fun (y2:(List (List Span))) =>
  some (.inl ((w64 (s2.1 + 1)),y2))
 else
  some (.inr s2.2))
def Z03.s1 (f:Form) (y1:(List (List Span))) (s3:Int):Option ((Int) ⊕ (Jx (Unit) (Bool))) :=
 (bif (decide (s3 < (y1.length:Int))) then
  (
   (
    (at? y1 s3).bind fun x3 =>
    (nz? (y1.length:Int)).bind fun u1 =>
    (at? y1 ((w64 (s3 + 1)).tmod (y1.length:Int))).bind fun x4 =>
    (
     (bif ((w64 (s3 + 1)) == (y1.length:Int)) then
      some f.Period
     else
      some 0)).bind fun (y7:Int) =>
    (at? x3 (w64 ((x3.length:Int) - 1))).bind fun x5 =>
    (at? x4 0).bind fun x6 =>
    (bif (decide (x5.To ≥ (w64 (x6.From + y7)))) then
     some (.ret false)
    else
     some (.go ()))).bind fun (y6:Jx (Unit) (Bool)) =>
   y6.elim (fun r' =>
     some (.ret r')) fun a4 =>
   some (.go ())).bind fun (y5:Jx (Unit) (Bool)) =>
  y5.elim (fun r' =>
    some (.inr (.ret r'))) fun a5 =>
  some (.inl (w64 (s3 + 1)))
 else
  some (.inr (.go ())))
def Z03 (f:Form):Option (Bool) :=
 (loopO (Z03.s0 f) (0,[])).bind fun (y1:(List (List Span))) =>
 (loopO (Z03.s1 f y1) 0).bind fun (y4:Jx (Unit) (Bool)) =>
 y4.elim (fun r' =>
   some r') fun a6 =>
 some true
def Z1.s0 (x':(List Granule)) (target:Int) (cmp:Granule→Int→Option Int) (s1:Int × Int):Option ((Int × Int) ⊕ (Int)) :=
 (bif (decide (s1.1 < s1.2)) then
  (
   (at? x' (w64 ((IntKind.u64.wrap (w64 (s1.1 + s1.2))).fdiv (2 ^ 1)))).bind fun x1 =>
   (cmp x1 target).bind fun x2 =>
   (bif (decide (x2 < 0)) then
    some ((w64 ((w64 ((IntKind.u64.wrap (w64 (s1.1 + s1.2))).fdiv (2 ^ 1))) + 1)),s1.2)
   else
    some (s1.1,(w64 ((IntKind.u64.wrap (w64 (s1.1 + s1.2))).fdiv (2 ^ 1)))))).bind fun (y2:Int × Int) =>
  some (.inl (y2.1,y2.2))
 else
  some (.inr s1.1))
def Z1 (x':(List Granule)) (target:Int) (cmp:Granule→Int→Option Int):Option (Int × Bool) :=
 (loopO (Z1.s0 x' target cmp) (0,(x'.length:Int))).bind fun (y1:Int) =>
 (
  (bif (decide (y1 < (x'.length:Int))) then
   (at? x' y1).bind fun x3 =>
   (cmp x3 target).bind fun x4 =>
   some (x4 == 0)
  else
   some false)).bind fun (y3:Bool) =>
 some (y1,y3)
def Z2I (x':Int):Bool :=
 (x' != x')
def Z2E (x':Int) (y:Int):Int :=
 (bif (Z2I x') then
  (bif (Z2I y) then
   0
  else
   (-1))
 else
  (bif (Z2I y) then
   1
  else
   (bif (decide (x' < y)) then
    (-1)
   else
    (bif (decide (x' > y)) then
     1
    else
     0))))
def Z35 (g:Granule) (i:Int):Int :=
 (Z2E g.Index i)
def Z48 (f:Form) (i:Int):Option (Int × Bool) :=
 (Z1 f.Odd i (fun z0 z1 => some (Z35 z0 z1))).bind fun x1 =>
 some (x1.1,x1.2)
def Z0X (a:Int) (b:Int):Option (Int × Int × Int) :=
 (bif (b == 0) then
  some (0,0,11)
 else
  (bif ((b == (-1)) && (a == (-9223372036854775808))) then
   some (0,0,10)
  else
   (nz? b).bind fun u1 =>
   (nz? b).bind fun u2 =>
   (
    (bif (((a.tmod b) != 0) && ((decide ((a.tmod b) < 0)) != (decide (b < 0)))) then
     some ((w64 ((w64 (a.tdiv b)) - 1)),(w64 ((a.tmod b) + b)))
    else
     some ((w64 (a.tdiv b)),(a.tmod b)))).bind fun (y1:Int × Int) =>
   some (y1.1,y1.2,0)))
def ZN (a:Int):Int :=
 (bif (decide (a < 0)) then
  (IntKind.u64.wrap (0 - (IntKind.u64.wrap a)))
 else
  (IntKind.u64.wrap a))
def Zl (x':Int) (y:Int):Int × Int :=
 ((IntKind.u64.wrap ((IntKind.u64.wrap ((IntKind.u64.wrap ((x'.fdiv (2 ^ 32)) * (y.fdiv (2 ^ 32)))) + ((IntKind.u64.wrap ((IntKind.u64.wrap ((x'.fdiv (2 ^ 32)) * (iAnd .u64 y 4294967295))) + ((IntKind.u64.wrap ((iAnd .u64 x' 4294967295) * (iAnd .u64 y 4294967295))).fdiv (2 ^ 32)))).fdiv (2 ^ 32)))) + ((IntKind.u64.wrap ((iAnd .u64 (IntKind.u64.wrap ((IntKind.u64.wrap ((x'.fdiv (2 ^ 32)) * (iAnd .u64 y 4294967295))) + ((IntKind.u64.wrap ((iAnd .u64 x' 4294967295) * (iAnd .u64 y 4294967295))).fdiv (2 ^ 32)))) 4294967295) + (IntKind.u64.wrap ((iAnd .u64 x' 4294967295) * (y.fdiv (2 ^ 32)))))).fdiv (2 ^ 32)))),(IntKind.u64.wrap (x' * y)))
def Z1A (n:Int) (minus:Bool):Int × Int :=
 (bif (minus && (decide (n≤9223372036854775808))) then
  ((w64 (IntKind.u64.wrap (0 - n))),0)
 else
  (bif ((!minus) && (decide (n≤9223372036854775807))) then
   ((w64 n),0)
  else
   (0,10)))
def Za (a:Int) (b:Int):Int × Int :=
 (bif (((Zl (ZN a) (ZN b)).1) != 0) then
  (0,10)
 else
  ((Z1A ((Zl (ZN a) (ZN b)).2) ((decide (a < 0)) != (decide (b < 0)))).1,(Z1A ((Zl (ZN a) (ZN b)).2) ((decide (a < 0)) != (decide (b < 0)))).2))
def Z2F (f:Form) (i:Int):Option ((List Span) × Int × Int) :=
 (Z48 f i).bind fun x1 =>
 (bif x1.2 then
  (at? f.Odd x1.1).bind fun x2 =>
  some (x2.Ticks,0,0)
 else
  (bif (f.Count == 0) then
   some ([],0,0)
  else
   (Z0X i f.Count).bind fun x3 =>
   (at? f.Core x3.2.1).bind fun x4 =>
   some (x4,(Za x3.1 f.Period).1,(Za x3.1 f.Period).2)))
def ZP (a:Int) (b:Int):Int × Int :=
 (bif (((decide ((w64 (a + b)) > a)) != (decide (b > 0))) && (b != 0)) then
  (0,10)
 else
  ((w64 (a + b)),0))
def Z02.s0 (l:(List Span)) (by':Int) (s2:Int × (List Span)):Option ((Int × (List Span)) ⊕ (Jx ((List Span)) ((List Span) × Int))) :=
 (bif (decide (s2.1 < (l.length:Int))) then
  (at? l s2.1).bind fun x1 =>
  (bif ((((((ZP x1.From by').2) != 0) || (((ZP x1.To by').2) != 0)) || (!(Z0S ((ZP x1.From by').1)))) || (!(Z0S ((ZP x1.To by').1)))) then
   some (.inr (.ret ([],20)))
  else
   (app? 16 s2.2 [(Span.mk ((ZP x1.From by').1) ((ZP x1.To by').1))]).bind fun x2 =>
   some (.inl ((w64 (s2.1 + 1)),x2)))
 else
  some (.inr (.go s2.2)))
def Z02 (l:(List Span)) (by':Int):Option ((List Span) × Int) :=
 (loopO (Z02.s0 l by') (0,[])).bind fun (y1:Jx ((List Span)) ((List Span) × Int)) =>
 y1.elim (fun r' =>
   some r') fun a2 =>
 some (a2,0)
def Zt (f:Form) (i:Int):Option ((List Span) × Int) :=
 (bif (!(Z0W i)) then
  some ([],20)
 else
  (Z2F f i).bind fun x1 =>
  (bif ((x1.1.length:Int) == 0) then
   some ([],0)
  else
   (bif (x1.2.2 != 0) then
    some ([],20)
   else
    (Z02 x1.1 x1.2.1).bind fun x2 =>
    some (x2.1,x2.2))))
def Z7.s0 (s:(List (List Span))) (f:(List Span)→Option Bool) (s1:Int):Option ((Int) ⊕ (Jx (Unit) (Int))) :=
 (bif (decide (s1 < (s.length:Int))) then
  (at? s s1).bind fun x1 =>
  (f x1).bind fun x2 =>
  (bif x2 then
   some (.inr (.ret s1))
  else
   some (.inl (w64 (s1 + 1))))
 else
  some (.inr (.go ())))
def Z7 (s:(List (List Span))) (f:(List Span)→Option Bool):Option (Int) :=
 (loopO (Z7.s0 s f) 0).bind fun (y1:Jx (Unit) (Int)) =>
 y1.elim (fun r' =>
   some r') fun a2 =>
 some (-1)
def ZM (s:(List (List Span))) (f:(List Span)→Option Bool):Option (Bool) :=
 (Z7 s f).bind fun x1 =>
 some (decide (x1 ≥ 0))
def Z4B (l:(List Span)):Bool :=
 (decide ((l.length:Int) > 0))
def Z2i (f:Form):Option (Bool) :=
 (ZM f.Core (fun z0 => some (Z4B z0))).bind fun x1 =>
 some (!x1)
def Z3g (f:Form) (i:Int):Option (Bool) :=
 (Z2F f i).bind fun x1 =>
 some (decide ((x1.1.length:Int) > 0))
def Zj.s0 (f:Form) (by':Int) (s1:Int):Option ((Int) ⊕ (Jx (Unit) (Int × Bool))) :=
 (bif ((decide (s1 ≥ 0)) && (decide (s1 < (f.Odd.length:Int)))) then
  (at? f.Odd s1).bind fun x3 =>
  (bif (decide ((x3.Ticks.length:Int) > 0)) then
   (at? f.Odd s1).bind fun x4 =>
   some (.inr (.ret (x4.Index,true)))
  else
   some (.inl (w64 (s1 + by'))))
 else
  some (.inr (.go ())))
def Zj.s1 (f:Form) (by':Int) (s2:Int):Option ((Int) ⊕ (Jx (Unit) (Int × Bool))) :=
 (bif (Z0W s2) then
  (Z3g f s2).bind fun x5 =>
  (bif x5 then
   some (.inr (.ret (s2,true)))
  else
   some (.inl (w64 (s2 + by'))))
 else
  some (.inr (.go ())))
def Zj (f:Form) (from':Int) (by':Int):Option (Int × Bool) :=
 (Z2i f).bind fun x1 =>
 (bif x1 then
  (Z48 f from').bind fun x2 =>
  (
   (bif ((decide (by' < 0)) && (!x2.2)) then
    some (w64 (x2.1 - 1))
   else
    some x2.1)).bind fun (y1:Int) =>
  (loopO (Zj.s0 f by') y1).bind fun (y2:Jx (Unit) (Int × Bool)) =>
  y2.elim (fun r' =>
    some r') fun a2 =>
  some (0,false)
 else
  (loopO (Zj.s1 f by') from').bind fun (y3:Jx (Unit) (Int × Bool)) =>
  y3.elim (fun r' =>
    some r') fun a4 =>
  some (0,false))
def Z18 (f:Form) (i:Int):Option (Int × Bool) :=
 (bif (decide (i≤(-1099511627776))) then
  some (0,false)
 else
  (Zj f (iMin (w64 (i - 1)) 1099511627776) (-1)).bind fun x1 =>
  some (x1.1,x1.2))
def Z0n (f:Form) (i:Int):Option (Int × Bool) :=
 (bif (decide (i ≥ 1099511627776)) then
  some (0,false)
 else
  (Zj f (iMax (w64 (i + 1)) (-1099511627776)) 1).bind fun x1 =>
  some (x1.1,x1.2))
def Z0L (a:(List Span)) (b:(List Span)):Option (Bool) :=
 (
  (bif (((a.length:Int) == 0) || ((b.length:Int) == 0)) then
   some true
  else
   (at? a (w64 ((a.length:Int) - 1))).bind fun x1 =>
   (at? b 0).bind fun x2 =>
   some (decide (x1.To < x2.From)))).bind fun (y1:Bool) =>
 some y1
def Z1U (f:Form) (i:Int):Option (Bool) :=
 (Zt f i).bind fun x1 =>
 (bif (x1.2 != 0) then
  some false
 else
  (Z18 f i).bind fun x2 =>
  (Z0n f i).bind fun x3 =>
  (
   (bif x2.2 then
    (Zt f x2.1).bind fun x4 =>
    (bif (x4.2 != 0) then
     some (.ret false)
    else
     some (.go x4.1))
   else
    some (.go []))).bind fun (y1:Jx ((List Span)) (Bool)) =>
  y1.elim (fun r' =>
    some r') fun a2 =>
  (
   (bif x3.2 then
    (Zt f x3.1).bind fun x5 =>
    (bif (x5.2 != 0) then
     some (.ret false)
    else
     some (.go x5.1))
   else
    some (.go []))).bind fun (y2:Jx ((List Span)) (Bool)) =>
  y2.elim (fun r' =>
    some r') fun a4 =>
  (Z0L a2 x1.1).bind fun x6 =>
  (
   (bif x6 then
    (Z0L x1.1 a4).bind fun x7 =>
    some x7
   else
    some false)).bind fun (y3:Bool) =>
  (
   (bif y3 then
    (Z0L a2 a4).bind fun x8 =>
    some x8
   else
    some false)).bind fun (y4:Bool) =>
  some y4)
def Zn.s0 (f:Form) (s1:Int):Option ((Int) ⊕ (Jx (Unit) (Int))) :=
 (bif (decide (s1 < (f.Odd.length:Int))) then
  (at? f.Odd s1).bind fun x4 =>
  (Z1U f x4.Index).bind fun x5 =>
  (bif (!x5) then
   some (.inr (.ret 50))
  else
   some (.inl (w64 (s1 + 1))))
 else
  some (.inr (.go ())))
def Zn (f:Form):Option (Int) :=
 (
  (bif ((decide ((f.Core.length:Int) > 6000)) || (decide ((f.Odd.length:Int) > 6000))) then
   some true
  else
   (Zw f).bind fun x1 =>
   some (decide (x1 > 60000)))).bind fun (y1:Bool) =>
 (bif y1 then
  some 3
 else
  (ZZ f).bind fun x2 =>
  (
   (bif (!x2) then
    some true
   else
    (Z03 f).bind fun x3 =>
    some (!x3))).bind fun (y2:Bool) =>
  (bif y2 then
   some 50
  else
   (loopO (Zn.s0 f) 0).bind fun (y3:Jx (Unit) (Int)) =>
   y3.elim (fun r' =>
     some r') fun a2 =>
   some 0))
def Z3r (f:Form):Option (Bool) :=
 (Z0h f).bind fun x1 =>
 (
  (bif x1 then
   (Zn f).bind fun x2 =>
   some (x2 == 0)
  else
   some false)).bind fun (y1:Bool) =>
 some y1
def Z0U:Bool:=true
def ZJ.s0 (s1':(List Span)) (s2':(List Span)) (s1:Int):Option ((Int) ⊕ (Jx (Unit) (Bool))) :=
 (bif (decide (s1 < (s1'.length:Int))) then
  (at? s1' s1).bind fun x1 =>
  (at? s2' s1).bind fun x2 =>
  (bif (!((x1.From == x2.From) && ((x1.To == x2.To) && true))) then
   some (.inr (.ret false))
  else
   some (.inl (w64 (s1 + 1))))
 else
  some (.inr (.go ())))
def ZJ (s1':(List Span)) (s2':(List Span)):Option (Bool) :=
 (bif ((s1'.length:Int) != (s2'.length:Int)) then
  some false
 else
  (loopO (ZJ.s0 s1' s2') 0).bind fun (y1:Jx (Unit) (Bool)) =>
  y1.elim (fun r' =>
    some r') fun a2 =>
  some true)
def Z0B (a:(List Span)) (b:(List Span)):Option (Bool) :=
 (ZJ a b).bind fun x1 =>
 some x1
def epactlaw05_FormOrder (f:Form) (i:Int) (k:Int):Option (Bool) :=
 (Z3r f).bind fun x1 =>
 (bif (!x1) then
  some Z0U
 else
  (Zt f (iMin i k)).bind fun x2 =>
  (Zt f (iMax i k)).bind fun x3 =>
  (bif ((x2.2 != 0) || (x3.2 != 0)) then
   some ((((x2.2 == 0) || ((x2.2 == 20) && ((x2.1.length:Int) == 0))) && ((x3.2 == 0) || ((x3.2 == 20) && ((x3.1.length:Int) == 0)))) && Z0U)
  else
   (Zy x2.1).bind fun x4 =>
   (
    (bif x4 then
     (Zy x3.1).bind fun x5 =>
     some x5
    else
     some false)).bind fun (y1:Bool) =>
   (
    (bif y1 then
     (
      (bif ((iMin i k) == (iMax i k)) then
       (Z0B x2.1 x3.1).bind fun x6 =>
       some x6
      else
       some false)).bind fun (y3:Bool) =>
     (
      (bif y3 then
       some true
      else
       (
        (bif (decide ((iMin i k) < (iMax i k))) then
         (Z0L x2.1 x3.1).bind fun x7 =>
         some x7
        else
         some false)).bind fun (y5:Bool) =>
       some y5)).bind fun (y4:Bool) =>
     some y4
    else
     some false)).bind fun (y2:Bool) =>
   some (y2 && Z0U)))
def Z3S.s0 (f:Form) (i:Int) (s1:Int):Option ((Int) ⊕ (Jx (Unit) (Bool))) :=
 (bif (decide (s1 < (f.Odd.length:Int))) then
  (at? f.Odd s1).bind fun x1 =>
  (bif (x1.Index == i) then
   some (.inr (.ret true))
  else
   some (.inl (w64 (s1 + 1))))
 else
  some (.inr (.go ())))
def Z3S (f:Form) (i:Int):Option (Bool) :=
 (loopO (Z3S.s0 f i) 0).bind fun (y1:Jx (Unit) (Bool)) =>
 y1.elim (fun r' =>
   some r') fun a2 =>
 some false
def epactlaw05_FormTurns (f:Form) (i:Int):Option (Bool) :=
 (Z3r f).bind fun x1 =>
 (
  (bif ((!x1) || (f.Count == 0)) then
   some true
  else
   (Z3S f ((w64 i).tmod 1048576)).bind fun x2 =>
   some x2)).bind fun (y1:Bool) =>
 (
  (bif y1 then
   some true
  else
   (Z3S f (w64 (((w64 i).tmod 1048576) + f.Count))).bind fun x3 =>
   some x3)).bind fun (y2:Bool) =>
 (bif y2 then
  some Z0U
 else
  (Zt f ((w64 i).tmod 1048576)).bind fun x4 =>
  (Zt f (w64 (((w64 i).tmod 1048576) + f.Count))).bind fun x5 =>
  (bif ((x4.2 != 0) || (x5.2 != 0)) then
   some Z0U
  else
   (Z02 x4.1 f.Period).bind fun x6 =>
   (
    (bif (x6.2 == 0) then
     (Z0B x6.1 x5.1).bind fun x7 =>
     some x7
    else
     some false)).bind fun (y3:Bool) =>
   some (y3 && Z0U)))
def Z1n.s0 (f:Form) (i:Int) (x2:Int × Bool) (s1:Int):Option ((Int) ⊕ (Jx (Int) (Bool))) :=
 (bif ((x2.2 && (decide (s1 < x2.1))) && (decide (s1 < (w64 (((w64 i).fdiv (2 ^ 1)) + 40))))) then
  (Zt f s1).bind fun x4 =>
  (bif ((x4.2 == 0) && (decide ((x4.1.length:Int) > 0))) then
   some (.inr (.ret false))
  else
   some (.inl (w64 (s1 + 1))))
 else
  some (.inr (.go ((w64 i).fdiv (2 ^ 1)))))
def Z1n.s1 (f:Form) (x3:Int × Bool) (a2:Int) (s2:Int):Option ((Int) ⊕ (Jx (Unit) (Bool))) :=
 (bif ((x3.2 && (decide (s2 > x3.1))) && (decide (s2 > (w64 (a2 - 40))))) then
  (Zt f s2).bind fun x5 =>
  (bif ((x5.2 == 0) && (decide ((x5.1.length:Int) > 0))) then
   some (.inr (.ret false))
  else
   some (.inl (w64 (s2 - 1))))
 else
  some (.inr (.go ())))
def Z1n (f:Form) (i:Int):Option (Bool) :=
 (Z3r f).bind fun x1 =>
 (bif (!x1) then
  some Z0U
 else
  (Z0n f ((w64 i).fdiv (2 ^ 1))).bind fun x2 =>
  (Z18 f ((w64 i).fdiv (2 ^ 1))).bind fun x3 =>
  (bif ((x2.2 && (decide (x2.1≤((w64 i).fdiv (2 ^ 1))))) || (x3.2 && (decide (x3.1 ≥ ((w64 i).fdiv (2 ^ 1)))))) then
   some false
  else
   (loopO (Z1n.s0 f i x2) (w64 (((w64 i).fdiv (2 ^ 1)) + 1))).bind fun (y1:Jx (Int) (Bool)) =>
   y1.elim (fun r' =>
     some r') fun a2 =>
   (loopO (Z1n.s1 f x3 a2) (w64 (a2 - 1))).bind fun (y2:Jx (Unit) (Bool)) =>
   y2.elim (fun r' =>
     some r') fun a4 =>
   (
    (bif x2.2 then
     (Z18 f x2.1).bind fun x6 =>
     (bif ((x6.2 && (decide (x6.1 > a2))) || (x3.2 && ((!x6.2) || (decide (x6.1 < x3.1))))) then
      some (.ret false)
     else
      some (.go ()))
    else
     some (.go ()))).bind fun (y3:Jx (Unit) (Bool)) =>
   y3.elim (fun r' =>
     some r') fun a6 =>
   some Z0U))
def Z5.s0 (s1':(List Span)) (s2':(List Span)) (eq:Span→Span→Option Bool) (s1:Int):Option ((Int) ⊕ (Jx (Unit) (Bool))) :=
 (bif (decide (s1 < (s1'.length:Int))) then
  (at? s1' s1).bind fun x1 =>
  (at? s2' s1).bind fun x2 =>
  (eq x1 x2).bind fun x3 =>
  (bif (!x3) then
   some (.inr (.ret false))
  else
   some (.inl (w64 (s1 + 1))))
 else
  some (.inr (.go ())))
def Z5 (s1':(List Span)) (s2':(List Span)) (eq:Span→Span→Option Bool):Option (Bool) :=
 (bif ((s1'.length:Int) != (s2'.length:Int)) then
  some false
 else
  (loopO (Z5.s0 s1' s2' eq) 0).bind fun (y1:Jx (Unit) (Bool)) =>
  y1.elim (fun r' =>
    some r') fun a2 =>
  some true)
def Z9.s0 (s1':(List (List Span))) (s2':(List (List Span))) (eq:(List Span)→(List Span)→Option Bool) (s1:Int):Option ((Int) ⊕ (Jx (Unit) (Bool))) :=
 (bif (decide (s1 < (s1'.length:Int))) then
  (at? s1' s1).bind fun x1 =>
  (at? s2' s1).bind fun x2 =>
  (eq x1 x2).bind fun x3 =>
  (bif (!x3) then
   some (.inr (.ret false))
  else
   some (.inl (w64 (s1 + 1))))
 else
  some (.inr (.go ())))
def Z9 (s1':(List (List Span))) (s2':(List (List Span))) (eq:(List Span)→(List Span)→Option Bool):Option (Bool) :=
 (bif ((s1'.length:Int) != (s2'.length:Int)) then
  some false
 else
  (loopO (Z9.s0 s1' s2' eq) 0).bind fun (y1:Jx (Unit) (Bool)) =>
  y1.elim (fun r' =>
    some r') fun a2 =>
  some true)
def Z2.s0 (s1':(List Granule)) (s2':(List Granule)) (eq:Granule→Granule→Option Bool) (s1:Int):Option ((Int) ⊕ (Jx (Unit) (Bool))) :=
 (bif (decide (s1 < (s1'.length:Int))) then
  (at? s1' s1).bind fun x1 =>
  (at? s2' s1).bind fun x2 =>
  (eq x1 x2).bind fun x3 =>
  (bif (!x3) then
   some (.inr (.ret false))
  else
   some (.inl (w64 (s1 + 1))))
 else
  some (.inr (.go ())))
def Z2 (s1':(List Granule)) (s2':(List Granule)) (eq:Granule→Granule→Option Bool):Option (Bool) :=
 (bif ((s1'.length:Int) != (s2'.length:Int)) then
  some false
 else
  (loopO (Z2.s0 s1' s2' eq) 0).bind fun (y1:Jx (Unit) (Bool)) =>
  y1.elim (fun r' =>
    some r') fun a2 =>
  some true)
def ZR.s0 (a:(List Span)) (b:(List Span)) (s1:Int):Option ((Int) ⊕ (Jx (Unit) (Bool))) :=
 (bif (decide (s1 < (a.length:Int))) then
  (at? a s1).bind fun x1 =>
  (at? b s1).bind fun x2 =>
  (bif (!((x2.From == x1.From) && ((x2.To == x1.To) && true))) then
   some (.inr (.ret false))
  else
   some (.inl (w64 (s1 + 1))))
 else
  some (.inr (.go ())))
def ZR (a:(List Span)) (b:(List Span)):Option (Bool) :=
 (bif ((a.length:Int) != (b.length:Int)) then
  some false
 else
  (loopO (ZR.s0 a b) 0).bind fun (y1:Jx (Unit) (Bool)) =>
  y1.elim (fun r' =>
    some r') fun a2 =>
  some true)
def ZD.s0 (a:Form) (b:Form) (s1:Int):Option ((Int) ⊕ (Jx (Unit) (Bool))) :=
 (bif (decide (s1 < (a.Core.length:Int))) then
  (at? a.Core s1).bind fun x1 =>
  (at? b.Core s1).bind fun x2 =>
  (ZR x1 x2).bind fun x3 =>
  (bif (!x3) then
   some (.inr (.ret false))
  else
   some (.inl (w64 (s1 + 1))))
 else
  some (.inr (.go ())))
def ZD.s1 (a:Form) (b:Form) (s2:Int):Option ((Int) ⊕ (Jx (Unit) (Bool))) :=
 (bif (decide (s2 < (a.Odd.length:Int))) then
  (at? a.Odd s2).bind fun x4 =>
  (at? b.Odd s2).bind fun x5 =>
  (
   (bif (x4.Index != x5.Index) then
    some true
   else
    (at? b.Odd s2).bind fun x6 =>
    (ZR x4.Ticks x6.Ticks).bind fun x7 =>
    some (!x7))).bind fun (y3:Bool) =>
  (bif y3 then
   some (.inr (.ret false))
  else
   some (.inl (w64 (s2 + 1))))
 else
  some (.inr (.go ())))
def ZD (a:Form) (b:Form):Option (Bool) :=
 (bif ((((a.Period != b.Period) || (a.Count != b.Count)) || ((a.Core.length:Int) != (b.Core.length:Int))) || ((a.Odd.length:Int) != (b.Odd.length:Int))) then
  some false
 else
  (loopO (ZD.s0 a b) 0).bind fun (y1:Jx (Unit) (Bool)) =>
  y1.elim (fun r' =>
    some r') fun a2 =>
  (loopO (ZD.s1 a b) 0).bind fun (y2:Jx (Unit) (Bool)) =>
  y2.elim (fun r' =>
    some r') fun a4 =>
  some true)
def Z2j (f:Form):Option (Bool) :=
 (Z0h f).bind fun x1 =>
 (
  (bif x1 then
   (Zn f).bind fun x2 =>
   some (x2 == 0)
  else
   some false)).bind fun (y1:Bool) =>
 some y1
def Z31.s0 (f:Form) (most:Int) (s1:Int):Option ((Int) ⊕ (Jx (Unit) (Bool))) :=
 (bif (decide (s1 < (f.Odd.length:Int))) then
  (at? f.Odd s1).bind fun x1 =>
  (bif ((decide (x1.Index < (w64 (0 - most)))) || (decide (x1.Index > most))) then
   some (.inr (.ret false))
  else
   some (.inl (w64 (s1 + 1))))
 else
  some (.inr (.go ())))
def Z31 (f:Form) (most:Int):Option (Bool) :=
 (loopO (Z31.s0 f most) 0).bind fun (y1:Jx (Unit) (Bool)) =>
 y1.elim (fun r' =>
   some r') fun a2 =>
 some true
def Z0l:Bool:=true
def Z4S (l:(List Span)):Bool :=
 (decide ((l.length:Int) > 0))
def Z39 (f:Form):Option (Bool) :=
 (ZM f.Core (fun z0 => some (Z4S z0))).bind fun x1 =>
 some (!x1)
def Zk.s0 (p1':Int) {S:Type} (yield:S→Int→Option (S × Bool)) (s1:Int × S):Option ((Int × S) ⊕ (Jx (S) (S))) :=
 (bif (decide (s1.1≤p1')) then
  (nz? s1.1).bind fun u1 =>
  (
   (bif ((p1'.tmod s1.1) == 0) then
    (yield s1.2 s1.1).bind fun x1 =>
    some ((!x1.2),x1.1)
   else
    some (false,s1.2))).bind fun (y2:Bool × S) =>
  (bif y2.1 then
   some (.inr (.ret y2.2))
  else
   some (.inl ((w64 (s1.1 + 1)),y2.2)))
 else
  some (.inr (.go s1.2)))
def Zk {S:Type} (p1':Int) (yield:S→Int→Option (S × Bool)) (st':S):Option (S) :=
 (loopO (Zk.s0 p1' yield) (1,st')).bind fun (y1:Jx (S) (S)) =>
 y1.elim (fun r' =>
   some r') fun a2 =>
 some a2
def Z0s (x':Span) (y:Span) (p2':Int):Bool :=
 (((w64 (y.From - x'.From)) == p2') && ((w64 (y.To - x'.To)) == p2'))
def Z1k (a:(List Span)) (b:(List Span)) (by':Int):Option (Bool) :=
 (Z5 a b (fun z0 z1 => some (Z0s z0 z1 by'))).bind fun x1 =>
 some x1
def Z0R.s0 (f:Form) (d:Int) (by':Int) (s1:Int):Option ((Int) ⊕ (Jx (Unit) (Bool))) :=
 (bif (decide (s1 < (f.Core.length:Int))) then
  (
   (
    (at? f.Core s1).bind fun x1 =>
    (
     (bif (decide ((w64 (s1 + d)) ≥ f.Count)) then
      some ((w64 ((w64 (s1 + d)) - f.Count)),f.Period)
     else
      some ((w64 (s1 + d)),0))).bind fun (y4:Int × Int) =>
    (at? f.Core y4.1).bind fun x2 =>
    (Z1k x1 x2 (w64 (by' - y4.2))).bind fun x3 =>
    (bif (!x3) then
     some (.ret false)
    else
     some (.go ()))).bind fun (y3:Jx (Unit) (Bool)) =>
   y3.elim (fun r' =>
     some (.ret r')) fun a4 =>
   some (.go ())).bind fun (y2:Jx (Unit) (Bool)) =>
  y2.elim (fun r' =>
    some (.inr (.ret r'))) fun a5 =>
  some (.inl (w64 (s1 + 1)))
 else
  some (.inr (.go ())))
def Z0R (f:Form) (d:Int) (by':Int):Option (Bool) :=
 (loopO (Z0R.s0 f d by') 0).bind fun (y1:Jx (Unit) (Bool)) =>
 y1.elim (fun r' =>
   some r') fun a6 =>
 some true
def Zh.s1 (x4:(List (List Span))) (s3:Int × (List (List Span))):Option ((Int × (List (List Span))) ⊕ ((List (List Span)))) :=
 (bif (decide (s3.1 < (x4.length:Int))) then
  (at? x4 s3.1).bind fun x5 =>
  (clone? 16 x5).bind fun x6 =>
  (app? 24 s3.2 [x6]).bind fun x7 =>
  some (.inl ((w64 (s3.1 + 1)),x7))
 else
  some (.inr s3.2))
def Zh.b0 (f:Form) (s2:(List (List Span)) × Int × Int) (z2:Int):Option (((List (List Span)) × Int × Int) × Nat) :=
 (nz? z2).bind fun u1 =>
 (Z0X f.Period (w64 (f.Count.tdiv z2))).bind fun x2 =>
 (
  (bif (x2.2.1 != 0) then
   some true
  else
   (Z0R f z2 x2.1).bind fun x3 =>
   some (!x3))).bind fun (y3:Bool) =>
 (bif y3 then
  some ((s2.1,s2.2.1,s2.2.2),0)
 else
  (cut? f.Core 0 z2).bind fun x4 =>
  (loopO (Zh.s1 x4) (0,s2.1)).bind fun (y4:(List (List Span))) =>
  some ((y4,x2.1,z2),1))
def Zh (f:Form):Option (Form) :=
 (Z39 f).bind fun x1 =>
 (bif x1 then
  some (Form.mk 0 0 [] [])
 else
  (
   (Zk f.Count (Z1Q (Zh.b0 f)) (([],0,0),0)).bind fun (y2:((List (List Span)) × Int × Int) × Nat) =>
   (bif (y2.2 == 0) then
    some (y2.1.1,y2.1.2.1,y2.1.2.2)
   else
    some (y2.1.1,y2.1.2.1,y2.1.2.2))).bind fun (y1:(List (List Span)) × Int × Int) =>
  some (Form.mk y1.2.1 y1.2.2 y1.1 []))
def Z2e (f:Form) (g:Granule):Option (Bool) :=
 (Zt f g.Index).bind fun x1 =>
 (
  (bif (x1.2 == 0) then
   (Z0B x1.1 g.Ticks).bind fun x2 =>
   some x2
  else
   some false)).bind fun (y1:Bool) =>
 some y1
def Zc.s0 (f:Form) (x1:Form) (s2:Int × (List Granule)):Option ((Int × (List Granule)) ⊕ ((List Granule))) :=
 (bif (decide (s2.1 < (f.Odd.length:Int))) then
  (
   (
    (at? f.Odd s2.1).bind fun x2 =>
    (Z2e x1 x2).bind fun x3 =>
    (bif (!x3) then
     (clone? 16 x2.Ticks).bind fun x4 =>
     (app? 32 s2.2 [(Granule.mk x2.Index x4)]).bind fun x5 =>
     some x5
    else
     some s2.2)).bind fun (y3:(List Granule)) =>
   some y3).bind fun (y2:(List Granule)) =>
  some (.inl ((w64 (s2.1 + 1)),y2))
 else
  some (.inr s2.2))
def Zc (f:Form):Option (Form) :=
 (Zh f).bind fun x1 =>
 (loopO (Zc.s0 f x1) (0,[])).bind fun (y1:(List Granule)) =>
 some (Form.mk x1.Period x1.Count x1.Core y1)
def Z19 (x':Granule) (y:Granule):Option (Bool) :=
 (
  (bif (x'.Index == y.Index) then
   (Z0B x'.Ticks y.Ticks).bind fun x1 =>
   some x1
  else
   some false)).bind fun (y1:Bool) =>
 some y1
def Z3C (a:Form) (b:Form):Option (Bool) :=
 (
  (bif ((a.Period == b.Period) && (a.Count == b.Count)) then
   (Z9 a.Core b.Core (fun z0 z1 => Z0B z0 z1)).bind fun x1 =>
   some x1
  else
   some false)).bind fun (y1:Bool) =>
 (
  (bif y1 then
   (Z2 a.Odd b.Odd (fun z0 z1 => Z19 z0 z1)).bind fun x2 =>
   some x2
  else
   some false)).bind fun (y2:Bool) =>
 some y2
def ZAr (f:Form) (g:Form):Option (Bool) :=
 (Zc f).bind fun x1 =>
 (Zc g).bind fun x2 =>
 (Z3C x1 x2).bind fun x3 =>
 some x3
def Z49.s0 (f:Form) (g:Form) (s1:Int):Option ((Int) ⊕ (Jx (Bool) (Bool))) :=
 (bif (decide (s1≤2000)) then
  (Zt f s1).bind fun x5 =>
  (Zt g s1).bind fun x6 =>
  (bif ((x5.2 != 0) || (x6.2 != 0)) then
   some (.inr (.ret Z0l))
  else
   (Z0B x5.1 x6.1).bind fun x7 =>
   (bif (!x7) then
    some (.inr (.go false))
   else
    some (.inl (w64 (s1 + 1)))))
 else
  some (.inr (.go true)))
def Z49 (f:Form) (g:Form):Option (Bool) :=
 (Z2j f).bind fun x1 =>
 (
  (bif (!x1) then
   some true
  else
   (Z2j g).bind fun x2 =>
   some (!x2))).bind fun (y1:Bool) =>
 (
  (bif y1 then
   some true
  else
   (Z31 f 200).bind fun x3 =>
   some (!x3))).bind fun (y2:Bool) =>
 (
  (bif y2 then
   some true
  else
   (Z31 g 200).bind fun x4 =>
   some (!x4))).bind fun (y3:Bool) =>
 (bif ((y3 || (decide (f.Period > 32768))) || (decide (g.Period > 32768))) then
  some Z0l
 else
  (loopO (Z49.s0 f g) (-2000)).bind fun (y4:Jx (Bool) (Bool)) =>
  y4.elim (fun r' =>
    some r') fun a2 =>
  (ZAr f g).bind fun x8 =>
  (
   (bif (x8 == a2) then
    (Zc f).bind fun x9 =>
    (Zc g).bind fun x10 =>
    (ZD x9 x10).bind fun x11 =>
    some (x11 == a2)
   else
    some false)).bind fun (y5:Bool) =>
  some (y5 && Z0l))
def Z4E (f:Form):Option (Bool) :=
 (Zc f).bind fun x1 =>
 (Z3C f x1).bind fun x2 =>
 some x2
def Z3Z.s0 (f:Form) (i:Int) (x2:Form) (s1:Int):Option ((Int) ⊕ (Jx (Unit) (Bool))) :=
 (bif (decide (s1 < ([i,0,1,(-1),(w64 ((i.tmod 50) - 25))].length:Int))) then
  (at? [i,0,1,(-1),(w64 ((i.tmod 50) - 25))] s1).bind fun x9 =>
  (Zt f x9).bind fun x10 =>
  (Zt x2 x9).bind fun x11 =>
  (
   (bif (x10.2 != x11.2) then
    some true
   else
    (Z0B x10.1 x11.1).bind fun x12 =>
    some (!x12))).bind fun (y5:Bool) =>
  (bif y5 then
   some (.inr (.ret false))
  else
   some (.inl (w64 (s1 + 1))))
 else
  some (.inr (.go ())))
def Z3Z (f:Form) (i:Int):Option (Bool) :=
 (Z2j f).bind fun x1 =>
 (bif (!x1) then
  some Z0l
 else
  (Zc f).bind fun x2 =>
  (Zn x2).bind fun x3 =>
  (
   (bif (x3 != 0) then
    some true
   else
    (Z4E x2).bind fun x4 =>
    some (!x4))).bind fun (y1:Bool) =>
  (
   (bif y1 then
    some true
   else
    (Zc x2).bind fun x5 =>
    (ZD x5 x2).bind fun x6 =>
    some (!x6))).bind fun (y2:Bool) =>
  (
   (bif (((y2 || (decide (x2.Count > f.Count))) || (decide (x2.Period > f.Period))) || (decide ((x2.Odd.length:Int) > (f.Odd.length:Int)))) then
    some true
   else
    (Zw x2).bind fun x7 =>
    (Zw f).bind fun x8 =>
    some (decide (x7 > x8)))).bind fun (y3:Bool) =>
  (bif y3 then
   some false
  else
   (loopO (Z3Z.s0 f i x2) 0).bind fun (y4:Jx (Unit) (Bool)) =>
   y4.elim (fun r' =>
     some r') fun a2 =>
   (ZAr f x2).bind fun x13 =>
   some (x13 && Z0l)))
def Z7m (l:(List Span)):Option ((List Span)) :=
 (new? 16 (l.length:Int) (Span.mk 0 0)).bind fun x1 =>
 some (cpy x1 l)
def Z1S.s0 (f:Form) (s2:Int × (List (List Span))):Option ((Int × (List (List Span))) ⊕ ((List (List Span)))) :=
 (bif (decide (s2.1 < (f.Core.length:Int))) then
  (at? f.Core s2.1).bind fun x1 =>
  (Z7m x1).bind fun x2 =>
  (app? 24 s2.2 [x2]).bind fun x3 =>
  some (.inl ((w64 (s2.1 + 1)),x3))
 else
  some (.inr s2.2))
def Z1S.s1 (f:Form) (s4:Int × (List Granule)):Option ((Int × (List Granule)) ⊕ ((List Granule))) :=
 (bif (decide (s4.1 < (f.Odd.length:Int))) then
  (at? f.Odd s4.1).bind fun x4 =>
  (Z7m x4.Ticks).bind fun x5 =>
  (app? 32 s4.2 [(Granule.mk x4.Index x5)]).bind fun x6 =>
  some (.inl ((w64 (s4.1 + 1)),x6))
 else
  some (.inr s4.2))
def Z1S (f:Form):Option (Form) :=
 (loopO (Z1S.s0 f) (0,[])).bind fun (y1:(List (List Span))) =>
 (loopO (Z1S.s1 f) (0,[])).bind fun (y2:(List Granule)) =>
 some (Form.mk f.Period f.Count y1 y2)
def Z4I.s0 (f:Form) (s1:Int):Option ((Int) ⊕ (Jx (Unit) (Bool))) :=
 (bif (decide (s1 < (f.Core.length:Int))) then
  (at? f.Core s1).bind fun x1 =>
  (bif (decide ((x1.length:Int) > 0)) then
   some (.inr (.ret false))
  else
   some (.inl (w64 (s1 + 1))))
 else
  some (.inr (.go ())))
def Z4I (f:Form):Option (Bool) :=
 (loopO (Z4I.s0 f) 0).bind fun (y1:Jx (Unit) (Bool)) =>
 y1.elim (fun r' =>
   some r') fun a2 =>
 some true
def Z4K (a:Int) (b:Int):Option (Int × Int) :=
 (nz? b).bind fun u1 =>
 (nz? b).bind fun u2 =>
 (
  (bif (decide ((a.tmod b) < 0)) then
   some ((w64 ((w64 (a.tdiv b)) - 1)),(w64 ((a.tmod b) + b)))
  else
   some ((w64 (a.tdiv b)),(a.tmod b)))).bind fun (y1:Int × Int) =>
 some (y1.1,y1.2)
def Z50 (f:Form) (i:Int):Option ((List Span) × Int) :=
 (Z4K i f.Count).bind fun x1 =>
 (at? f.Core x1.2).bind fun x2 =>
 some (x2,(w64 (x1.1 * f.Period)))
def Z30.s0 (a:(List Span)) (x':Int) (b:(List Span)) (y:Int) (s1:Int):Option ((Int) ⊕ (Jx (Unit) (Bool))) :=
 (bif (decide (s1 < (a.length:Int))) then
  (at? a s1).bind fun x1 =>
  (at? b s1).bind fun x2 =>
  (
   (bif ((w64 (x1.From + x')) != (w64 (x2.From + y))) then
    some true
   else
    (at? a s1).bind fun x3 =>
    (at? b s1).bind fun x4 =>
    some ((w64 (x3.To + x')) != (w64 (x4.To + y))))).bind fun (y2:Bool) =>
  (bif y2 then
   some (.inr (.ret false))
  else
   some (.inl (w64 (s1 + 1))))
 else
  some (.inr (.go ())))
def Z30 (a:(List Span)) (x':Int) (b:(List Span)) (y:Int):Option (Bool) :=
 (bif ((a.length:Int) != (b.length:Int)) then
  some false
 else
  (loopO (Z30.s0 a x' b y) 0).bind fun (y1:Jx (Unit) (Bool)) =>
  y1.elim (fun r' =>
    some r') fun a2 =>
  some true)
def Z3d.s0 (f:Form) (d:Int) (s1:Int):Option ((Int) ⊕ (Jx (Unit) (Bool))) :=
 (bif (decide (s1 < f.Count)) then
  (Z50 f s1).bind fun x1 =>
  (Z50 f (w64 (s1 + d))).bind fun x2 =>
  (nz? f.Count).bind fun u3 =>
  (Z30 x1.1 (w64 (x1.2 + (w64 ((w64 (f.Period * d)).tdiv f.Count)))) x2.1 x2.2).bind fun x3 =>
  (bif (!x3) then
   some (.inr (.ret false))
  else
   some (.inl (w64 (s1 + 1))))
 else
  some (.inr (.go ())))
def Z3d (f:Form) (d:Int):Option (Bool) :=
 (nz? d).bind fun u1 =>
 (
  (bif ((f.Count.tmod d) != 0) then
   some true
  else
   (nz? f.Count).bind fun u2 =>
   some (((w64 (f.Period * d)).tmod f.Count) != 0))).bind fun (y1:Bool) =>
 (bif y1 then
  some false
 else
  (loopO (Z3d.s0 f d) 0).bind fun (y2:Jx (Unit) (Bool)) =>
  y2.elim (fun r' =>
    some r') fun a2 =>
  some true)
def Z0d.s0 (f:Form) (s1:Int):Option ((Int) ⊕ (Int)) :=
 (Z3d f s1).bind fun x2 =>
 (bif (!x2) then
  some (.inl (w64 (s1 + 1)))
 else
  some (.inr s1))
def Z0d.s1 (f:Form) (y2:Int) (s2:Int × (List (List Span))):Option ((Int × (List (List Span))) ⊕ ((List (List Span)) × Int)) :=
 (bif (decide (s2.1 < y2)) then
  (at? f.Core s2.1).bind fun x3 =>
  (app? 16 [] x3).bind fun x4 =>
  (app? 24 s2.2 [x4]).bind fun x5 =>
  some (.inl ((w64 (s2.1 + 1)),x5))
 else
  some (.inr (s2.2,(w64 ((w64 (f.Period * y2)).tdiv f.Count)))))
def Z0d.s2 (f:Form) (y1:(List (List Span)) × Int × Int) (s3:Int × (List Granule)):Option ((Int × (List Granule)) ⊕ ((List Granule))) :=
 (bif (decide (s3.1 < (f.Odd.length:Int))) then
  (
   (
    (
     (bif (decide (y1.2.2 > 0)) then
      (at? f.Odd s3.1).bind fun x6 =>
      (Z50 (Form.mk y1.2.1 y1.2.2 y1.1 []) x6.Index).bind fun x7 =>
      some (x7.1,x7.2)
     else
      some ([],0))).bind fun (y7:(List Span) × Int) =>
    (at? f.Odd s3.1).bind fun x8 =>
    (Z30 y7.1 y7.2 x8.Ticks 0).bind fun x9 =>
    (bif (!x9) then
     (at? f.Odd s3.1).bind fun x10 =>
     (at? f.Odd s3.1).bind fun x11 =>
     (app? 16 [] x11.Ticks).bind fun x12 =>
     (app? 32 s3.2 [(Granule.mk x10.Index x12)]).bind fun x13 =>
     some x13
    else
     some s3.2)).bind fun (y6:(List Granule)) =>
   some y6).bind fun (y5:(List Granule)) =>
  some (.inl ((w64 (s3.1 + 1)),y5))
 else
  some (.inr s3.2))
def Z0d (f:Form):Option (Form) :=
 (
  (Z4I f).bind fun x1 =>
  (bif (!x1) then
   (loopO (Z0d.s0 f) 1).bind fun (y2:Int) =>
   (nz? f.Count).bind fun u1 =>
   (loopO (Z0d.s1 f y2) (0,[])).bind fun (y3:(List (List Span)) × Int) =>
   some (y3.1,y3.2,y2)
  else
   some ([],0,0))).bind fun (y1:(List (List Span)) × Int × Int) =>
 (loopO (Z0d.s2 f y1) (0,[])).bind fun (y4:(List Granule)) =>
 some (Form.mk y1.2.1 y1.2.2 y1.1 y4)
def epactlaw06_CanonTells (f:Form):Option (Bool) :=
 (Z2j f).bind fun x1 =>
 (bif (!x1) then
  some Z0l
 else
  (Z1S f).bind fun x2 =>
  (Zc x2).bind fun x3 =>
  (Z0d f).bind fun x4 =>
  (ZD x3 x4).bind fun x5 =>
  (
   (bif x5 then
    (Z4E x2).bind fun x6 =>
    (ZD f x4).bind fun x7 =>
    some (x6 == x7)
   else
    some false)).bind fun (y1:Bool) =>
  (
   (bif y1 then
    (ZD x2 f).bind fun x8 =>
    some x8
   else
    some false)).bind fun (y2:Bool) =>
  some (y2 && Z0l))
def Z3m (a:Bound):Bool :=
 ((a.Inf == 0) || (((a.Inf == 1) || (a.Inf == (-1))) && (a.N == 0)))
def Z7C (a:Int) (b:Int):Int × Int :=
 (bif (((decide ((w64 (a - b)) < a)) != (decide (b > 0))) && (b != 0)) then
  (0,10)
 else
  ((w64 (a - b)),0))
def Z8Y (a:Bound):Bound × Int :=
 (bif (!(Z3m a)) then
  ((Bound.mk 0 0),2)
 else
  (bif (((Z7C 0 a.N).2) != 0) then
   ((Bound.mk 0 0),(Z7C 0 a.N).2)
  else
   ((Bound.mk (IntKind.i8.wrap (0 - a.Inf)) ((Z7C 0 a.N).1)),0)))
def safe_Less (a:Bound) (b:Bound):Bool :=
 (bif ((!(Z3m a)) || (!(Z3m b))) then
  false
 else
  (bif (a.Inf != b.Inf) then
   (decide (a.Inf < b.Inf))
  else
   (decide (a.N < b.N))))
def Z3L.s0 (f:Form) (i:Int) (s1:Int):Option ((Int) ⊕ (Jx (Unit) ((List Span) × Int))) :=
 (bif (decide (s1 < (f.Odd.length:Int))) then
  (at? f.Odd s1).bind fun x1 =>
  (bif (x1.Index == i) then
   (at? f.Odd s1).bind fun x2 =>
   some (.inr (.ret (x2.Ticks,0)))
  else
   some (.inl (w64 (s1 + 1))))
 else
  some (.inr (.go ())))
def Z3L (f:Form) (i:Int):Option ((List Span) × Int) :=
 (loopO (Z3L.s0 f i) 0).bind fun (y1:Jx (Unit) ((List Span) × Int)) =>
 y1.elim (fun r' =>
   some r') fun a2 =>
 (bif (f.Count == 0) then
  some ([],0)
 else
  (Z4K i f.Count).bind fun x3 =>
  (at? f.Core x3.2).bind fun x4 =>
  some (x4,x3.1))
def Z2z.s0 (l:(List Span)) (by':Int) (s2:Int × (List Span)):Option ((Int × (List Span)) ⊕ (Jx ((List Span)) ((List Span) × Int))) :=
 (bif (decide (s2.1 < (l.length:Int))) then
  (at? l s2.1).bind fun x1 =>
  (
   (bif (decide (by' > (w64 (1099511627776 - x1.To)))) then
    some true
   else
    (at? l s2.1).bind fun x2 =>
    some (decide (by' < (w64 ((-1099511627776) - x2.From)))))).bind fun (y2:Bool) =>
  (bif y2 then
   some (.inr (.ret ([],20)))
  else
   (at? l s2.1).bind fun x3 =>
   (at? l s2.1).bind fun x4 =>
   (app? 16 s2.2 [(Span.mk (w64 (x3.From + by')) (w64 (x4.To + by')))]).bind fun x5 =>
   some (.inl ((w64 (s2.1 + 1)),x5)))
 else
  some (.inr (.go s2.2)))
def Z2z (l:(List Span)) (by':Int):Option ((List Span) × Int) :=
 (loopO (Z2z.s0 l by') (0,[])).bind fun (y1:Jx ((List Span)) ((List Span) × Int)) =>
 y1.elim (fun r' =>
   some r') fun a2 =>
 some (a2,0)
def Z4i (f:Form) (i:Int):Option ((List Span) × Int) :=
 (bif ((decide (i < (-1099511627776))) || (decide (i > 1099511627776))) then
  some ([],20)
 else
  (Z3L f i).bind fun x1 =>
  (bif (((x1.1.length:Int) == 0) || (x1.2 == 0)) then
   (app? 16 [] x1.1).bind fun x2 =>
   some (x2,0)
  else
   (nz? f.Period).bind fun u1 =>
   (
    (bif (decide (x1.2 > (w64 ((w64 ((2199023255552:Int).tdiv f.Period)) + 1)))) then
     some true
    else
     (nz? f.Period).bind fun u2 =>
     some (decide (x1.2 < (w64 ((w64 ((-2199023255552).tdiv f.Period)) - 1)))))).bind fun (y1:Bool) =>
   (bif y1 then
    some ([],20)
   else
    (Z2z x1.1 (w64 (x1.2 * f.Period))).bind fun x3 =>
    some (x3.1,x3.2))))
def Z1G (f:Form):Option (Bool) :=
 (Z0h f).bind fun x1 =>
 (
  (bif x1 then
   (Zn f).bind fun x2 =>
   some (x2 == 0)
  else
   some false)).bind fun (y1:Bool) =>
 some y1
def Zq (a:Int):Option (epactref01_long) :=
 (
  (
   (
    (bif (decide ((a.tmod 65536) < 0)) then
     (some (w64 (0 - (a.tmod 65536)))).bind fun x1 =>
     some x1
    else
     some (a.tmod 65536))).bind fun (y3:Int) =>
   some ((w64 (a.tdiv 65536)),(IntKind.u32.wrap y3))).bind fun (y2:Int × Int) =>
  some (y2.1,y2.2)).bind fun (y1:Int × Int) =>
 (
  (
   (
    (bif (decide ((y1.1.tmod 65536) < 0)) then
     (some (w64 (0 - (y1.1.tmod 65536)))).bind fun x2 =>
     some x2
    else
     some (y1.1.tmod 65536))).bind fun (y6:Int) =>
   (some (w64 (y1.1.tdiv 65536))).bind fun x3 =>
   some (x3,(IntKind.u32.wrap y6))).bind fun (y5:Int × Int) =>
  some (y5.1,y5.2)).bind fun (y4:Int × Int) =>
 (
  (
   (
    (bif (decide ((y4.1.tmod 65536) < 0)) then
     (some (w64 (0 - (y4.1.tmod 65536)))).bind fun x4 =>
     some x4
    else
     some (y4.1.tmod 65536))).bind fun (y9:Int) =>
   (some (w64 (y4.1.tdiv 65536))).bind fun x5 =>
   some (x5,(IntKind.u32.wrap y9))).bind fun (y8:Int × Int) =>
  some (y8.1,y8.2)).bind fun (y7:Int × Int) =>
 (
  (
   (
    (bif (decide ((y7.1.tmod 65536) < 0)) then
     (some (w64 (0 - (y7.1.tmod 65536)))).bind fun x6 =>
     some x6
    else
     some (y7.1.tmod 65536))).bind fun (y12:Int) =>
   (some (w64 (y7.1.tdiv 65536))).bind fun x7 =>
   some (x7,(IntKind.u32.wrap y12))).bind fun (y11:Int × Int) =>
  some (y11.1,y11.2)).bind fun (y10:Int × Int) =>
 some (epactref01_long.mk (decide (a < 0)) (Arr9_u32.mk y1.2 y4.2 y7.2 y10.2 0 0 0 0 0))
def Z2B (a:Arr9_u32) (b:Arr9_u32):Option (Arr9_u32) :=
 (some (IntKind.u32.wrap ((IntKind.u32.wrap (a.d0 + b.d0)) + 0))).bind fun x1 =>
 (some (IntKind.u32.wrap (x1.tdiv 65536))).bind fun x2 =>
 (some (IntKind.u32.wrap ((IntKind.u32.wrap (a.d1 + b.d1)) + x2))).bind fun x3 =>
 (some (IntKind.u32.wrap (x3.tdiv 65536))).bind fun x4 =>
 (some (IntKind.u32.wrap ((IntKind.u32.wrap (a.d2 + b.d2)) + x4))).bind fun x5 =>
 (some (IntKind.u32.wrap (x5.tdiv 65536))).bind fun x6 =>
 (some (IntKind.u32.wrap ((IntKind.u32.wrap (a.d3 + b.d3)) + x6))).bind fun x7 =>
 (some (IntKind.u32.wrap (x7.tdiv 65536))).bind fun x8 =>
 (some (IntKind.u32.wrap ((IntKind.u32.wrap (a.d4 + b.d4)) + x8))).bind fun x9 =>
 (some (IntKind.u32.wrap (x9.tdiv 65536))).bind fun x10 =>
 (some (IntKind.u32.wrap ((IntKind.u32.wrap (a.d5 + b.d5)) + x10))).bind fun x11 =>
 (some (IntKind.u32.wrap (x11.tdiv 65536))).bind fun x12 =>
 (some (IntKind.u32.wrap ((IntKind.u32.wrap (a.d6 + b.d6)) + x12))).bind fun x13 =>
 (some (IntKind.u32.wrap (x13.tdiv 65536))).bind fun x14 =>
 (some (IntKind.u32.wrap ((IntKind.u32.wrap (a.d7 + b.d7)) + x14))).bind fun x15 =>
 (some (IntKind.u32.wrap (x15.tdiv 65536))).bind fun x16 =>
 (some (IntKind.u32.wrap ((IntKind.u32.wrap (a.d8 + b.d8)) + x16))).bind fun x17 =>
 (some (IntKind.u32.wrap (x17.tdiv 65536))).bind fun x18 =>
 some (Arr9_u32.mk (x1.tmod 65536) (x3.tmod 65536) (x5.tmod 65536) (x7.tmod 65536) (x9.tmod 65536) (x11.tmod 65536) (x13.tmod 65536) (x15.tmod 65536) (x17.tmod 65536))
def Z1o (a:Arr9_u32) (b:Arr9_u32):Bool :=
 (bif (a.d8 != b.d8) then
  (decide (a.d8 < b.d8))
 else
  (bif (a.d7 != b.d7) then
   (decide (a.d7 < b.d7))
  else
   (bif (a.d6 != b.d6) then
    (decide (a.d6 < b.d6))
   else
    (bif (a.d5 != b.d5) then
     (decide (a.d5 < b.d5))
    else
     (bif (a.d4 != b.d4) then
      (decide (a.d4 < b.d4))
     else
      (bif (a.d3 != b.d3) then
       (decide (a.d3 < b.d3))
      else
       (bif (a.d2 != b.d2) then
        (decide (a.d2 < b.d2))
       else
        (bif (a.d1 != b.d1) then
         (decide (a.d1 < b.d1))
        else
         (bif (a.d0 != b.d0) then
          (decide (a.d0 < b.d0))
         else
          false)))))))))
def Z6S (a:Arr9_u32) (b:Arr9_u32):Option (Arr9_u32) :=
 (some (IntKind.u32.wrap ((IntKind.u32.wrap ((IntKind.u32.wrap (a.d0 + 65536)) - b.d0)) - 0))).bind fun x1 =>
 (some (IntKind.u32.wrap (1 - (IntKind.u32.wrap (x1.tdiv 65536))))).bind fun x2 =>
 (some (IntKind.u32.wrap ((IntKind.u32.wrap ((IntKind.u32.wrap (a.d1 + 65536)) - b.d1)) - x2))).bind fun x3 =>
 (some (IntKind.u32.wrap (1 - (IntKind.u32.wrap (x3.tdiv 65536))))).bind fun x4 =>
 (some (IntKind.u32.wrap ((IntKind.u32.wrap ((IntKind.u32.wrap (a.d2 + 65536)) - b.d2)) - x4))).bind fun x5 =>
 (some (IntKind.u32.wrap (1 - (IntKind.u32.wrap (x5.tdiv 65536))))).bind fun x6 =>
 (some (IntKind.u32.wrap ((IntKind.u32.wrap ((IntKind.u32.wrap (a.d3 + 65536)) - b.d3)) - x6))).bind fun x7 =>
 (some (IntKind.u32.wrap (1 - (IntKind.u32.wrap (x7.tdiv 65536))))).bind fun x8 =>
 (some (IntKind.u32.wrap ((IntKind.u32.wrap ((IntKind.u32.wrap (a.d4 + 65536)) - b.d4)) - x8))).bind fun x9 =>
 (some (IntKind.u32.wrap (1 - (IntKind.u32.wrap (x9.tdiv 65536))))).bind fun x10 =>
 (some (IntKind.u32.wrap ((IntKind.u32.wrap ((IntKind.u32.wrap (a.d5 + 65536)) - b.d5)) - x10))).bind fun x11 =>
 (some (IntKind.u32.wrap (1 - (IntKind.u32.wrap (x11.tdiv 65536))))).bind fun x12 =>
 (some (IntKind.u32.wrap ((IntKind.u32.wrap ((IntKind.u32.wrap (a.d6 + 65536)) - b.d6)) - x12))).bind fun x13 =>
 (some (IntKind.u32.wrap (1 - (IntKind.u32.wrap (x13.tdiv 65536))))).bind fun x14 =>
 (some (IntKind.u32.wrap ((IntKind.u32.wrap ((IntKind.u32.wrap (a.d7 + 65536)) - b.d7)) - x14))).bind fun x15 =>
 (some (IntKind.u32.wrap (1 - (IntKind.u32.wrap (x15.tdiv 65536))))).bind fun x16 =>
 (some (IntKind.u32.wrap ((IntKind.u32.wrap ((IntKind.u32.wrap (a.d8 + 65536)) - b.d8)) - x16))).bind fun x17 =>
 (some (IntKind.u32.wrap (1 - (IntKind.u32.wrap (x17.tdiv 65536))))).bind fun x18 =>
 some (Arr9_u32.mk (x1.tmod 65536) (x3.tmod 65536) (x5.tmod 65536) (x7.tmod 65536) (x9.tmod 65536) (x11.tmod 65536) (x13.tmod 65536) (x15.tmod 65536) (x17.tmod 65536))
def Z3G (a:epactref01_long) (b:epactref01_long):Option (epactref01_long) :=
 (bif (a.minus == b.minus) then
  (Z2B a.digits b.digits).bind fun x1 =>
  some (epactref01_long.mk a.minus x1)
 else
  (bif (Z1o a.digits b.digits) then
   (Z6S b.digits a.digits).bind fun x2 =>
   some (epactref01_long.mk b.minus x2)
  else
   (Z6S a.digits b.digits).bind fun x3 =>
   some (epactref01_long.mk a.minus x3)))
def Z2N (a:epactref01_long):Option (Int × Int) :=
 (some (-9223372036854775808)).bind fun x1 =>
 (
  (bif (decide ((w64 a.digits.d8) > 0)) then
   some (.ret (0,10))
  else
   some (.go ()))).bind fun (y1:Jx (Unit) (Int × Int)) =>
 y1.elim (fun r' =>
   some r') fun a2 =>
 (
  (bif (decide ((w64 a.digits.d7) > 0)) then
   some (.ret (0,10))
  else
   some (.go ()))).bind fun (y2:Jx (Unit) (Int × Int)) =>
 y2.elim (fun r' =>
   some r') fun a4 =>
 (
  (bif (decide ((w64 a.digits.d6) > 0)) then
   some (.ret (0,10))
  else
   some (.go ()))).bind fun (y3:Jx (Unit) (Int × Int)) =>
 y3.elim (fun r' =>
   some r') fun a6 =>
 (
  (bif (decide ((w64 a.digits.d5) > 0)) then
   some (.ret (0,10))
  else
   some (.go ()))).bind fun (y4:Jx (Unit) (Int × Int)) =>
 y4.elim (fun r' =>
   some r') fun a8 =>
 (
  (bif (decide ((w64 a.digits.d4) > 0)) then
   some (.ret (0,10))
  else
   some (.go ()))).bind fun (y5:Jx (Unit) (Int × Int)) =>
 y5.elim (fun r' =>
   some r') fun a10 =>
 (
  (bif (decide (0 < (w64 ((w64 (x1 + (w64 a.digits.d3))).tdiv 65536)))) then
   some (.ret (0,10))
  else
   (some (w64 (0 - (w64 a.digits.d3)))).bind fun x2 =>
   some (.go x2))).bind fun (y6:Jx (Int) (Int × Int)) =>
 y6.elim (fun r' =>
   some r') fun a12 =>
 (
  (bif (decide (a12 < (w64 ((w64 (x1 + (w64 a.digits.d2))).tdiv 65536)))) then
   some (.ret (0,10))
  else
   (some (w64 ((w64 (a12 * 65536)) - (w64 a.digits.d2)))).bind fun x3 =>
   some (.go x3))).bind fun (y7:Jx (Int) (Int × Int)) =>
 y7.elim (fun r' =>
   some r') fun a14 =>
 (
  (bif (decide (a14 < (w64 ((w64 (x1 + (w64 a.digits.d1))).tdiv 65536)))) then
   some (.ret (0,10))
  else
   (some (w64 ((w64 (a14 * 65536)) - (w64 a.digits.d1)))).bind fun x4 =>
   some (.go x4))).bind fun (y8:Jx (Int) (Int × Int)) =>
 y8.elim (fun r' =>
   some r') fun a16 =>
 (
  (bif (decide (a16 < (w64 ((w64 (x1 + (w64 a.digits.d0))).tdiv 65536)))) then
   some (.ret (0,10))
  else
   (some (w64 ((w64 (a16 * 65536)) - (w64 a.digits.d0)))).bind fun x5 =>
   some (.go x5))).bind fun (y9:Jx (Int) (Int × Int)) =>
 y9.elim (fun r' =>
   some r') fun a18 =>
 (bif a.minus then
  some (a18,0)
 else
  (bif (a18 == x1) then
   some (0,10)
  else
   some ((w64 (0 - a18)),0)))
def Z6k (a:Int) (b:Int):Option (Int × Int) :=
 (Zq a).bind fun x1 =>
 (Zq b).bind fun x2 =>
 (Z3G x1 x2).bind fun x3 =>
 (Z2N x3).bind fun x4 =>
 some (x4.1,x4.2)
def Z51 (a:Int) (b:Int):Option (Int × Int) :=
 (Zq b).bind fun x1 =>
 (Zq a).bind fun x2 =>
 (Z3G x2 (epactref01_long.mk (!x1.minus) x1.digits)).bind fun x3 =>
 (Z2N x3).bind fun x4 =>
 some (x4.1,x4.2)
def Z20 (a:epactref01_long) (b:epactref01_long):Option (epactref01_long) :=
 (some (IntKind.u32.wrap ((IntKind.u32.wrap (a.digits.d0 * b.digits.d0)) + 0))).bind fun x1 =>
 (some (IntKind.u32.wrap (x1.tdiv 65536))).bind fun x2 =>
 (some (IntKind.u32.wrap ((IntKind.u32.wrap (a.digits.d0 * b.digits.d1)) + x2))).bind fun x3 =>
 (some (IntKind.u32.wrap (x3.tdiv 65536))).bind fun x4 =>
 (some (IntKind.u32.wrap ((IntKind.u32.wrap (a.digits.d0 * b.digits.d2)) + x4))).bind fun x5 =>
 (some (IntKind.u32.wrap (x5.tdiv 65536))).bind fun x6 =>
 (some (IntKind.u32.wrap ((IntKind.u32.wrap (a.digits.d0 * b.digits.d3)) + x6))).bind fun x7 =>
 (some (IntKind.u32.wrap (x7.tdiv 65536))).bind fun x8 =>
 (some (IntKind.u32.wrap ((IntKind.u32.wrap (a.digits.d0 * b.digits.d4)) + x8))).bind fun x9 =>
 (some (IntKind.u32.wrap (x9.tdiv 65536))).bind fun x10 =>
 (Z2B (Arr9_u32.mk 0 0 0 0 0 0 0 0 0) (Arr9_u32.mk (x1.tmod 65536) (x3.tmod 65536) (x5.tmod 65536) (x7.tmod 65536) (x9.tmod 65536) 0 0 0 0)).bind fun x11 =>
 (some (IntKind.u32.wrap ((IntKind.u32.wrap (a.digits.d1 * b.digits.d0)) + 0))).bind fun x12 =>
 (some (IntKind.u32.wrap (x12.tdiv 65536))).bind fun x13 =>
 (some (IntKind.u32.wrap ((IntKind.u32.wrap (a.digits.d1 * b.digits.d1)) + x13))).bind fun x14 =>
 (some (IntKind.u32.wrap (x14.tdiv 65536))).bind fun x15 =>
 (some (IntKind.u32.wrap ((IntKind.u32.wrap (a.digits.d1 * b.digits.d2)) + x15))).bind fun x16 =>
 (some (IntKind.u32.wrap (x16.tdiv 65536))).bind fun x17 =>
 (some (IntKind.u32.wrap ((IntKind.u32.wrap (a.digits.d1 * b.digits.d3)) + x17))).bind fun x18 =>
 (some (IntKind.u32.wrap (x18.tdiv 65536))).bind fun x19 =>
 (some (IntKind.u32.wrap ((IntKind.u32.wrap (a.digits.d1 * b.digits.d4)) + x19))).bind fun x20 =>
 (some (IntKind.u32.wrap (x20.tdiv 65536))).bind fun x21 =>
 (Z2B x11 (Arr9_u32.mk 0 (x12.tmod 65536) (x14.tmod 65536) (x16.tmod 65536) (x18.tmod 65536) (x20.tmod 65536) 0 0 0)).bind fun x22 =>
 (some (IntKind.u32.wrap ((IntKind.u32.wrap (a.digits.d2 * b.digits.d0)) + 0))).bind fun x23 =>
 (some (IntKind.u32.wrap (x23.tdiv 65536))).bind fun x24 =>
 (some (IntKind.u32.wrap ((IntKind.u32.wrap (a.digits.d2 * b.digits.d1)) + x24))).bind fun x25 =>
 (some (IntKind.u32.wrap (x25.tdiv 65536))).bind fun x26 =>
 (some (IntKind.u32.wrap ((IntKind.u32.wrap (a.digits.d2 * b.digits.d2)) + x26))).bind fun x27 =>
 (some (IntKind.u32.wrap (x27.tdiv 65536))).bind fun x28 =>
 (some (IntKind.u32.wrap ((IntKind.u32.wrap (a.digits.d2 * b.digits.d3)) + x28))).bind fun x29 =>
 (some (IntKind.u32.wrap (x29.tdiv 65536))).bind fun x30 =>
 (some (IntKind.u32.wrap ((IntKind.u32.wrap (a.digits.d2 * b.digits.d4)) + x30))).bind fun x31 =>
 (some (IntKind.u32.wrap (x31.tdiv 65536))).bind fun x32 =>
 (Z2B x22 (Arr9_u32.mk 0 0 (x23.tmod 65536) (x25.tmod 65536) (x27.tmod 65536) (x29.tmod 65536) (x31.tmod 65536) 0 0)).bind fun x33 =>
 (some (IntKind.u32.wrap ((IntKind.u32.wrap (a.digits.d3 * b.digits.d0)) + 0))).bind fun x34 =>
 (some (IntKind.u32.wrap (x34.tdiv 65536))).bind fun x35 =>
 (some (IntKind.u32.wrap ((IntKind.u32.wrap (a.digits.d3 * b.digits.d1)) + x35))).bind fun x36 =>
 (some (IntKind.u32.wrap (x36.tdiv 65536))).bind fun x37 =>
 (some (IntKind.u32.wrap ((IntKind.u32.wrap (a.digits.d3 * b.digits.d2)) + x37))).bind fun x38 =>
 (some (IntKind.u32.wrap (x38.tdiv 65536))).bind fun x39 =>
 (some (IntKind.u32.wrap ((IntKind.u32.wrap (a.digits.d3 * b.digits.d3)) + x39))).bind fun x40 =>
 (some (IntKind.u32.wrap (x40.tdiv 65536))).bind fun x41 =>
 (some (IntKind.u32.wrap ((IntKind.u32.wrap (a.digits.d3 * b.digits.d4)) + x41))).bind fun x42 =>
 (some (IntKind.u32.wrap (x42.tdiv 65536))).bind fun x43 =>
 (Z2B x33 (Arr9_u32.mk 0 0 0 (x34.tmod 65536) (x36.tmod 65536) (x38.tmod 65536) (x40.tmod 65536) (x42.tmod 65536) 0)).bind fun x44 =>
 some (epactref01_long.mk (a.minus != b.minus) x44)
def ZBM (a:Int) (b:Int):Option (Int × Int) :=
 (Zq a).bind fun x1 =>
 (Zq b).bind fun x2 =>
 (Z20 x1 x2).bind fun x3 =>
 (Z2N x3).bind fun x4 =>
 some (x4.1,x4.2)
def Z9o (a:Int) (b:Int):Option (Int × Int × Int) :=
 (bif (b == 0) then
  some (0,0,11)
 else
  (bif (b == (-1)) then
   (Z51 0 a).bind fun x1 =>
   some (x1.1,0,x1.2)
  else
   (nz? b).bind fun u1 =>
   (some (w64 (a - (w64 ((w64 (a.tdiv b)) * b))))).bind fun x2 =>
   (Zq (w64 (a.tdiv b))).bind fun x3 =>
   (Zq b).bind fun x4 =>
   (Z20 x3 x4).bind fun x5 =>
   (Zq x2).bind fun x6 =>
   (Z3G x5 x6).bind fun x7 =>
   (Zq a).bind fun x8 =>
   (bif ((((!(Z1o x7.digits x8.digits)) && (!(Z1o x8.digits x7.digits))) && ((x7.minus == x8.minus) || (a == 0))) && (((x2 == 0) || (((decide (b > 0)) && (decide (x2 > 0))) && (decide (x2 < b)))) || (((decide (b < 0)) && (decide (x2 < 0))) && (decide (x2 > b))))) then
    some ((w64 (a.tdiv b)),x2,0)
   else
    (some (w64 ((w64 (a.tdiv b)) - 1))).bind fun x9 =>
    (Zq x9).bind fun x10 =>
    (Zq b).bind fun x11 =>
    (Z20 x10 x11).bind fun x12 =>
    (Zq (w64 (x2 + b))).bind fun x13 =>
    (Z3G x12 x13).bind fun x14 =>
    (Zq a).bind fun x15 =>
    (bif ((((!(Z1o x14.digits x15.digits)) && (!(Z1o x15.digits x14.digits))) && ((x14.minus == x15.minus) || (a == 0))) && ((((w64 (x2 + b)) == 0) || (((decide (b > 0)) && (decide ((w64 (x2 + b)) > 0))) && (decide ((w64 (x2 + b)) < b)))) || (((decide (b < 0)) && (decide ((w64 (x2 + b)) < 0))) && (decide ((w64 (x2 + b)) > b))))) then
     some (x9,(w64 (x2 + b)),0)
    else
     (some (w64 ((w64 (x2 + b)) + b))).bind fun x16 =>
     some ((w64 (x9 - 1)),x16,0)))))
def safe_Gcd (a:Int) (b:Int):Option (Int × Int) :=
 (gcd? (ZN a) (ZN b)).bind fun x1 =>
 some ((Z1A x1 false).1,(Z1A x1 false).2)
def Z2A (a:Int):Int :=
 (bif (decide (a < 0)) then
  (IntKind.u64.wrap ((IntKind.u64.wrap (w64 (0 - (w64 (a + 1))))) + 1))
 else
  (IntKind.u64.wrap a))
def Z2M.s0 (s1:Int × Int × Int):Option ((Int × Int × Int) ⊕ (Int × Int × Int)) :=
 (bif ((decide (s1.1 > 0)) && (decide (s1.2.1 > 0))) then
  (
   (bif (((s1.1.tmod 2) == 0) && ((s1.2.1.tmod 2) == 0)) then
    some ((IntKind.u64.wrap (s1.1.tdiv 2)),(IntKind.u64.wrap (s1.2.1.tdiv 2)),(IntKind.u64.wrap (s1.2.2 * 2)))
   else
    (bif ((s1.1.tmod 2) == 0) then
     some ((IntKind.u64.wrap (s1.1.tdiv 2)),s1.2.1,s1.2.2)
    else
     (bif ((s1.2.1.tmod 2) == 0) then
      some (s1.1,(IntKind.u64.wrap (s1.2.1.tdiv 2)),s1.2.2)
     else
      (bif (decide (s1.1 ≥ s1.2.1)) then
       some ((IntKind.u64.wrap (s1.1 - s1.2.1)),s1.2.1,s1.2.2)
      else
       some (s1.1,(IntKind.u64.wrap (s1.2.1 - s1.1)),s1.2.2)))))).bind fun (y2:Int × Int × Int) =>
  some (.inl (y2.1,y2.2.1,y2.2.2))
 else
  some (.inr (s1.1,s1.2.1,s1.2.2)))
def Z2M (a:Int) (b:Int):Option (Int) :=
 (loopO (Z2M.s0) (a,b,1)).bind fun (y1:Int × Int × Int) =>
 some (IntKind.u64.wrap ((IntKind.u64.wrap (y1.1 + y1.2.1)) * y1.2.2))
def ZBV (a:Int) (b:Int):Option (Int × Int) :=
 (Z2M (Z2A a) (Z2A b)).bind fun x1 =>
 (bif (decide (x1 > 9223372036854775807)) then
  some (0,10)
 else
  some ((w64 x1),0))
def Z5j (a:Int) (b:Int):Option (Int × Int) :=
 (bif (((ZN a) == 0) || ((ZN b) == 0)) then
  some (0,0)
 else
  (gcd? (ZN a) (ZN b)).bind fun x1 =>
  (nz? x1).bind fun u1 =>
  (bif (((Zl (IntKind.u64.wrap ((ZN a).tdiv x1)) (ZN b)).1) != 0) then
   some (0,10)
  else
   some ((Z1A ((Zl (IntKind.u64.wrap ((ZN a).tdiv x1)) (ZN b)).2) false).1,(Z1A ((Zl (IntKind.u64.wrap ((ZN a).tdiv x1)) (ZN b)).2) false).2)))
def ZAu (a:Int) (b:Int):Option (Int × Int) :=
 (bif ((a == 0) || (b == 0)) then
  some (0,0)
 else
  (Z2M (Z2A a) (Z2A b)).bind fun x1 =>
  (nz? x1).bind fun u1 =>
  (some (IntKind.u64.wrap ((Z2A a).tdiv x1))).bind fun x2 =>
  (Zq 0).bind fun x3 =>
  (Zq b).bind fun x4 =>
  (some (IntKind.u64.wrap (x2.tdiv 65536))).bind fun x5 =>
  (some (IntKind.u64.wrap (x5.tdiv 65536))).bind fun x6 =>
  (some (IntKind.u64.wrap (x6.tdiv 65536))).bind fun x7 =>
  (some (IntKind.u64.wrap (x7.tdiv 65536))).bind fun x8 =>
  (Z20 (epactref01_long.mk x3.minus (Arr9_u32.mk (IntKind.u32.wrap (x2.tmod 65536)) (IntKind.u32.wrap (x5.tmod 65536)) (IntKind.u32.wrap (x6.tmod 65536)) (IntKind.u32.wrap (x7.tmod 65536)) x3.digits.d4 x3.digits.d5 x3.digits.d6 x3.digits.d7 x3.digits.d8)) (epactref01_long.mk false x4.digits)).bind fun x9 =>
  (Z2N x9).bind fun x10 =>
  some (x10.1,x10.2))
def Z5e:Bool:=true
def epactlaw01_SafeTells (a:Int) (b:Int):Option (Bool) :=
 (Z6k a b).bind fun x1 =>
 (bif ((((ZP a b).1) != x1.1) || (((ZP a b).2) != x1.2)) then
  some false
 else
  (Z51 a b).bind fun x2 =>
  (bif ((((Z7C a b).1) != x2.1) || (((Z7C a b).2) != x2.2)) then
   some false
  else
   (ZBM a b).bind fun x3 =>
   (bif ((((Za a b).1) != x3.1) || (((Za a b).2) != x3.2)) then
    some false
   else
    (Z0X a b).bind fun x4 =>
    (Z9o a b).bind fun x5 =>
    (bif (((x4.1 != x5.1) || (x4.2.1 != x5.2.1)) || (x4.2.2 != x5.2.2)) then
     some false
    else
     (safe_Gcd a b).bind fun x6 =>
     (ZBV a b).bind fun x7 =>
     (bif ((x6.1 != x7.1) || (x6.2 != x7.2)) then
      some false
     else
      (Z5j a b).bind fun x8 =>
      (ZAu a b).bind fun x9 =>
      some (((x8.1 == x9.1) && (x8.2 == x9.2)) && Z5e))))))
def safe_Sum (a:Bound) (b:Bound):Bound × Int :=
 (bif ((!(Z3m a)) || (!(Z3m b))) then
  ((Bound.mk 0 0),2)
 else
  (bif (((a.Inf != 0) && (b.Inf != 0)) && (a.Inf != b.Inf)) then
   ((Bound.mk 0 0),10)
  else
   (bif (a.Inf != 0) then
    (a,0)
   else
    (bif (b.Inf != 0) then
     (b,0)
    else
     ((Bound.mk 0 ((ZP a.N b.N).1)),(ZP a.N b.N).2)))))
def Z1H (a:Bound):Bool :=
 (bif (a.Inf == 0) then
  true
 else
  ((a.N == 0) && ((a.Inf == (-1)) || (a.Inf == 1))))
def ZB9 (a:Bound) (b:Bound):Option (Bound × Int) :=
 (bif ((!(Z1H a)) || (!(Z1H b))) then
  some ((Bound.mk 0 0),2)
 else
  (bif ((a.Inf == 0) && (b.Inf == 0)) then
   (Z6k a.N b.N).bind fun x1 =>
   some ((Bound.mk 0 x1.1),x1.2)
  else
   (bif ((IntKind.i8.wrap (a.Inf * b.Inf)) == (-1)) then
    some ((Bound.mk 0 0),10)
   else
    (bif (a.Inf == 0) then
     some (b,0)
    else
     some (a,0)))))
def Z9V (a:Bound):Option (Bound × Int) :=
 (bif (!(Z1H a)) then
  some ((Bound.mk 0 0),2)
 else
  (bif (a.Inf != 0) then
   some ((Bound.mk (IntKind.i8.wrap (0 - a.Inf)) 0),0)
  else
   (Z51 0 a.N).bind fun x1 =>
   some ((Bound.mk 0 x1.1),x1.2)))
def Z9g (a:Bound):Bool :=
 (Z1H a)
def ZAc (a:Bound) (b:Bound):Bool :=
 (bif ((!(Z1H a)) || (!(Z1H b))) then
  false
 else
  (bif ((a.Inf == 0) && (b.Inf == 0)) then
   (decide (a.N < b.N))
  else
   (decide (a.Inf < b.Inf))))
def epactlaw01_SafeBounds (a:Bound) (b:Bound):Option (Bool) :=
 (ZB9 a b).bind fun x1 =>
 (Z9V a).bind fun x2 =>
 some ((((((((((safe_Sum a b).1.Inf) == x1.1.Inf) && ((((safe_Sum a b).1.N) == x1.1.N) && true)) && (((safe_Sum a b).2) == x1.2)) && ((((Z8Y a).1.Inf) == x2.1.Inf) && ((((Z8Y a).1.N) == x2.1.N) && true))) && (((Z8Y a).2) == x2.2)) && ((Z3m a) == (Z9g a))) && ((safe_Less a b) == (ZAc a b))) && Z5e)
def ZG:Form :=
 (Form.mk 7 1 [[(Span.mk 0 4)]] [])
def Z01:Form :=
 (Form.mk 1 1 [[(Span.mk 0 0)]] [])
def Z1C (f:Form) (m:Int):Option (Int × Int) :=
 (bif (f.Count == 0) then
  some (0,0)
 else
  (Z5j f.Count m).bind fun x1 =>
  (nz? m).bind fun u1 =>
  some ((w64 (x1.1.tdiv m)),x1.1))
def Z0A.s0 {S:Type} (p1':Int) (p2':Int→Option ((List Span) × Int)) (p3':Int) (yield:S→((List Span) × Int)→Option (S × Bool)) (s1:Int × S):Option ((Int × S) ⊕ (Jx (S) (S))) :=
 (bif (decide (s1.1 < p1')) then
  (p2' (w64 (p3' + s1.1))).bind fun x1 =>
  (yield s1.2 (x1.1,x1.2)).bind fun x2 =>
  (bif (!x2.2) then
   some (.inr (.ret x2.1))
  else
   some (.inl ((w64 (s1.1 + 1)),x2.1)))
 else
  some (.inr (.go s1.2)))
def Z0A {S:Type} (p1':Int) (p2':Int→Option ((List Span) × Int)) (p3':Int) (yield:S→((List Span) × Int)→Option (S × Bool)) (st':S):Option (S) :=
 (loopO (Z0A.s0 p1' p2' p3' yield) (0,st')).bind fun (y1:Jx (S) (S)) =>
 y1.elim (fun r' =>
   some r') fun a2 =>
 some a2
def ZU.b0 (s2:(List Span) × Int) (z2:(List Span) × Int):Option (((List Span) × Int) × Nat) :=
 (
  (
   (bif (z2.2 != 0) then
    some (.ret ())
   else
    (
     (
      (bif ((decide ((s2.1.length:Int) > 0)) && (decide ((z2.1.length:Int) > 0))) then
       (at? z2.1 0).bind fun x1 =>
       (at? s2.1 (w64 ((s2.1.length:Int) - 1))).bind fun x2 =>
       some (x1.From == (w64 (x2.To + 1)))
      else
       some false)).bind fun (y6:Bool) =>
     (bif y6 then
      (at? z2.1 0).bind fun x3 =>
      (at? s2.1 (w64 ((s2.1.length:Int) - 1))).bind fun x4 =>
      (cut? z2.1 1 (z2.1.length:Int)).bind fun x5 =>
      some (x5,(s2.1.set ((w64 ((s2.1.length:Int) - 1))).toNat (Span.mk x4.From x3.To)))
     else
      some (z2.1,s2.1))).bind fun (y5:(List Span) × (List Span)) =>
    (app? 16 y5.2 y5.1).bind fun x6 =>
    some (.go x6))).bind fun (y4:Jx ((List Span)) (Unit)) =>
  y4.elim (fun a6 =>
    some (.ret ())) fun a5 =>
  some (.go a5)).bind fun (y3:Jx ((List Span)) (Unit)) =>
 y3.elim (fun a8 =>
   some ((s2.1,z2.2),1)) fun a7 =>
 some ((a7,s2.2),0)
def ZU (tell:Int→Option ((List Span) × Int)) (from':Int) (many:Int):Option ((List Span) × Int) :=
 (
  some ()).bind fun (y1:Unit) =>
 (Z0A many tell from' (Z1Q ZU.b0) (([],0),0)).bind fun (y2:((List Span) × Int) × Nat) =>
 (bif (y2.2 == 0) then
  some (y2.1.1,0)
 else
  some ([],y2.1.2))
def Z21 (f:Form) (i:Int):Option ((List Span) × Int) :=
 (bif (f.Count == 0) then
  some ([],0)
 else
  (Z0X i f.Count).bind fun x1 =>
  (at? f.Core x1.2.1).bind fun x2 =>
  (bif ((x2.length:Int) == 0) then
   some ([],0)
  else
   (bif ((x1.2.2 != 0) || (((Za x1.1 f.Period).2) != 0)) then
    some ([],20)
   else
    (at? f.Core x1.2.1).bind fun x3 =>
    (Z02 x3 ((Za x1.1 f.Period).1)).bind fun x4 =>
    some (x4.1,x4.2))))
def Z0D (i:Int) (p1':Form):Option ((List Span) × Int) :=
 (Z21 p1' i).bind fun x1 =>
 some (x1.1,x1.2)
def ZS.s0 (f:Form) (s1:Int × Int):Option ((Int × Int) ⊕ (Int)) :=
 (bif (decide (s1.2 < (f.Core.length:Int))) then
  (at? f.Core s1.2).bind fun x2 =>
  some (.inl ((w64 (s1.1 + (x2.length:Int))),(w64 (s1.2 + 1))))
 else
  some (.inr s1.1))
def ZS.s1 (f:Form) (m:Int) (x1:Int × Int) (s3:Int × (List (List Span))):Option ((Int × (List (List Span))) ⊕ (Jx ((List (List Span)) × Int) (Int))) :=
 (bif (decide (s3.1 < x1.1)) then
  (ZU (fun z0 => Z0D z0 f) (w64 (s3.1 * m)) m).bind fun x3 =>
  (bif (x3.2 != 0) then
   some (.inr (.ret x3.2))
  else
   (app? 24 s3.2 [x3.1]).bind fun x4 =>
   some (.inl ((w64 (s3.1 + 1)),x4)))
 else
  some (.inr (.go (s3.2,(Za f.Period (w64 (x1.2.tdiv f.Count))).1))))
def ZS (f:Form) (m:Int):Option (Form × Int) :=
 (Z1C f m).bind fun x1 =>
 (bif (x1.1 == 0) then
  some ((Form.mk 0 0 [] []),0)
 else
  (loopO (ZS.s0 f) (0,0)).bind fun (y1:Int) =>
  (nz? f.Count).bind fun u1 =>
  (bif (decide ((w64 (y1 * (w64 (x1.2.tdiv f.Count)))) > 60000)) then
   some ((Form.mk 0 0 [] []),3)
  else
   (nz? f.Count).bind fun u2 =>
   (bif ((((Za f.Period (w64 (x1.2.tdiv f.Count))).2) != 0) || (decide (((Za f.Period (w64 (x1.2.tdiv f.Count))).1) > 1099511627776))) then
    some ((Form.mk 0 0 [] []),20)
   else
    (loopO (ZS.s1 f m x1) (0,[])).bind fun (y2:Jx ((List (List Span)) × Int) (Int)) =>
    y2.elim (fun a4 =>
      some ((Form.mk 0 0 [] []),a4)) fun a3 =>
    some ((Form.mk a3.2 x1.1 a3.1 []),0))))
def Z1v (f:Form):Option (Form × Int) :=
 (Zn f).bind fun x1 =>
 (bif (x1 == 0) then
  (Zc f).bind fun x2 =>
  some (x2,0)
 else
  (bif (x1 == 3) then
   some ((Form.mk 0 0 [] []),3)
  else
   some ((Form.mk 0 0 [] []),20)))
def Z0E (i:Int) (p1':Form):Option ((List Span) × Int) :=
 (Zt p1' i).bind fun x1 =>
 some (x1.1,x1.2)
def Zg.s0 (f:Form) (m:Int) (s2:Int × (List Granule)):Option ((Int × (List Granule)) ⊕ (Jx ((List Granule)) (Form × Int))) :=
 (bif (decide (s2.1 < (f.Odd.length:Int))) then
  (
   (at? f.Odd s2.1).bind fun x2 =>
   (Z0X x2.Index m).bind fun x3 =>
   (
    (bif (decide ((s2.2.length:Int) > 0)) then
     (at? s2.2 (w64 ((s2.2.length:Int) - 1))).bind fun x4 =>
     some (x4.Index == x3.1)
    else
     some false)).bind fun (y3:Bool) =>
   (bif y3 then
    some (.go s2.2)
   else
    (ZU (fun z0 => Z0E z0 f) (w64 (x3.1 * m)) m).bind fun x5 =>
    (bif (x5.2 != 0) then
     some (.ret ((Form.mk 0 0 [] []),20))
    else
     (app? 32 s2.2 [(Granule.mk x3.1 x5.1)]).bind fun x6 =>
     some (.go x6)))).bind fun (y2:Jx ((List Granule)) (Form × Int)) =>
  y2.elim (fun r' =>
    some (.inr (.ret r'))) fun a3 =>
  some (.inl ((w64 (s2.1 + 1)),a3))
 else
  some (.inr (.go s2.2)))
def Zg (f:Form) (m:Int):Option (Form × Int) :=
 (bif ((decide (m < 1)) || (decide (m > 6000))) then
  some ((Form.mk 0 0 [] []),2)
 else
  (ZS f m).bind fun x1 =>
  (bif (x1.2 != 0) then
   some ((Form.mk 0 0 [] []),x1.2)
  else
   (loopO (Zg.s0 f m) (0,[])).bind fun (y1:Jx ((List Granule)) (Form × Int)) =>
   y1.elim (fun r' =>
     some r') fun a4 =>
   (Z1v (Form.mk x1.1.Period x1.1.Count x1.1.Core a4)).bind fun x7 =>
   some (x7.1,x7.2)))
def Z04 (i:Int):Bool :=
 ((decide (i ≥ (-1099511627776))) && (decide (i≤1099511627776)))
def Zz.s0 (f:Form) (m:Int) (s2:Int × (List (List Span))):Option ((Int × (List (List Span))) ⊕ (Jx ((List (List Span))) (Form × Int))) :=
 (bif (decide (s2.1 < f.Count)) then
  (Z21 f (w64 (s2.1 - m))).bind fun x1 =>
  (bif (x1.2 != 0) then
   some (.inr (.ret ((Form.mk 0 0 [] []),x1.2)))
  else
   (app? 24 s2.2 [x1.1]).bind fun x2 =>
   some (.inl ((w64 (s2.1 + 1)),x2)))
 else
  some (.inr (.go s2.2)))
def Zz.s1 (f:Form) (m:Int) (s4:Int × (List Granule)):Option ((Int × (List Granule)) ⊕ (Jx ((List Granule)) (Form × Int))) :=
 (bif (decide (s4.1 < (f.Odd.length:Int))) then
  (at? f.Odd s4.1).bind fun x3 =>
  (bif (!(Z04 (w64 (x3.Index + m)))) then
   some (.inr (.ret ((Form.mk 0 0 [] []),20)))
  else
   (app? 16 [] x3.Ticks).bind fun x4 =>
   (app? 32 s4.2 [(Granule.mk (w64 (x3.Index + m)) x4)]).bind fun x5 =>
   some (.inl ((w64 (s4.1 + 1)),x5)))
 else
  some (.inr (.go s4.2)))
def Zz (f:Form) (m:Int):Option (Form × Int) :=
 (bif (!(Z04 m)) then
  some ((Form.mk 0 0 [] []),2)
 else
  (loopO (Zz.s0 f m) (0,[])).bind fun (y1:Jx ((List (List Span))) (Form × Int)) =>
  y1.elim (fun r' =>
    some r') fun a2 =>
  (loopO (Zz.s1 f m) (0,[])).bind fun (y2:Jx ((List Granule)) (Form × Int)) =>
  y2.elim (fun r' =>
    some r') fun a4 =>
  (Z1v (Form.mk f.Period f.Count a2 a4)).bind fun x6 =>
  some (x6.1,x6.2))
def Z2n (f:Form) (i:Int):Option (Bool × (List Span) × Int) :=
 (Zt f i).bind fun x1 =>
 some (((decide ((x1.1.length:Int) > 0)) || (x1.2 != 0)),x1.1,x1.2)
def Zp.s0 (f:Form) (n:Int) (s2:Int × Bool × (List Int)):Option ((Int × Bool × (List Int)) ⊕ (Jx ((List Int)) (Form × Int))) :=
 (bif (s2.2.1 && (decide (s2.1≤n))) then
  (app? 8 s2.2.2 [s2.1]).bind fun x3 =>
  (bif (decide ((x3.length:Int) > 6000)) then
   some (.inr (.ret ((Form.mk 0 0 [] []),3)))
  else
   (Z0n f s2.1).bind fun x4 =>
   some (.inl (x4.1,x4.2,x3)))
 else
  some (.inr (.go s2.2.2)))
def Zp.s1 (f:Form) (a2:(List Int)) (s4:Int × (List Granule)):Option ((Int × (List Granule)) ⊕ (Jx ((List Granule)) (Form × Int))) :=
 (bif (decide (s4.1 < (a2.length:Int))) then
  (at? a2 s4.1).bind fun x5 =>
  (Z2n f x5).bind fun x6 =>
  (bif (x6.2.2 != 0) then
   some (.inr (.ret ((Form.mk 0 0 [] []),20)))
  else
   (app? 32 s4.2 [(Granule.mk x5 x6.2.1)]).bind fun x7 =>
   some (.inl ((w64 (s4.1 + 1)),x7)))
 else
  some (.inr (.go s4.2)))
def Zp (f:Form) (m:Int) (n:Int):Option (Form × Int) :=
 (bif (((!(Z04 m)) || (!(Z04 n))) || (decide (m > n))) then
  some ((Form.mk 0 0 [] []),2)
 else
  (
   (Z2n f m).bind fun x1 =>
   (bif (!x1.1) then
    (Z0n f m).bind fun x2 =>
    some (x2.1,x2.2)
   else
    some (m,true))).bind fun (y1:Int × Bool) =>
  (loopO (Zp.s0 f n) (y1.1,y1.2,[])).bind fun (y2:Jx ((List Int)) (Form × Int)) =>
  y2.elim (fun r' =>
    some r') fun a2 =>
  (loopO (Zp.s1 f a2) (0,[])).bind fun (y3:Jx ((List Granule)) (Form × Int)) =>
  y3.elim (fun r' =>
    some r') fun a4 =>
  (Z1v (Form.mk 0 0 [] a4)).bind fun x8 =>
  some (x8.1,x8.2))
def Z1Z:Option (Bool) :=
 (Zg Z01 7).bind fun x1 =>
 (Zz Z01 3).bind fun x2 =>
 (Zp Z01 2 4).bind fun x3 =>
 (Zg (Form.mk ZG.Period ZG.Count ZG.Core [(Granule.mk 1 [(Span.mk 8 11)])]) 2).bind fun x4 =>
 (Zt x2.1 0).bind fun x5 =>
 (Zg Z01 0).bind fun x6 =>
 (Zp Z01 2 1).bind fun x7 =>
 (Zg (Form.mk 549755813888 1 [[(Span.mk 0 0)]] []) 4).bind fun x8 =>
 (
  (bif (((((((((((x1.2 == 0) && (x2.2 == 0)) && (x3.2 == 0)) && (x4.2 == 0)) && (x5.2 == 0)) && (x6.2 == 2)) && (x7.2 == 2)) && (x8.2 == 20)) && (x1.1.Period == 7)) && (x1.1.Count == 1)) && ((x1.1.Core.length:Int) == 1)) then
   (at? x1.1.Core 0).bind fun x9 =>
   (ZR x9 [(Span.mk 0 6)]).bind fun x10 =>
   some x10
  else
   some false)).bind fun (y1:Bool) =>
 (
  (bif y1 then
   (ZR x5.1 [(Span.mk (-3) (-3))]).bind fun x11 =>
   some x11
  else
   some false)).bind fun (y2:Bool) =>
 (
  (bif (y2 && ((x3.1.Odd.length:Int) == 3)) then
   (at? x3.1.Odd 0).bind fun x12 =>
   some (x12.Index == 2)
  else
   some false)).bind fun (y3:Bool) =>
 (
  (bif ((y3 && (x3.1.Count == 0)) && ((x4.1.Odd.length:Int) == 1)) then
   (at? x4.1.Odd 0).bind fun x13 =>
   some (x13.Index == 0)
  else
   some false)).bind fun (y4:Bool) =>
 some y4
def Z0T:Bool:=true
def Z3U.s0 (f:Form) (m:Int) (at':Int) (x2:Form × Int) (s1:Int):Option ((Int) ⊕ (Jx (Unit) (Bool))) :=
 (bif (decide (s1 < ([((w64 at').fdiv (2 ^ 1)),m,(w64 (m + 1)),0].length:Int))) then
  (at? [((w64 at').fdiv (2 ^ 1)),m,(w64 (m + 1)),0] s1).bind fun x3 =>
  (Zt f (w64 (x3 - m))).bind fun x4 =>
  (Zt x2.1 x3).bind fun x5 =>
  (
   (bif ((x4.2 == 0) && (x5.2 == 0)) then
    (Z0B x5.1 x4.1).bind fun x6 =>
    some (!x6)
   else
    some false)).bind fun (y2:Bool) =>
  (bif (y2 || ((((x4.2 == 0) && (x5.2 != 0)) && (decide (x3 ≥ (-1099511627776)))) && (decide (x3≤1099511627776)))) then
   some (.inr (.ret false))
  else
   some (.inl (w64 (s1 + 1))))
 else
  some (.inr (.go ())))
def Z3U (f:Form) (m:Int) (at':Int):Option (Bool) :=
 (Z1G f).bind fun x1 =>
 (bif (!x1) then
  some Z0T
 else
  (Zz f m).bind fun x2 =>
  (bif (x2.2 != 0) then
   some ((((x2.2 == 2) == ((decide (m < (-1099511627776))) || (decide (m > 1099511627776)))) && ((x2.2 == 2) || (x2.2 == 20))) && Z0T)
  else
   (loopO (Z3U.s0 f m at' x2) 0).bind fun (y1:Jx (Unit) (Bool)) =>
   y1.elim (fun r' =>
     some r') fun a2 =>
   (Zz x2.1 (w64 (0 - m))).bind fun x7 =>
   (Z4E x2.1).bind fun x8 =>
   (
    (bif x8 then
     (
      (bif (x7.2 != 0) then
       some true
      else
       (Zc f).bind fun x9 =>
       (ZD x7.1 x9).bind fun x10 =>
       some x10)).bind fun (y4:Bool) =>
     some y4
    else
     some false)).bind fun (y3:Bool) =>
   some (y3 && Z0T)))
def Z0q.s0 (l:(List Int)) (x':Int) (s2:Bool × Int × (List Int)):Option ((Bool × Int × (List Int)) ⊕ (Bool × (List Int))) :=
 (bif (decide (s2.2.1 < (l.length:Int))) then
  (
   (
    (
     (at? l s2.2.1).bind fun x1 =>
     (bif (x1 == x') then
      some true
     else
      some s2.1)).bind fun (y4:Bool) =>
    (
     (
      (bif (!y4) then
       (at? l s2.2.1).bind fun x2 =>
       some (decide (x2 > x'))
      else
       some false)).bind fun (y6:Bool) =>
     (bif y6 then
      (app? 8 s2.2.2 [x']).bind fun x3 =>
      some (true,x3)
     else
      some (y4,s2.2.2))).bind fun (y5:Bool × (List Int)) =>
    (at? l s2.2.1).bind fun x4 =>
    (app? 8 y5.2 [x4]).bind fun x5 =>
    some (y5.1,x5)).bind fun (y3:Bool × (List Int)) =>
   some (y3.1,y3.2)).bind fun (y2:Bool × (List Int)) =>
  some (.inl (y2.1,(w64 (s2.2.1 + 1)),y2.2))
 else
  some (.inr (s2.1,s2.2.2)))
def Z0q (l:(List Int)) (x':Int):Option ((List Int)) :=
 (loopO (Z0q.s0 l x') (false,0,[])).bind fun (y1:Bool × (List Int)) =>
 (
  (bif (!y1.1) then
   (app? 8 y1.2 [x']).bind fun x6 =>
   some x6
  else
   some y1.2)).bind fun (y7:(List Int)) =>
 some y7
def Z1V.s0 (a:(List Span)) (s1:(List Int) × Int):Option (((List Int) × Int) ⊕ ((List Int))) :=
 (bif (decide (s1.2 < (a.length:Int))) then
  (at? a s1.2).bind fun x1 =>
  (Z0q s1.1 x1.From).bind fun x2 =>
  (at? a s1.2).bind fun x3 =>
  (Z0q x2 (w64 (x3.To + 1))).bind fun x4 =>
  some (.inl (x4,(w64 (s1.2 + 1))))
 else
  some (.inr s1.1))
def Z1V.s1 (b:(List Span)) (s2:(List Int) × Int):Option (((List Int) × Int) ⊕ ((List Int))) :=
 (bif (decide (s2.2 < (b.length:Int))) then
  (at? b s2.2).bind fun x5 =>
  (Z0q s2.1 x5.From).bind fun x6 =>
  (at? b s2.2).bind fun x7 =>
  (Z0q x6 (w64 (x7.To + 1))).bind fun x8 =>
  some (.inl (x8,(w64 (s2.2 + 1))))
 else
  some (.inr s2.1))
def Z1V (a:(List Span)) (b:(List Span)):Option ((List Int)) :=
 (loopO (Z1V.s0 a) ([],0)).bind fun (y1:(List Int)) =>
 (loopO (Z1V.s1 b) (y1,0)).bind fun (y2:(List Int)) =>
 some y2
def Z2d.s0 (l:(List Span)) (t:Int) (s1:Int):Option ((Int) ⊕ (Jx (Unit) (Bool))) :=
 (bif (decide (s1 < (l.length:Int))) then
  (at? l s1).bind fun x1 =>
  (
   (bif (decide (x1.From≤t)) then
    (at? l s1).bind fun x2 =>
    some (decide (t≤x2.To))
   else
    some false)).bind fun (y2:Bool) =>
  (bif y2 then
   some (.inr (.ret true))
  else
   some (.inl (w64 (s1 + 1))))
 else
  some (.inr (.go ())))
def Z2d (l:(List Span)) (t:Int):Option (Bool) :=
 (loopO (Z2d.s0 l t) 0).bind fun (y1:Jx (Unit) (Bool)) =>
 y1.elim (fun r' =>
   some r') fun a2 =>
 some false
def epactref02_in (kind:Int) (a:Bool) (b:Bool):Bool :=
 (bif (kind == 1) then
  (a || b)
 else
  (bif (kind == 2) then
   (a && b)
  else
   (a && (!b))))
def Z4h.s0 (kind:Int) (a:(List Span)) (b:(List Span)) (x1:(List Int)) (s2:Int × (List Span)):Option ((Int × (List Span)) ⊕ ((List Span))) :=
 (bif (decide ((w64 (s2.1 + 1)) < (x1.length:Int))) then
  (
   (
    (at? x1 s2.1).bind fun x2 =>
    (Z2d a x2).bind fun x3 =>
    (at? x1 s2.1).bind fun x4 =>
    (Z2d b x4).bind fun x5 =>
    (bif (!(epactref02_in kind x3 x5)) then
     some (.ret ())
    else
     (
      (bif (decide ((s2.2.length:Int) > 0)) then
       (at? s2.2 (w64 ((s2.2.length:Int) - 1))).bind fun x6 =>
       (at? x1 s2.1).bind fun x7 =>
       some (x6.To == (w64 (x7 - 1)))
      else
       some false)).bind fun (y4:Bool) =>
     (bif y4 then
      (at? x1 (w64 (s2.1 + 1))).bind fun x8 =>
      (at? s2.2 (w64 ((s2.2.length:Int) - 1))).bind fun x9 =>
      some (.go (s2.2.set ((w64 ((s2.2.length:Int) - 1))).toNat (Span.mk x9.From (w64 (x8 - 1)))))
     else
      (at? x1 s2.1).bind fun x10 =>
      (at? x1 (w64 (s2.1 + 1))).bind fun x11 =>
      (app? 16 s2.2 [(Span.mk x10 (w64 (x11 - 1)))]).bind fun x12 =>
      some (.go x12)))).bind fun (y3:Jx ((List Span)) (Unit)) =>
   y3.elim (fun a4 =>
     some s2.2) fun a3 =>
   some a3).bind fun (y2:(List Span)) =>
  some (.inl ((w64 (s2.1 + 1)),y2))
 else
  some (.inr s2.2))
def Z4h (kind:Int) (a:(List Span)) (b:(List Span)):Option ((List Span)) :=
 (Z1V a b).bind fun x1 =>
 (loopO (Z4h.s0 kind a b x1) (0,[])).bind fun (y1:(List Span)) =>
 some y1
def Z5G.s0 (l:(List Int)) (x':Int) (s2:Bool × Int × (List Int)):Option ((Bool × Int × (List Int)) ⊕ (Bool × (List Int))) :=
 (bif (decide (s2.2.1 < (l.length:Int))) then
  (
   (
    (
     (at? l s2.2.1).bind fun x1 =>
     (bif (x1 == x') then
      some true
     else
      some s2.1)).bind fun (y4:Bool) =>
    (
     (
      (bif (!y4) then
       (at? l s2.2.1).bind fun x2 =>
       some (decide (x2 > x'))
      else
       some false)).bind fun (y6:Bool) =>
     (bif y6 then
      (app? 8 s2.2.2 [x']).bind fun x3 =>
      some (true,x3)
     else
      some (y4,s2.2.2))).bind fun (y5:Bool × (List Int)) =>
    (at? l s2.2.1).bind fun x4 =>
    (app? 8 y5.2 [x4]).bind fun x5 =>
    some (y5.1,x5)).bind fun (y3:Bool × (List Int)) =>
   some (y3.1,y3.2)).bind fun (y2:Bool × (List Int)) =>
  some (.inl (y2.1,(w64 (s2.2.1 + 1)),y2.2))
 else
  some (.inr (s2.1,s2.2.2)))
def Z5G (l:(List Int)) (x':Int):Option ((List Int)) :=
 (loopO (Z5G.s0 l x') (false,0,[])).bind fun (y1:Bool × (List Int)) =>
 (
  (bif (!y1.1) then
   (app? 8 y1.2 [x']).bind fun x6 =>
   some x6
  else
   some y1.2)).bind fun (y7:(List Int)) =>
 some y7
def Z6l (f:Form) (i:Int):Option ((List Span) × Int) :=
 (bif (f.Count == 0) then
  some ([],0)
 else
  (Z4K i f.Count).bind fun x1 =>
  (at? f.Core x1.2).bind fun x2 =>
  (bif ((x2.length:Int) == 0) then
   some ([],0)
  else
   (nz? f.Period).bind fun u1 =>
   (
    (bif (decide (x1.1 > (w64 ((w64 ((2199023255552:Int).tdiv f.Period)) + 1)))) then
     some true
    else
     (nz? f.Period).bind fun u2 =>
     some (decide (x1.1 < (w64 ((w64 ((-2199023255552:Int).tdiv f.Period)) - 1)))))).bind fun (y1:Bool) =>
   (bif y1 then
    some ([],20)
   else
    (Z2z x2 (w64 (x1.1 * f.Period))).bind fun x3 =>
    some (x3.1,x3.2))))
def Z4P.s0 (f:Form) (from':Int) (many:Int) (raw:Bool) (s1:(List Span) × Int):Option (((List Span) × Int) ⊕ (Jx ((List Span)) ((List Span) × Int))) :=
 (bif (decide (s1.2 < (w64 (from' + many)))) then
  (
   (
    (Z4i f s1.2).bind fun x1 =>
    (
     (bif raw then
      (Z6l f s1.2).bind fun x2 =>
      some (x2.1,x2.2)
     else
      some (x1.1,x1.2))).bind fun (y4:(List Span) × Int) =>
    (bif (y4.2 != 0) then
     some (.ret ([],20))
    else
     (Z4h 1 s1.1 y4.1).bind fun x3 =>
     some (.go x3))).bind fun (y3:Jx ((List Span)) ((List Span) × Int)) =>
   y3.elim (fun r' =>
     some (.ret r')) fun a4 =>
   some (.go a4)).bind fun (y2:Jx ((List Span)) ((List Span) × Int)) =>
  y2.elim (fun r' =>
    some (.inr (.ret r'))) fun a5 =>
  some (.inl (a5,(w64 (s1.2 + 1))))
 else
  some (.inr (.go s1.1)))
def Z4P (f:Form) (from':Int) (many:Int) (raw:Bool):Option ((List Span) × Int) :=
 (loopO (Z4P.s0 f from' many raw) ([],from')).bind fun (y1:Jx ((List Span)) ((List Span) × Int)) =>
 y1.elim (fun r' =>
   some r') fun a6 =>
 some (a6,0)
def Z2D.s0 (f:Form) (s1:Int × Int):Option ((Int × Int) ⊕ (Int)) :=
 (bif (decide (s1.2 < (f.Core.length:Int))) then
  (at? f.Core s1.2).bind fun x1 =>
  some (.inl ((w64 (s1.1 + (x1.length:Int))),(w64 (s1.2 + 1))))
 else
  some (.inr s1.1))
def Z2D.s1 (f:Form) (s2:Int × Int):Option ((Int × Int) ⊕ (Int)) :=
 (bif (decide (s2.2 < (f.Odd.length:Int))) then
  (at? f.Odd s2.2).bind fun x2 =>
  some (.inl ((w64 (s2.1 + (x2.Ticks.length:Int))),(w64 (s2.2 + 1))))
 else
  some (.inr s2.1))
def Z2D (f:Form):Option (Int) :=
 (loopO (Z2D.s0 f) (0,0)).bind fun (y1:Int) =>
 (loopO (Z2D.s1 f) (y1,0)).bind fun (y2:Int) =>
 some y2
def Z2g.s0 (l:(List Span)) (s1:Int):Option ((Int) ⊕ (Jx (Unit) (Bool))) :=
 (bif (decide (s1 < (l.length:Int))) then
  (at? l s1).bind fun x1 =>
  (at? l s1).bind fun x2 =>
  (
   (bif (decide (x1.From > x2.To)) then
    some true
   else
    (at? l s1).bind fun x3 =>
    some (decide (x3.From < (-1099511627776))))).bind fun (y2:Bool) =>
  (
   (bif y2 then
    some true
   else
    (at? l s1).bind fun x4 =>
    some (decide (x4.To > 1099511627776)))).bind fun (y3:Bool) =>
  (bif y3 then
   some (.inr (.ret false))
  else
   (
    (bif (decide (s1 > 0)) then
     (at? l s1).bind fun x5 =>
     (at? l (w64 (s1 - 1))).bind fun x6 =>
     (
      (bif (decide (x5.From≤x6.To)) then
       some true
      else
       (cut? l 0 s1).bind fun x7 =>
       (at? l s1).bind fun x8 =>
       (Z2d x7 (w64 (x8.From - 1))).bind fun x9 =>
       some x9)).bind fun (y5:Bool) =>
     some y5
    else
     some false)).bind fun (y4:Bool) =>
   (bif y4 then
    some (.inr (.ret false))
   else
    some (.inl (w64 (s1 + 1)))))
 else
  some (.inr (.go ())))
def Z2g (l:(List Span)):Option (Bool) :=
 (loopO (Z2g.s0 l) 0).bind fun (y1:Jx (Unit) (Bool)) =>
 y1.elim (fun r' =>
   some r') fun a2 =>
 some true
def Z1p.s0 (f:Form) (s1:Int):Option ((Int) ⊕ (Jx (Unit) (Bool))) :=
 (bif (decide (s1 < (f.Core.length:Int))) then
  (at? f.Core s1).bind fun x1 =>
  (Z2g x1).bind fun x2 =>
  (bif (!x2) then
   some (.inr (.ret false))
  else
   some (.inl (w64 (s1 + 1))))
 else
  some (.inr (.go ())))
def Z1p.s1 (f:Form) (s2:Int):Option ((Int) ⊕ (Jx (Unit) (Bool))) :=
 (bif (decide (s2 < (f.Odd.length:Int))) then
  (at? f.Odd s2).bind fun x3 =>
  (Z2g x3.Ticks).bind fun x4 =>
  (
   (bif (((!x4) || (decide (x3.Index < (-1099511627776)))) || (decide (x3.Index > 1099511627776))) then
    some true
   else
    (
     (bif (decide (s2 > 0)) then
      (at? f.Odd (w64 (s2 - 1))).bind fun x5 =>
      some (decide (x3.Index≤x5.Index))
     else
      some false)).bind fun (y4:Bool) =>
    some y4)).bind fun (y3:Bool) =>
  (bif y3 then
   some (.inr (.ret false))
  else
   some (.inl (w64 (s2 + 1))))
 else
  some (.inr (.go ())))
def Z1p (f:Form):Option (Bool) :=
 (bif ((((((f.Core.length:Int) != f.Count) || (decide (f.Period < 0))) || (decide (f.Period > 1099511627776))) || ((f.Count == 0) && (f.Period != 0))) || ((f.Count != 0) && (f.Period == 0))) then
  some false
 else
  (loopO (Z1p.s0 f) 0).bind fun (y1:Jx (Unit) (Bool)) =>
  y1.elim (fun r' =>
    some r') fun a2 =>
  (loopO (Z1p.s1 f) 0).bind fun (y2:Jx (Unit) (Bool)) =>
  y2.elim (fun r' =>
    some r') fun a4 =>
  some true)
def ZAb (f:Form):Form :=
 (Form.mk f.Period f.Count f.Core [])
def Z1D.s1 (a:(List Span)) (b:(List Span)) (s1:Int) (s2:Int):Option ((Int) ⊕ (Jx (Unit) (Bool))) :=
 (bif (decide (s2 < (b.length:Int))) then
  (at? a s1).bind fun x1 =>
  (at? b s2).bind fun x2 =>
  (bif (decide (x1.To ≥ x2.From)) then
   some (.inr (.ret false))
  else
   some (.inl (w64 (s2 + 1))))
 else
  some (.inr (.go ())))
def Z1D.s0 (a:(List Span)) (b:(List Span)) (s1:Int):Option ((Int) ⊕ (Jx (Unit) (Bool))) :=
 (bif (decide (s1 < (a.length:Int))) then
  (loopO (Z1D.s1 a b s1) 0).bind fun (y2:Jx (Unit) (Bool)) =>
  y2.elim (fun r' =>
    some (.inr (.ret r'))) fun a3 =>
  some (.inl (w64 (s1 + 1)))
 else
  some (.inr (.go ())))
def Z1D (a:(List Span)) (b:(List Span)):Option (Bool) :=
 (loopO (Z1D.s0 a b) 0).bind fun (y1:Jx (Unit) (Bool)) =>
 y1.elim (fun r' =>
   some r') fun a4 =>
 some true
def Z4J.s0 (f:Form) (s1:Int × (List Span) × Int):Option ((Int × (List Span) × Int) ⊕ (Jx (Int × (List Span)) (Bool))) :=
 (bif (decide (s1.2.2 < (f.Core.length:Int))) then
  (
   (
    (at? f.Core s1.2.2).bind fun x1 =>
    (Z1D s1.2.1 x1).bind fun x2 =>
    (bif (!x2) then
     some (.ret false)
    else
     (bif (decide ((x1.length:Int) > 0)) then
      (bif (decide (s1.1 < 0)) then
       some (.go (s1.2.2,x1))
      else
       some (.go (s1.1,x1)))
     else
      some (.go (s1.1,s1.2.1))))).bind fun (y3:Jx (Int × (List Span)) (Bool)) =>
   y3.elim (fun r' =>
     some (.ret r')) fun a4 =>
   some (.go (a4.1,a4.2))).bind fun (y2:Jx (Int × (List Span)) (Bool)) =>
  y2.elim (fun r' =>
    some (.inr (.ret r'))) fun a5 =>
  some (.inl (a5.1,a5.2,(w64 (s1.2.2 + 1))))
 else
  some (.inr (.go (s1.1,s1.2.1))))
def Z4J (f:Form):Option (Bool) :=
 (loopO (Z4J.s0 f) ((-1),[],0)).bind fun (y1:Jx (Int × (List Span)) (Bool)) =>
 y1.elim (fun r' =>
   some r') fun a6 =>
 (
  (bif (decide (a6.1 < 0)) then
   some true
  else
   (at? a6.2 (w64 ((a6.2.length:Int) - 1))).bind fun x3 =>
   (at? f.Core a6.1).bind fun x4 =>
   (at? x4 0).bind fun x5 =>
   some (decide (x3.To < (w64 (x5.From + f.Period)))))).bind fun (y4:Bool) =>
 some y4
def ZBS (f:Form):Int :=
 (w64 ((w64 (f.Count * (w64 ((f.Odd.length:Int) + 1)))) + 2))
def ZB0 (f:Form) (i:Int):Option (Bool) :=
 (Z3L f i).bind fun x1 =>
 some (decide ((x1.1.length:Int) > 0))
def Z0P.s0 (f:Form) (i:Int) (by':Int) (s1:Bool × Int × Int):Option ((Bool × Int × Int) ⊕ (Bool × Int)) :=
 (bif (decide (s1.2.2 < (f.Odd.length:Int))) then
  (
   (
    (at? f.Odd s1.2.2).bind fun x1 =>
    (bif (((decide ((x1.Ticks.length:Int) > 0)) && (decide ((w64 ((w64 (x1.Index - i)) * by')) ≥ 0))) && ((!s1.1) || (decide ((w64 ((w64 (x1.Index - s1.2.1)) * by')) < 0)))) then
     some (true,x1.Index)
    else
     some (s1.1,s1.2.1))).bind fun (y3:Bool × Int) =>
   some (y3.1,y3.2)).bind fun (y2:Bool × Int) =>
  some (.inl (y2.1,y2.2,(w64 (s1.2.2 + 1))))
 else
  some (.inr (s1.1,s1.2.1)))
def Z0P.s1 (f:Form) (i:Int) (by':Int) (s2:Bool × Int × Int):Option ((Bool × Int × Int) ⊕ (Bool × Int)) :=
 (bif (decide (s2.2.2 < (ZBS f))) then
  (
   (
    (bif ((decide ((w64 (i + (w64 (s2.2.2 * by')))) < (-1099511627776))) || (decide ((w64 (i + (w64 (s2.2.2 * by')))) > 1099511627776))) then
     some (.ret ())
    else
     (ZB0 f (w64 (i + (w64 (s2.2.2 * by'))))).bind fun x2 =>
     (bif (x2 && ((!s2.1) || (decide ((w64 ((w64 ((w64 (i + (w64 (s2.2.2 * by')))) - s2.2.1)) * by')) < 0)))) then
      some (.go (true,(w64 (i + (w64 (s2.2.2 * by'))))))
     else
      some (.go (s2.1,s2.2.1))))).bind fun (y6:Jx (Bool × Int) (Unit)) =>
   y6.elim (fun a6 =>
     some (.ret ())) fun a5 =>
   some (.go (a5.1,a5.2))).bind fun (y5:Jx (Bool × Int) (Unit)) =>
  y5.elim (fun a8 =>
    some (.inr (s2.1,s2.2.1))) fun a7 =>
  some (.inl (a7.1,a7.2,(w64 (s2.2.2 + 1))))
 else
  some (.inr (s2.1,s2.2.1)))
def Z0P (f:Form) (i:Int) (by':Int):Option (Int × Bool) :=
 (loopO (Z0P.s0 f i by') (false,0,0)).bind fun (y1:Bool × Int) =>
 (loopO (Z0P.s1 f i by') (y1.1,y1.2,0)).bind fun (y4:Bool × Int) =>
 some (y4.2,y4.1)
def Z8s (f:Form) (i:Int):Option (Int × Bool) :=
 (bif (decide (i≤(-1099511627776))) then
  some (0,false)
 else
  (bif (decide (i > 1099511627776)) then
   (Z0P f 1099511627776 (-1)).bind fun x1 =>
   some (x1.1,x1.2)
  else
   (Z0P f (w64 (i - 1)) (-1)).bind fun x2 =>
   some (x2.1,x2.2)))
def Z55 (f:Form) (i:Int):Option (Int × Bool) :=
 (bif (decide (i ≥ 1099511627776)) then
  some (0,false)
 else
  (bif (decide (i < (-1099511627776))) then
   (Z0P f (-1099511627776) 1).bind fun x1 =>
   some (x1.1,x1.2)
  else
   (Z0P f (w64 (i + 1)) 1).bind fun x2 =>
   some (x2.1,x2.2)))
def Z38.s0 (f:Form) (l:(List Int)) (s1:(List Span) × Int):Option (((List Span) × Int) ⊕ (Jx (Unit) (Bool))) :=
 (bif (decide (s1.2 < (l.length:Int))) then
  (
   (
    (at? l s1.2).bind fun x1 =>
    (Z4i f x1).bind fun x2 =>
    (
     (bif (x2.2 != 0) then
      some true
     else
      (Z1D s1.1 x2.1).bind fun x3 =>
      some (!x3))).bind fun (y4:Bool) =>
    (bif y4 then
     some (.ret false)
    else
     (bif (decide ((x2.1.length:Int) > 0)) then
      some (.go x2.1)
     else
      some (.go s1.1)))).bind fun (y3:Jx ((List Span)) (Bool)) =>
   y3.elim (fun r' =>
     some (.ret r')) fun a4 =>
   some (.go a4)).bind fun (y2:Jx ((List Span)) (Bool)) =>
  y2.elim (fun r' =>
    some (.inr (.ret r'))) fun a5 =>
  some (.inl (a5,(w64 (s1.2 + 1))))
 else
  some (.inr (.go ())))
def Z38 (f:Form) (l:(List Int)):Option (Bool) :=
 (loopO (Z38.s0 f l) ([],0)).bind fun (y1:Jx (Unit) (Bool)) =>
 y1.elim (fun r' =>
   some r') fun a6 =>
 some true
def Z3e.s0 (f:Form) (s1:Int):Option ((Int) ⊕ (Jx (Unit) (Int))) :=
 (bif (decide (s1 < (f.Odd.length:Int))) then
  (
   (
    (at? f.Odd s1).bind fun x4 =>
    (Z8s f x4.Index).bind fun x5 =>
    (
     (bif x5.2 then
      (app? 8 [] [x5.1]).bind fun x6 =>
      some x6
     else
      some [])).bind fun (y6:(List Int)) =>
    (at? f.Odd s1).bind fun x7 =>
    (app? 8 y6 [x7.Index]).bind fun x8 =>
    (at? f.Odd s1).bind fun x9 =>
    (Z55 f x9.Index).bind fun x10 =>
    (
     (bif x10.2 then
      (app? 8 x8 [x10.1]).bind fun x11 =>
      some x11
     else
      some x8)).bind fun (y7:(List Int)) =>
    (Z38 f y7).bind fun x12 =>
    (bif (!x12) then
     some (.ret 50)
    else
     some (.go ()))).bind fun (y5:Jx (Unit) (Int)) =>
   y5.elim (fun r' =>
     some (.ret r')) fun a4 =>
   some (.go ())).bind fun (y4:Jx (Unit) (Int)) =>
  y4.elim (fun r' =>
    some (.inr (.ret r'))) fun a5 =>
  some (.inl (w64 (s1 + 1)))
 else
  some (.inr (.go ())))
def Z3e (f:Form):Option (Int) :=
 (
  (bif ((decide ((f.Core.length:Int) > 6000)) || (decide ((f.Odd.length:Int) > 6000))) then
   some true
  else
   (Z2D f).bind fun x1 =>
   some (decide (x1 > 60000)))).bind fun (y1:Bool) =>
 (bif y1 then
  some 3
 else
  (Z1p f).bind fun x2 =>
  (
   (bif (!x2) then
    some true
   else
    (Z4J (ZAb f)).bind fun x3 =>
    some (!x3))).bind fun (y2:Bool) =>
  (bif y2 then
   some 50
  else
   (loopO (Z3e.s0 f) 0).bind fun (y3:Jx (Unit) (Int)) =>
   y3.elim (fun r' =>
     some r') fun a6 =>
   some 0))
def Z6Y (f:Form):Option (Form × Int) :=
 (Z3e f).bind fun x1 =>
 (bif (x1 == 3) then
  some ((Form.mk 0 0 [] []),3)
 else
  (bif (x1 != 0) then
   some ((Form.mk 0 0 [] []),20)
  else
   (Z0d f).bind fun x2 =>
   some (x2,0)))
def Z2m.s0 (f:Form) (m:Int) (s2:Int × (List (List Span))):Option ((Int × (List (List Span))) ⊕ (Jx ((List (List Span))) (Form × Int))) :=
 (bif (decide (s2.1 < f.Count)) then
  (Z6l f (w64 (s2.1 - m))).bind fun x1 =>
  (bif (x1.2 != 0) then
   some (.inr (.ret ((Form.mk 0 0 [] []),x1.2)))
  else
   (app? 24 s2.2 [x1.1]).bind fun x2 =>
   some (.inl ((w64 (s2.1 + 1)),x2)))
 else
  some (.inr (.go s2.2)))
def Z2m.s1 (f:Form) (m:Int) (s4:Int × (List Granule)):Option ((Int × (List Granule)) ⊕ (Jx ((List Granule)) (Form × Int))) :=
 (bif (decide (s4.1 < (f.Odd.length:Int))) then
  (at? f.Odd s4.1).bind fun x3 =>
  (bif ((decide ((w64 (x3.Index + m)) < (-1099511627776))) || (decide ((w64 (x3.Index + m)) > 1099511627776))) then
   some (.inr (.ret ((Form.mk 0 0 [] []),20)))
  else
   (at? f.Odd s4.1).bind fun x4 =>
   (app? 32 s4.2 [(Granule.mk (w64 (x3.Index + m)) x4.Ticks)]).bind fun x5 =>
   some (.inl ((w64 (s4.1 + 1)),x5)))
 else
  some (.inr (.go s4.2)))
def Z2m (f:Form) (m:Int):Option (Form × Int) :=
 (bif ((decide (m < (-1099511627776))) || (decide (m > 1099511627776))) then
  some ((Form.mk 0 0 [] []),2)
 else
  (loopO (Z2m.s0 f m) (0,[])).bind fun (y1:Jx ((List (List Span))) (Form × Int)) =>
  y1.elim (fun r' =>
    some r') fun a2 =>
  (loopO (Z2m.s1 f m) (0,[])).bind fun (y2:Jx ((List Granule)) (Form × Int)) =>
  y2.elim (fun r' =>
    some r') fun a4 =>
  (Z6Y (Form.mk f.Period f.Count a2 a4)).bind fun x6 =>
  some (x6.1,x6.2))
def Z2P.s0 (f:Form) (n:Int) (s2:Int × Bool × (List Granule)):Option ((Int × Bool × (List Granule)) ⊕ (Jx ((List Granule)) (Form × Int))) :=
 (bif (s2.2.1 && (decide (s2.1≤n))) then
  (bif ((s2.2.2.length:Int) == 6000) then
   some (.inr (.ret ((Form.mk 0 0 [] []),3)))
  else
   (app? 32 s2.2.2 [(Granule.mk s2.1 [])]).bind fun x2 =>
   (Z55 f s2.1).bind fun x3 =>
   some (.inl (x3.1,x3.2,x2)))
 else
  some (.inr (.go s2.2.2)))
def Z2P.s1 (f:Form) (s3:Int × (List Granule)):Option ((Int × (List Granule)) ⊕ (Jx ((List Granule)) (Form × Int))) :=
 (bif (decide (s3.1 < (s3.2.length:Int))) then
  (at? s3.2 s3.1).bind fun x4 =>
  (Z4i f x4.Index).bind fun x5 =>
  (bif (x5.2 != 0) then
   some (.inr (.ret ((Form.mk 0 0 [] []),20)))
  else
   (at? s3.2 s3.1).bind fun x6 =>
   some (.inl ((w64 (s3.1 + 1)),(s3.2.set (s3.1).toNat (Granule.mk x6.Index x5.1)))))
 else
  some (.inr (.go s3.2)))
def Z2P (f:Form) (m:Int) (n:Int):Option (Form × Int) :=
 (bif (((decide (m < (-1099511627776))) || (decide (n > 1099511627776))) || (decide (m > n))) then
  some ((Form.mk 0 0 [] []),2)
 else
  (Z0P f m 1).bind fun x1 =>
  (loopO (Z2P.s0 f n) (x1.1,x1.2,[])).bind fun (y1:Jx ((List Granule)) (Form × Int)) =>
  y1.elim (fun r' =>
    some r') fun a2 =>
  (loopO (Z2P.s1 f) (0,a2)).bind fun (y2:Jx ((List Granule)) (Form × Int)) =>
  y2.elim (fun r' =>
    some r') fun a4 =>
  (Z6Y (Form.mk 0 0 [] a4)).bind fun x7 =>
  some (x7.1,x7.2))
def ZV (l:(List Span)) (in':Bool):Option (Int) :=
 (bif in' then
  (at? l 0).bind fun x1 =>
  some (w64 (x1.To + 1))
 else
  (at? l 0).bind fun x2 =>
  some x2.From)
def Z0Y (l:(List Span)) (in':Bool) (at':Int):Option ((List Span) × Bool) :=
 (
  (bif ((decide ((l.length:Int) > 0)) && in') then
   (at? l 0).bind fun x1 =>
   some ((w64 (x1.To + 1)) == at')
  else
   some false)).bind fun (y1:Bool) =>
 (bif y1 then
  (cut? l 1 (l.length:Int)).bind fun x2 =>
  some (x2,false)
 else
  (
   (bif ((decide ((l.length:Int) > 0)) && (!in')) then
    (at? l 0).bind fun x3 =>
    some (x3.From == at')
   else
    some false)).bind fun (y2:Bool) =>
  (bif y2 then
   some (l,true)
  else
   some (l,in')))
def Z0F.s0 {S:Type} (gp1':S→(List Span)) (pp1':S→(List Span)→S) (gp2':S→(List Span)) (pp2':S→(List Span)→S) (yield:S→spans_border→Option (S × Bool)) (s1:Bool × Bool × S):Option ((Bool × Bool × S) ⊕ (Jx (S) (S))) :=
 (bif (decide ((w64 (((gp1' s1.2.2).length:Int) + ((gp2' s1.2.2).length:Int))) > 0)) then
  (
   (
    (
     (bif (((gp1' s1.2.2).length:Int) == 0) then
      (ZV (gp2' s1.2.2) s1.2.1).bind fun x1 =>
      some x1
     else
      (bif (((gp2' s1.2.2).length:Int) == 0) then
       (ZV (gp1' s1.2.2) s1.1).bind fun x2 =>
       some x2
      else
       (ZV (gp1' s1.2.2) s1.1).bind fun x3 =>
       (ZV (gp2' s1.2.2) s1.2.1).bind fun x4 =>
       some (iMin x3 x4)))).bind fun (y4:Int) =>
    some y4).bind fun (y3:Int) =>
   (Z0Y (gp1' s1.2.2) s1.1 y3).bind fun x5 =>
   (Z0Y (gp2' (pp1' s1.2.2 x5.1)) s1.2.1 y3).bind fun x6 =>
   (yield (pp2' (pp1' s1.2.2 x5.1) x6.1) (spans_border.mk y3 x5.2 x6.2)).bind fun x7 =>
   (bif (!x7.2) then
    some (.ret x7.1)
   else
    some (.go (x5.2,x6.2,x7.1)))).bind fun (y2:Jx (Bool × Bool × S) (S)) =>
  y2.elim (fun r' =>
    some (.inr (.ret r'))) fun a3 =>
  some (.inl (a3.1,a3.2.1,a3.2.2))
 else
  some (.inr (.go s1.2.2)))
def Z0F {S:Type} (gp1':S→(List Span)) (pp1':S→(List Span)→S) (gp2':S→(List Span)) (pp2':S→(List Span)→S) (yield:S→spans_border→Option (S × Bool)) (st':S):Option (S) :=
 (loopO (Z0F.s0 gp1' pp1' gp2' pp2' yield) (false,false,st')).bind fun (y1:Jx (S) (S)) =>
 y1.elim (fun r' =>
   some r') fun a4 =>
 some a4
def Z1L.b0 (yes:Bool→Bool→Option Bool) (s2:(List Span) × (List Span) × (List Span) × Int × Bool) (z2:spans_border):Option (((List Span) × (List Span) × (List Span) × Int × Bool) × Nat) :=
 (
  (
   (yes z2.a z2.b).bind fun x1 =>
   (
    (
     (bif (x1 && (!s2.2.2.2.2)) then
      some (s2.1,z2.at')
     else
      (bif ((!x1) && s2.2.2.2.2) then
       (app? 16 s2.1 [(Span.mk s2.2.2.2.1 (w64 (z2.at' - 1)))]).bind fun x2 =>
       some (x2,s2.2.2.2.1)
      else
       some (s2.1,s2.2.2.2.1)))).bind fun (y6:(List Span) × Int) =>
    some (y6.1,y6.2)).bind fun (y5:(List Span) × Int) =>
   some (y5.1,y5.2,x1)).bind fun (y4:(List Span) × Int × Bool) =>
  some (y4.1,y4.2.1,y4.2.2)).bind fun (y3:(List Span) × Int × Bool) =>
 some ((y3.1,s2.2.1,s2.2.2.1,y3.2.1,y3.2.2),0)
def Z1L (a:(List Span)) (b:(List Span)) (yes:Bool→Bool→Option Bool):Option ((List Span)) :=
 (
  some ()).bind fun (y1:Unit) =>
 (Z0F (fun s => s.1.2.2.1) (fun s v => ((s.1.1,s.1.2.1,v,s.1.2.2.2.1,s.1.2.2.2.2),s.2)) (fun s => s.1.2.1) (fun s v => ((s.1.1,v,s.1.2.2.1,s.1.2.2.2.1,s.1.2.2.2.2),s.2)) (Z1Q (Z1L.b0 yes)) (([],b,a,0,false),0)).bind fun (y2:((List Span) × (List Span) × (List Span) × Int × Bool) × Nat) =>
 some y2.1.1
def Z2H (a:Bool) (b:Bool):Bool :=
 (a || b)
def Z46 (a:(List Span)) (b:(List Span)):Option ((List Span)) :=
 (Z1L a b (fun z0 z1 => some (Z2H z0 z1))).bind fun x1 =>
 some x1
def Z05.s0 (f:Form) (from':Int) (many:Int) (s1:(List Span) × Int):Option (((List Span) × Int) ⊕ (Jx ((List Span)) ((List Span) × Bool))) :=
 (bif (decide (s1.2 < (w64 (from' + many)))) then
  (Zt f s1.2).bind fun x1 =>
  (bif (x1.2 != 0) then
   some (.inr (.ret ([],false)))
  else
   (Z46 s1.1 x1.1).bind fun x2 =>
   some (.inl (x2,(w64 (s1.2 + 1)))))
 else
  some (.inr (.go s1.1)))
def Z05 (f:Form) (from':Int) (many:Int):Option ((List Span) × Bool) :=
 (loopO (Z05.s0 f from' many) ([],from')).bind fun (y1:Jx ((List Span)) ((List Span) × Bool)) =>
 y1.elim (fun r' =>
   some r') fun a2 =>
 some (a2,true)
def Z2o (f:Form) (i:Int) (want:(List Span)):Option (Bool) :=
 (Zt f i).bind fun x1 =>
 (
  (bif (x1.2 == 0) then
   (Z0B x1.1 want).bind fun x2 =>
   some x2
  else
   some false)).bind fun (y1:Bool) =>
 (
  (bif y1 then
   (Zn f).bind fun x3 =>
   some (x3 == 0)
  else
   some false)).bind fun (y2:Bool) =>
 (
  (bif y2 then
   (Z4E f).bind fun x4 =>
   some x4
  else
   some false)).bind fun (y3:Bool) =>
 some y3
def ZY.s0 (f:Form) (m:Int) (at':Int) (x2:Form × Int) (s1:Int):Option ((Int) ⊕ (Jx (Unit) (Bool))) :=
 (bif (decide (s1 < ([((w64 at').fdiv (2 ^ 7)),0,(-1),(((w64 at').fdiv (2 ^ 7)).tmod 8)].length:Int))) then
  (at? [((w64 at').fdiv (2 ^ 7)),0,(-1),(((w64 at').fdiv (2 ^ 7)).tmod 8)] s1).bind fun x4 =>
  (Z05 f (w64 (x4 * (w64 (1 + ((w64 m).tmod 100))))) (w64 (1 + ((w64 m).tmod 100)))).bind fun x5 =>
  (
   (bif x5.2 then
    (Z2o x2.1 x4 x5.1).bind fun x6 =>
    some (!x6)
   else
    some false)).bind fun (y3:Bool) =>
  (bif y3 then
   some (.inr (.ret false))
  else
   some (.inl (w64 (s1 + 1))))
 else
  some (.inr (.go ())))
def ZY (f:Form) (m:Int) (at':Int):Option (Bool) :=
 (Z1G f).bind fun x1 =>
 (bif (!x1) then
  some Z0T
 else
  (Zg f (w64 (1 + ((w64 m).tmod 100)))).bind fun x2 =>
  (bif (x2.2 != 0) then
   (
    (bif ((x2.2 == 20) || (x2.2 == 3)) then
     (ZD x2.1 (Form.mk 0 0 [] [])).bind fun x3 =>
     some x3
    else
     some false)).bind fun (y1:Bool) =>
   some (y1 && Z0T)
  else
   (loopO (ZY.s0 f m at' x2) 0).bind fun (y2:Jx (Unit) (Bool)) =>
   y2.elim (fun r' =>
     some r') fun a2 =>
   some Z0T))
end
end Go.Dn

namespace Go.Dn
open Go
noncomputable section
def Le {α:Type} (a b:Option α):Prop:=∀ r,a = some r→b = some r
theorem Le.refl {α:Type} (a:Option α):Le a a:=fun _ h => h
theorem Le.bind {α β:Type} {a b:Option α} {f g:α→Option β} (h:Le a b) (hf:∀ x,Le (f x) (g x)):Le (a.bind f) (b.bind g):=fun r hr => by
 cases ha:a with
 | none => rw [ha] at hr;cases hr
 | some x => rw [ha] at hr;rw [h x ha];exact hf x r hr
theorem Le.cond {α:Type} {c:Bool} {a b a' b':Option α} (h:Le a a') (h':Le b b'):Le (bif c then a else b) (bif c then a' else b'):=by
 cases c
 ·exact h'
 ·exact h
theorem Le.elim {A B C:Type} {y:Jx A B} {f f':B→Option C} {g g':A→Option C} (h:∀ r,Le (f r) (f' r)) (h':∀ a,Le (g a) (g' a)):Le (y.elim f g) (y.elim f' g'):=by
 cases y
 ·exact h' _
 ·exact h _
theorem Le.Z1Q {S T:Type} {f g:S→T→Option (S × Nat)} (h:∀ s t,Le (f s t) (g s t)) (s:S × Nat) (t:T):Le (Z1Q f s t) (Z1Q g s t):=fun r hr => by
 unfold Go.Dn.Z1Q at hr ⊢
 split at hr
 ·rename_i h0;rw [if_pos h0];cases ha:f s.1 t with
  | none => rw [ha] at hr;cases hr
  | some x => rw [ha] at hr;rw [h _ _ x ha];exact hr
 ·cases hr
def Z1a {S R:Type} (step:S→Option (S ⊕ R)) (s:S):Option R:=Z3a step 1000000 s
theorem iterO_le {S R:Type} {step step':S→Option (S ⊕ R)} (h:∀ s,Le (step s) (step' s)):∀ (n:Nat) (s:S),Le (Z3a step n s) (Z3a step' n s)
 | 0,s => fun r hr => by cases hr
 | n + 1,s => fun r hr => by
  simp only [Z3a] at hr ⊢;cases hs:step s with
  | none => rw [hs] at hr;cases hr
  | some x =>
   rw [hs] at hr;rw [h s x hs];cases x with
   | inl s' => exact iterO_le h n s' r hr
   | inr r' => exact hr
theorem Le.loop {S R:Type} {step step':S→Option (S ⊕ R)} {s:S} (h:∀ s,Le (step s) (step' s)):Le (Z1a step s) (loopO step' s):=fun r hr => ZK.2 ⟨1000000,iterO_le h _ s r hr⟩
def Z6I (f:Form):Option (Int) :=
 (Z1a (Zw.s0 f) (0,0)).bind fun (y1:Int) =>
 (Z1a (Zw.s1 f) (y1,0)).bind fun (y2:Int) =>
 some y2
theorem ZBQ {f:Form}:Le (Z6I f) (Zw f):=by
 unfold Z6I Zw
 repeat' (with_reducible (first | exact Le.refl _ | apply Le.bind | apply Le.loop | intro _))
def Z3N (l:(List Span)):Option (Bool) :=
 (Z1a (Zy.s0 l) 0).bind fun (y1:Jx (Unit) (Bool)) =>
 y1.elim (fun r' =>
   some r') fun a2 =>
 some true
theorem Z5c {l:(List Span)}:Le (Z3N l) (Zy l):=by
 unfold Z3N Zy
 repeat' (with_reducible (first | exact Le.refl _ | apply Le.bind | apply Le.elim | apply Le.loop | intro _))
def Z0N.s0 (f:Form) (s1:Int):Option ((Int) ⊕ (Jx (Unit) (Bool))) :=
 (bif (decide (s1 < (f.Core.length:Int))) then
  (at? f.Core s1).bind fun x1 =>
  (Z3N x1).bind fun x2 =>
  (bif (!x2) then
   some (.inr (.ret false))
  else
   some (.inl (w64 (s1 + 1))))
 else
  some (.inr (.go ())))
theorem Z83 {f:Form} {s1:Int}:Le (Z0N.s0 f s1) (ZZ.s0 f s1):=by
 unfold Z0N.s0 ZZ.s0
 repeat' (with_reducible (first | exact Le.refl _ | apply Le.bind | apply Le.cond | apply Z5c | intro _))
def Z0N.s1 (f:Form) (s2:Int):Option ((Int) ⊕ (Jx (Unit) (Bool))) :=
 (bif (decide (s2 < (f.Odd.length:Int))) then
  (at? f.Odd s2).bind fun x3 =>
  (Z3N x3.Ticks).bind fun x4 =>
  (
   (bif ((!x4) || (!(Z0W x3.Index))) then
    some true
   else
    (
     (bif (decide (s2 > 0)) then
      (at? f.Odd (w64 (s2 - 1))).bind fun x5 =>
      some (decide (x3.Index≤x5.Index))
     else
      some false)).bind fun (y4:Bool) =>
    some y4)).bind fun (y3:Bool) =>
  (bif y3 then
   some (.inr (.ret false))
  else
   some (.inl (w64 (s2 + 1))))
 else
  some (.inr (.go ())))
theorem Z8H {f:Form} {s2:Int}:Le (Z0N.s1 f s2) (ZZ.s1 f s2):=by
 unfold Z0N.s1 ZZ.s1
 repeat' (with_reducible (first | exact Le.refl _ | apply Le.bind | apply Le.cond | apply Z5c | intro _))
def Z0N (f:Form):Option (Bool) :=
 (bif ((((f.Count != (f.Core.length:Int)) || ((f.Count == 0) != (f.Period == 0))) || (decide (f.Period < 0))) || (decide (f.Period > 1099511627776))) then
  some false
 else
  (Z1a (Z0N.s0 f) 0).bind fun (y1:Jx (Unit) (Bool)) =>
  y1.elim (fun r' =>
    some r') fun a2 =>
  (Z1a (Z0N.s1 f) 0).bind fun (y2:Jx (Unit) (Bool)) =>
  y2.elim (fun r' =>
    some r') fun a4 =>
  some true)
theorem ZAU {f:Form}:Le (Z0N f) (ZZ f):=by
 unfold Z0N ZZ
 repeat' (with_reducible (first | exact Le.refl _ | apply Le.bind | apply Le.cond | apply Le.elim | apply Le.loop | apply Z83 | apply Z8H | intro _))
def Z5N (f:Form):Option (Bool) :=
 (Z1a (Z03.s0 f) (0,[])).bind fun (y1:(List (List Span))) =>
 (Z1a (Z03.s1 f y1) 0).bind fun (y4:Jx (Unit) (Bool)) =>
 y4.elim (fun r' =>
   some r') fun a6 =>
 some true
theorem ZAf {f:Form}:Le (Z5N f) (Z03 f):=by
 unfold Z5N Z03
 repeat' (with_reducible (first | exact Le.refl _ | apply Le.bind | apply Le.elim | apply Le.loop | intro _))
def ZC.s0 (x':(List Granule)) (target:Int) (cmp:Granule→Int→Option Int) (s1:Int × Int):Option ((Int × Int) ⊕ (Int)) :=
 (bif (decide (s1.1 < s1.2)) then
  (
   (at? x' (w64 ((IntKind.u64.wrap (w64 (s1.1 + s1.2))).fdiv (2 ^ 1)))).bind fun x1 =>
   (cmp x1 target).bind fun x2 =>
   (bif (decide (x2 < 0)) then
    some ((w64 ((w64 ((IntKind.u64.wrap (w64 (s1.1 + s1.2))).fdiv (2 ^ 1))) + 1)),s1.2)
   else
    some (s1.1,(w64 ((IntKind.u64.wrap (w64 (s1.1 + s1.2))).fdiv (2 ^ 1)))))).bind fun (y2:Int × Int) =>
  some (.inl (y2.1,y2.2))
 else
  some (.inr s1.1))
theorem Z14 {x':(List Granule)} {target:Int} {cmp cmp_:Granule→Int→Option Int} {s1:Int × Int} (h_cmp:∀ z0 z1,Le (cmp z0 z1) (cmp_ z0 z1)):Le (ZC.s0 x' target cmp s1) (Z1.s0 x' target cmp_ s1):=by
 unfold ZC.s0 Z1.s0
 repeat' (with_reducible (first | exact Le.refl _ | exact h_cmp _ _ | exact h_cmp | apply Le.bind | apply Le.cond | intro _))
def ZC (x':(List Granule)) (target:Int) (cmp:Granule→Int→Option Int):Option (Int × Bool) :=
 (Z1a (ZC.s0 x' target cmp) (0,(x'.length:Int))).bind fun (y1:Int) =>
 (
  (bif (decide (y1 < (x'.length:Int))) then
   (at? x' y1).bind fun x3 =>
   (cmp x3 target).bind fun x4 =>
   some (x4 == 0)
  else
   some false)).bind fun (y3:Bool) =>
 some (y1,y3)
theorem Z1O {x':(List Granule)} {target:Int} {cmp cmp_:Granule→Int→Option Int} (h_cmp:∀ z0 z1,Le (cmp z0 z1) (cmp_ z0 z1)):Le (ZC x' target cmp) (Z1 x' target cmp_):=by
 unfold ZC Z1
 repeat' (with_reducible (first | exact Le.refl _ | exact h_cmp _ _ | exact h_cmp | apply Le.bind | apply Le.cond | apply Le.loop | apply Z14 | intro _))
def Z5B (f:Form) (i:Int):Option (Int × Bool) :=
 (ZC f.Odd i (fun z0 z1 => some (Z35 z0 z1))).bind fun x1 =>
 some (x1.1,x1.2)
theorem Z7k {f:Form} {i:Int}:Le (Z5B f i) (Z48 f i):=by
 unfold Z5B Z48
 repeat' (with_reducible (first | exact Le.refl _ | apply Le.bind | apply Z1O | intro _))
def Z4Q (f:Form) (i:Int):Option ((List Span) × Int × Int) :=
 (Z5B f i).bind fun x1 =>
 (bif x1.2 then
  (at? f.Odd x1.1).bind fun x2 =>
  some (x2.Ticks,0,0)
 else
  (bif (f.Count == 0) then
   some ([],0,0)
  else
   (Z0X i f.Count).bind fun x3 =>
   (at? f.Core x3.2.1).bind fun x4 =>
   some (x4,(Za x3.1 f.Period).1,(Za x3.1 f.Period).2)))
theorem Z77 {f:Form} {i:Int}:Le (Z4Q f i) (Z2F f i):=by
 unfold Z4Q Z2F
 repeat' (with_reducible (first | exact Le.refl _ | apply Le.bind | apply Le.cond | apply Z7k | intro _))
def Z3t (l:(List Span)) (by':Int):Option ((List Span) × Int) :=
 (Z1a (Z02.s0 l by') (0,[])).bind fun (y1:Jx ((List Span)) ((List Span) × Int)) =>
 y1.elim (fun r' =>
   some r') fun a2 =>
 some (a2,0)
theorem Z6T {l:(List Span)} {by':Int}:Le (Z3t l by') (Z02 l by'):=by
 unfold Z3t Z02
 repeat' (with_reducible (first | exact Le.refl _ | apply Le.bind | apply Le.elim | apply Le.loop | intro _))
def Z1W (f:Form) (i:Int):Option ((List Span) × Int) :=
 (bif (!(Z0W i)) then
  some ([],20)
 else
  (Z4Q f i).bind fun x1 =>
  (bif ((x1.1.length:Int) == 0) then
   some ([],0)
  else
   (bif (x1.2.2 != 0) then
    some ([],20)
   else
    (Z3t x1.1 x1.2.1).bind fun x2 =>
    some (x2.1,x2.2))))
theorem Z2w {f:Form} {i:Int}:Le (Z1W f i) (Zt f i):=by
 unfold Z1W Zt
 repeat' (with_reducible (first | exact Le.refl _ | apply Le.bind | apply Le.cond | apply Z77 | apply Z6T | intro _))
def ZQ.s0 (s:(List (List Span))) (f:(List Span)→Option Bool) (s1:Int):Option ((Int) ⊕ (Jx (Unit) (Int))) :=
 (bif (decide (s1 < (s.length:Int))) then
  (at? s s1).bind fun x1 =>
  (f x1).bind fun x2 =>
  (bif x2 then
   some (.inr (.ret s1))
  else
   some (.inl (w64 (s1 + 1))))
 else
  some (.inr (.go ())))
theorem Z2h {s:(List (List Span))} {f f_:(List Span)→Option Bool} {s1:Int} (h_f:∀ z0,Le (f z0) (f_ z0)):Le (ZQ.s0 s f s1) (Z7.s0 s f_ s1):=by
 unfold ZQ.s0 Z7.s0
 repeat' (with_reducible (first | exact Le.refl _ | exact h_f _ | exact h_f | apply Le.bind | apply Le.cond | intro _))
def ZQ (s:(List (List Span))) (f:(List Span)→Option Bool):Option (Int) :=
 (Z1a (ZQ.s0 s f) 0).bind fun (y1:Jx (Unit) (Int)) =>
 y1.elim (fun r' =>
   some r') fun a2 =>
 some (-1)
theorem Z34 {s:(List (List Span))} {f f_:(List Span)→Option Bool} (h_f:∀ z0,Le (f z0) (f_ z0)):Le (ZQ s f) (Z7 s f_):=by
 unfold ZQ Z7
 repeat' (with_reducible (first | exact Le.refl _ | exact h_f _ | exact h_f | apply Le.bind | apply Le.elim | apply Le.loop | apply Z2h | intro _))
def Z06 (s:(List (List Span))) (f:(List Span)→Option Bool):Option (Bool) :=
 (ZQ s f).bind fun x1 =>
 some (decide (x1 ≥ 0))
theorem Z0o {s:(List (List Span))} {f f_:(List Span)→Option Bool} (h_f:∀ z0,Le (f z0) (f_ z0)):Le (Z06 s f) (ZM s f_):=by
 unfold Z06 ZM
 repeat' (with_reducible (first | exact Le.refl _ | exact h_f _ | exact h_f | apply Le.bind | apply Z34 | intro _))
def Z66 (f:Form):Option (Bool) :=
 (Z06 f.Core (fun z0 => some (Z4B z0))).bind fun x1 =>
 some (!x1)
theorem ZB7 {f:Form}:Le (Z66 f) (Z2i f):=by
 unfold Z66 Z2i
 repeat' (with_reducible (first | exact Le.refl _ | apply Le.bind | apply Z0o | intro _))
def Z6A (f:Form) (i:Int):Option (Bool) :=
 (Z4Q f i).bind fun x1 =>
 some (decide ((x1.1.length:Int) > 0))
theorem ZB8 {f:Form} {i:Int}:Le (Z6A f i) (Z3g f i):=by
 unfold Z6A Z3g
 repeat' (with_reducible (first | exact Le.refl _ | apply Le.bind | apply Z77 | intro _))
def Z1Y.s1 (f:Form) (by':Int) (s2:Int):Option ((Int) ⊕ (Jx (Unit) (Int × Bool))) :=
 (bif (Z0W s2) then
  (Z6A f s2).bind fun x5 =>
  (bif x5 then
   some (.inr (.ret (s2,true)))
  else
   some (.inl (w64 (s2 + by'))))
 else
  some (.inr (.go ())))
theorem Z9G {f:Form} {by':Int} {s2:Int}:Le (Z1Y.s1 f by' s2) (Zj.s1 f by' s2):=by
 unfold Z1Y.s1 Zj.s1
 repeat' (with_reducible (first | exact Le.refl _ | apply Le.bind | apply Le.cond | apply ZB8 | intro _))
def Z1Y (f:Form) (from':Int) (by':Int):Option (Int × Bool) :=
 (Z66 f).bind fun x1 =>
 (bif x1 then
  (Z5B f from').bind fun x2 =>
  (
   (bif ((decide (by' < 0)) && (!x2.2)) then
    some (w64 (x2.1 - 1))
   else
    some x2.1)).bind fun (y1:Int) =>
  (Z1a (Zj.s0 f by') y1).bind fun (y2:Jx (Unit) (Int × Bool)) =>
  y2.elim (fun r' =>
    some r') fun a2 =>
  some (0,false)
 else
  (Z1a (Z1Y.s1 f by') from').bind fun (y3:Jx (Unit) (Int × Bool)) =>
  y3.elim (fun r' =>
    some r') fun a4 =>
  some (0,false))
theorem Z7F {f:Form} {from':Int} {by':Int}:Le (Z1Y f from' by') (Zj f from' by'):=by
 unfold Z1Y Zj
 repeat' (with_reducible (first | exact Le.refl _ | apply Le.bind | apply Le.cond | apply Le.elim | apply Le.loop | apply ZB7 | apply Z7k | apply Z9G | intro _))
def Z4j (f:Form) (i:Int):Option (Int × Bool) :=
 (bif (decide (i≤(-1099511627776))) then
  some (0,false)
 else
  (Z1Y f (iMin (w64 (i - 1)) 1099511627776) (-1)).bind fun x1 =>
  some (x1.1,x1.2))
theorem Z9T {f:Form} {i:Int}:Le (Z4j f i) (Z18 f i):=by
 unfold Z4j Z18
 repeat' (with_reducible (first | exact Le.refl _ | apply Le.bind | apply Le.cond | apply Z7F | intro _))
def Z2c (f:Form) (i:Int):Option (Int × Bool) :=
 (bif (decide (i ≥ 1099511627776)) then
  some (0,false)
 else
  (Z1Y f (iMax (w64 (i + 1)) (-1099511627776)) 1).bind fun x1 =>
  some (x1.1,x1.2))
theorem Z3p {f:Form} {i:Int}:Le (Z2c f i) (Z0n f i):=by
 unfold Z2c Z0n
 repeat' (with_reducible (first | exact Le.refl _ | apply Le.bind | apply Le.cond | apply Z7F | intro _))
def Z4z (f:Form) (i:Int):Option (Bool) :=
 (Z1W f i).bind fun x1 =>
 (bif (x1.2 != 0) then
  some false
 else
  (Z4j f i).bind fun x2 =>
  (Z2c f i).bind fun x3 =>
  (
   (bif x2.2 then
    (Z1W f x2.1).bind fun x4 =>
    (bif (x4.2 != 0) then
     some (.ret false)
    else
     some (.go x4.1))
   else
    some (.go []))).bind fun (y1:Jx ((List Span)) (Bool)) =>
  y1.elim (fun r' =>
    some r') fun a2 =>
  (
   (bif x3.2 then
    (Z1W f x3.1).bind fun x5 =>
    (bif (x5.2 != 0) then
     some (.ret false)
    else
     some (.go x5.1))
   else
    some (.go []))).bind fun (y2:Jx ((List Span)) (Bool)) =>
  y2.elim (fun r' =>
    some r') fun a4 =>
  (Z0L a2 x1.1).bind fun x6 =>
  (
   (bif x6 then
    (Z0L x1.1 a4).bind fun x7 =>
    some x7
   else
    some false)).bind fun (y3:Bool) =>
  (
   (bif y3 then
    (Z0L a2 a4).bind fun x8 =>
    some x8
   else
    some false)).bind fun (y4:Bool) =>
  some y4)
theorem Z9j {f:Form} {i:Int}:Le (Z4z f i) (Z1U f i):=by
 unfold Z4z Z1U
 repeat' (with_reducible (first | exact Le.refl _ | apply Le.bind | apply Le.cond | apply Le.elim | apply Z2w | apply Z9T | apply Z3p | intro _))
def Z1j.s0 (f:Form) (s1:Int):Option ((Int) ⊕ (Jx (Unit) (Int))) :=
 (bif (decide (s1 < (f.Odd.length:Int))) then
  (at? f.Odd s1).bind fun x4 =>
  (Z4z f x4.Index).bind fun x5 =>
  (bif (!x5) then
   some (.inr (.ret 50))
  else
   some (.inl (w64 (s1 + 1))))
 else
  some (.inr (.go ())))
theorem Z8Z {f:Form} {s1:Int}:Le (Z1j.s0 f s1) (Zn.s0 f s1):=by
 unfold Z1j.s0 Zn.s0
 repeat' (with_reducible (first | exact Le.refl _ | apply Le.bind | apply Le.cond | apply Z9j | intro _))
def Z1j (f:Form):Option (Int) :=
 (
  (bif ((decide ((f.Core.length:Int) > 6000)) || (decide ((f.Odd.length:Int) > 6000))) then
   some true
  else
   (Z6I f).bind fun x1 =>
   some (decide (x1 > 60000)))).bind fun (y1:Bool) =>
 (bif y1 then
  some 3
 else
  (Z0N f).bind fun x2 =>
  (
   (bif (!x2) then
    some true
   else
    (Z5N f).bind fun x3 =>
    some (!x3))).bind fun (y2:Bool) =>
  (bif y2 then
   some 50
  else
   (Z1a (Z1j.s0 f) 0).bind fun (y3:Jx (Unit) (Int)) =>
   y3.elim (fun r' =>
     some r') fun a2 =>
   some 0))
theorem ZAX {f:Form}:Le (Z1j f) (Zn f):=by
 unfold Z1j Zn
 repeat' (with_reducible (first | exact Le.refl _ | apply Le.bind | apply Le.cond | apply Le.elim | apply Le.loop | apply ZBQ | apply ZAU | apply ZAf | apply Z8Z | intro _))
def Z1I (s1':(List Span)) (s2':(List Span)):Option (Bool) :=
 (bif ((s1'.length:Int) != (s2'.length:Int)) then
  some false
 else
  (Z1a (ZJ.s0 s1' s2') 0).bind fun (y1:Jx (Unit) (Bool)) =>
  y1.elim (fun r' =>
    some r') fun a2 =>
  some true)
theorem Z4M {s1':(List Span)} {s2':(List Span)}:Le (Z1I s1' s2') (ZJ s1' s2'):=by
 unfold Z1I ZJ
 repeat' (with_reducible (first | exact Le.refl _ | apply Le.bind | apply Le.cond | apply Le.elim | apply Le.loop | intro _))
def Z5V (a:(List Span)) (b:(List Span)):Option (Bool) :=
 (Z1I a b).bind fun x1 =>
 some x1
theorem ZAZ {a:(List Span)} {b:(List Span)}:Le (Z5V a b) (Z0B a b):=by
 unfold Z5V Z0B
 repeat' (with_reducible (first | exact Le.refl _ | apply Le.bind | apply Z4M | intro _))
def ZE.s0 (s1':(List Span)) (s2':(List Span)) (eq:Span→Span→Option Bool) (s1:Int):Option ((Int) ⊕ (Jx (Unit) (Bool))) :=
 (bif (decide (s1 < (s1'.length:Int))) then
  (at? s1' s1).bind fun x1 =>
  (at? s2' s1).bind fun x2 =>
  (eq x1 x2).bind fun x3 =>
  (bif (!x3) then
   some (.inr (.ret false))
  else
   some (.inl (w64 (s1 + 1))))
 else
  some (.inr (.go ())))
theorem Z1i {s1':(List Span)} {s2':(List Span)} {eq eq_:Span→Span→Option Bool} {s1:Int} (h_eq:∀ z0 z1,Le (eq z0 z1) (eq_ z0 z1)):Le (ZE.s0 s1' s2' eq s1) (Z5.s0 s1' s2' eq_ s1):=by
 unfold ZE.s0 Z5.s0
 repeat' (with_reducible (first | exact Le.refl _ | exact h_eq _ _ | exact h_eq | apply Le.bind | apply Le.cond | intro _))
def ZE (s1':(List Span)) (s2':(List Span)) (eq:Span→Span→Option Bool):Option (Bool) :=
 (bif ((s1'.length:Int) != (s2'.length:Int)) then
  some false
 else
  (Z1a (ZE.s0 s1' s2' eq) 0).bind fun (y1:Jx (Unit) (Bool)) =>
  y1.elim (fun r' =>
    some r') fun a2 =>
  some true)
theorem Z1t {s1':(List Span)} {s2':(List Span)} {eq eq_:Span→Span→Option Bool} (h_eq:∀ z0 z1,Le (eq z0 z1) (eq_ z0 z1)):Le (ZE s1' s2' eq) (Z5 s1' s2' eq_):=by
 unfold ZE Z5
 repeat' (with_reducible (first | exact Le.refl _ | exact h_eq _ _ | exact h_eq | apply Le.bind | apply Le.cond | apply Le.elim | apply Le.loop | apply Z1i | intro _))
def Z2Q (a:(List Span)) (b:(List Span)):Option (Bool) :=
 (bif ((a.length:Int) != (b.length:Int)) then
  some false
 else
  (Z1a (ZR.s0 a b) 0).bind fun (y1:Jx (Unit) (Bool)) =>
  y1.elim (fun r' =>
    some r') fun a2 =>
  some true)
theorem Z7W {a:(List Span)} {b:(List Span)}:Le (Z2Q a b) (ZR a b):=by
 unfold Z2Q ZR
 repeat' (with_reducible (first | exact Le.refl _ | apply Le.bind | apply Le.cond | apply Le.elim | apply Le.loop | intro _))
def Z5T (f:Form):Option (Bool) :=
 (Z06 f.Core (fun z0 => some (Z4S z0))).bind fun x1 =>
 some (!x1)
theorem ZAa {f:Form}:Le (Z5T f) (Z39 f):=by
 unfold Z5T Z39
 repeat' (with_reducible (first | exact Le.refl _ | apply Le.bind | apply Z0o | intro _))
def Z0K.s0 (p1':Int) {S:Type} (yield:S→Int→Option (S × Bool)) (s1:Int × S):Option ((Int × S) ⊕ (Jx (S) (S))) :=
 (bif (decide (s1.1≤p1')) then
  (nz? s1.1).bind fun u1 =>
  (
   (bif ((p1'.tmod s1.1) == 0) then
    (yield s1.2 s1.1).bind fun x1 =>
    some ((!x1.2),x1.1)
   else
    some (false,s1.2))).bind fun (y2:Bool × S) =>
  (bif y2.1 then
   some (.inr (.ret y2.2))
  else
   some (.inl ((w64 (s1.1 + 1)),y2.2)))
 else
  some (.inr (.go s1.2)))
theorem Z5a {p1':Int} {S:Type} {yield yield_:S→Int→Option (S × Bool)} {s1:Int × S} (h_yield:∀ z0 z1,Le (yield z0 z1) (yield_ z0 z1)):Le (Z0K.s0 p1' yield s1) (Zk.s0 p1' yield_ s1):=by
 unfold Z0K.s0 Zk.s0
 repeat' (with_reducible (first | exact Le.refl _ | exact h_yield _ _ | exact h_yield | apply Le.bind | apply Le.cond | intro _))
def Z0K {S:Type} (p1':Int) (yield:S→Int→Option (S × Bool)) (st':S):Option (S) :=
 (Z1a (Z0K.s0 p1' yield) (1,st')).bind fun (y1:Jx (S) (S)) =>
 y1.elim (fun r' =>
   some r') fun a2 =>
 some a2
theorem Z6c {S:Type} {p1':Int} {yield yield_:S→Int→Option (S × Bool)} {st':S} (h_yield:∀ z0 z1,Le (yield z0 z1) (yield_ z0 z1)):Le (Z0K p1' yield st') (Zk p1' yield_ st'):=by
 unfold Z0K Zk
 repeat' (with_reducible (first | exact Le.refl _ | exact h_yield _ _ | exact h_yield | apply Le.bind | apply Le.elim | apply Le.loop | apply Z5a | intro _))
def Z3c (a:(List Span)) (b:(List Span)) (by':Int):Option (Bool) :=
 (ZE a b (fun z0 z1 => some (Z0s z0 z1 by'))).bind fun x1 =>
 some x1
theorem Z87 {a:(List Span)} {b:(List Span)} {by':Int}:Le (Z3c a b by') (Z1k a b by'):=by
 unfold Z3c Z1k
 repeat' (with_reducible (first | exact Le.refl _ | apply Le.bind | apply Z1t | intro _))
def Z1h.s0 (f:Form) (d:Int) (by':Int) (s1:Int):Option ((Int) ⊕ (Jx (Unit) (Bool))) :=
 (bif (decide (s1 < (f.Core.length:Int))) then
  (
   (
    (at? f.Core s1).bind fun x1 =>
    (
     (bif (decide ((w64 (s1 + d)) ≥ f.Count)) then
      some ((w64 ((w64 (s1 + d)) - f.Count)),f.Period)
     else
      some ((w64 (s1 + d)),0))).bind fun (y4:Int × Int) =>
    (at? f.Core y4.1).bind fun x2 =>
    (Z3c x1 x2 (w64 (by' - y4.2))).bind fun x3 =>
    (bif (!x3) then
     some (.ret false)
    else
     some (.go ()))).bind fun (y3:Jx (Unit) (Bool)) =>
   y3.elim (fun r' =>
     some (.ret r')) fun a4 =>
   some (.go ())).bind fun (y2:Jx (Unit) (Bool)) =>
  y2.elim (fun r' =>
    some (.inr (.ret r'))) fun a5 =>
  some (.inl (w64 (s1 + 1)))
 else
  some (.inr (.go ())))
theorem Z8V {f:Form} {d:Int} {by':Int} {s1:Int}:Le (Z1h.s0 f d by' s1) (Z0R.s0 f d by' s1):=by
 unfold Z1h.s0 Z0R.s0
 repeat' (with_reducible (first | exact Le.refl _ | apply Le.bind | apply Le.cond | apply Le.elim | apply Z87 | intro _))
def Z1h (f:Form) (d:Int) (by':Int):Option (Bool) :=
 (Z1a (Z1h.s0 f d by') 0).bind fun (y1:Jx (Unit) (Bool)) =>
 y1.elim (fun r' =>
   some r') fun a6 =>
 some true
theorem ZAd {f:Form} {d:Int} {by':Int}:Le (Z1h f d by') (Z0R f d by'):=by
 unfold Z1h Z0R
 repeat' (with_reducible (first | exact Le.refl _ | apply Le.bind | apply Le.elim | apply Le.loop | apply Z8V | intro _))
def Z1l.b0 (f:Form) (s2:(List (List Span)) × Int × Int) (z2:Int):Option (((List (List Span)) × Int × Int) × Nat) :=
 (nz? z2).bind fun u1 =>
 (Z0X f.Period (w64 (f.Count.tdiv z2))).bind fun x2 =>
 (
  (bif (x2.2.1 != 0) then
   some true
  else
   (Z1h f z2 x2.1).bind fun x3 =>
   some (!x3))).bind fun (y3:Bool) =>
 (bif y3 then
  some ((s2.1,s2.2.1,s2.2.2),0)
 else
  (cut? f.Core 0 z2).bind fun x4 =>
  (Z1a (Zh.s1 x4) (0,s2.1)).bind fun (y4:(List (List Span))) =>
  some ((y4,x2.1,z2),1))
theorem Z82 {f:Form} {s2:(List (List Span)) × Int × Int} {z2:Int}:Le (Z1l.b0 f s2 z2) (Zh.b0 f s2 z2):=by
 unfold Z1l.b0 Zh.b0
 repeat' (with_reducible (first | exact Le.refl _ | apply Le.bind | apply Le.cond | apply Le.loop | apply ZAd | intro _))
def Z1l (f:Form):Option (Form) :=
 (Z5T f).bind fun x1 =>
 (bif x1 then
  some (Form.mk 0 0 [] [])
 else
  (
   (Z0K f.Count (Z1Q (Z1l.b0 f)) (([],0,0),0)).bind fun (y2:((List (List Span)) × Int × Int) × Nat) =>
   (bif (y2.2 == 0) then
    some (y2.1.1,y2.1.2.1,y2.1.2.2)
   else
    some (y2.1.1,y2.1.2.1,y2.1.2.2))).bind fun (y1:(List (List Span)) × Int × Int) =>
  some (Form.mk y1.2.1 y1.2.2 y1.1 []))
theorem ZAV {f:Form}:Le (Z1l f) (Zh f):=by
 unfold Z1l Zh
 repeat' (with_reducible (first | exact Le.refl _ | apply Le.bind | apply Le.cond | refine Le.Z1Q ?_ _ _ | apply ZAa | apply Z6c | apply Z82 | intro _))
def Z4x (f:Form) (g:Granule):Option (Bool) :=
 (Z1W f g.Index).bind fun x1 =>
 (
  (bif (x1.2 == 0) then
   (Z5V x1.1 g.Ticks).bind fun x2 =>
   some x2
  else
   some false)).bind fun (y1:Bool) =>
 some y1
theorem ZA2 {f:Form} {g:Granule}:Le (Z4x f g) (Z2e f g):=by
 unfold Z4x Z2e
 repeat' (with_reducible (first | exact Le.refl _ | apply Le.bind | apply Le.cond | apply Z2w | apply ZAZ | intro _))
def Z1f.s0 (f:Form) (x1:Form) (s2:Int × (List Granule)):Option ((Int × (List Granule)) ⊕ ((List Granule))) :=
 (bif (decide (s2.1 < (f.Odd.length:Int))) then
  (
   (
    (at? f.Odd s2.1).bind fun x2 =>
    (Z4x x1 x2).bind fun x3 =>
    (bif (!x3) then
     (clone? 16 x2.Ticks).bind fun x4 =>
     (app? 32 s2.2 [(Granule.mk x2.Index x4)]).bind fun x5 =>
     some x5
    else
     some s2.2)).bind fun (y3:(List Granule)) =>
   some y3).bind fun (y2:(List Granule)) =>
  some (.inl ((w64 (s2.1 + 1)),y2))
 else
  some (.inr s2.2))
theorem Z8b {f:Form} {x1:Form} {s2:Int × (List Granule)}:Le (Z1f.s0 f x1 s2) (Zc.s0 f x1 s2):=by
 unfold Z1f.s0 Zc.s0
 repeat' (with_reducible (first | exact Le.refl _ | apply Le.bind | apply Le.cond | apply ZA2 | intro _))
def Z1f (f:Form):Option (Form) :=
 (Z1l f).bind fun x1 =>
 (Z1a (Z1f.s0 f x1) (0,[])).bind fun (y1:(List Granule)) =>
 some (Form.mk x1.Period x1.Count x1.Core y1)
theorem ZAe {f:Form}:Le (Z1f f) (Zc f):=by
 unfold Z1f Zc
 repeat' (with_reducible (first | exact Le.refl _ | apply Le.bind | apply Le.loop | apply ZAV | apply Z8b | intro _))
def Z0k.s0 {S:Type} (p1':Int) (p2':Int→Option ((List Span) × Int)) (p3':Int) (yield:S→((List Span) × Int)→Option (S × Bool)) (s1:Int × S):Option ((Int × S) ⊕ (Jx (S) (S))) :=
 (bif (decide (s1.1 < p1')) then
  (p2' (w64 (p3' + s1.1))).bind fun x1 =>
  (yield s1.2 (x1.1,x1.2)).bind fun x2 =>
  (bif (!x2.2) then
   some (.inr (.ret x2.1))
  else
   some (.inl ((w64 (s1.1 + 1)),x2.1)))
 else
  some (.inr (.go s1.2)))
theorem Z6f {S:Type} {p1':Int} {p2' p2'_:Int→Option ((List Span) × Int)} {p3':Int} {yield yield_:S→((List Span) × Int)→Option (S × Bool)} {s1:Int × S} (h_p2':∀ z0,Le (p2' z0) (p2'_ z0)) (h_yield:∀ z0 z1,Le (yield z0 z1) (yield_ z0 z1)):Le (Z0k.s0 p1' p2' p3' yield s1) (Z0A.s0 p1' p2'_ p3' yield_ s1):=by
 unfold Z0k.s0 Z0A.s0
 repeat' (with_reducible (first | exact Le.refl _ | exact h_p2' _ | exact h_yield _ _ | exact h_p2' | exact h_yield | apply Le.bind | apply Le.cond | intro _))
def Z0k {S:Type} (p1':Int) (p2':Int→Option ((List Span) × Int)) (p3':Int) (yield:S→((List Span) × Int)→Option (S × Bool)) (st':S):Option (S) :=
 (Z1a (Z0k.s0 p1' p2' p3' yield) (0,st')).bind fun (y1:Jx (S) (S)) =>
 y1.elim (fun r' =>
   some r') fun a2 =>
 some a2
theorem Z8X {S:Type} {p1':Int} {p2' p2'_:Int→Option ((List Span) × Int)} {p3':Int} {yield yield_:S→((List Span) × Int)→Option (S × Bool)} {st':S} (h_p2':∀ z0,Le (p2' z0) (p2'_ z0)) (h_yield:∀ z0 z1,Le (yield z0 z1) (yield_ z0 z1)):Le (Z0k p1' p2' p3' yield st') (Z0A p1' p2'_ p3' yield_ st'):=by
 unfold Z0k Z0A
 repeat' (with_reducible (first | exact Le.refl _ | exact h_p2' _ | exact h_yield _ _ | exact h_p2' | exact h_yield | apply Le.bind | apply Le.elim | apply Le.loop | apply Z6f | intro _))
def Z23 (tell:Int→Option ((List Span) × Int)) (from':Int) (many:Int):Option ((List Span) × Int) :=
 (
  some ()).bind fun (y1:Unit) =>
 (Z0k many tell from' (Z1Q ZU.b0) (([],0),0)).bind fun (y2:((List Span) × Int) × Nat) =>
 (bif (y2.2 == 0) then
  some (y2.1.1,0)
 else
  some ([],y2.1.2))
theorem Z4C {tell tell_:Int→Option ((List Span) × Int)} {from':Int} {many:Int} (h_tell:∀ z0,Le (tell z0) (tell_ z0)):Le (Z23 tell from' many) (ZU tell_ from' many):=by
 unfold Z23 ZU
 repeat' (with_reducible (first | exact Le.refl _ | exact h_tell _ | exact h_tell | apply Le.bind | apply Le.cond | refine Le.Z1Q ?_ _ _ | apply Z8X | intro _))
def Z40 (f:Form) (i:Int):Option ((List Span) × Int) :=
 (bif (f.Count == 0) then
  some ([],0)
 else
  (Z0X i f.Count).bind fun x1 =>
  (at? f.Core x1.2.1).bind fun x2 =>
  (bif ((x2.length:Int) == 0) then
   some ([],0)
  else
   (bif ((x1.2.2 != 0) || (((Za x1.1 f.Period).2) != 0)) then
    some ([],20)
   else
    (at? f.Core x1.2.1).bind fun x3 =>
    (Z3t x3 ((Za x1.1 f.Period).1)).bind fun x4 =>
    some (x4.1,x4.2))))
theorem Z6b {f:Form} {i:Int}:Le (Z40 f i) (Z21 f i):=by
 unfold Z40 Z21
 repeat' (with_reducible (first | exact Le.refl _ | apply Le.bind | apply Le.cond | apply Z6T | intro _))
def Z3M (i:Int) (p1':Form):Option ((List Span) × Int) :=
 (Z40 p1' i).bind fun x1 =>
 some (x1.1,x1.2)
theorem Z7f {i:Int} {p1':Form}:Le (Z3M i p1') (Z0D i p1'):=by
 unfold Z3M Z0D
 repeat' (with_reducible (first | exact Le.refl _ | apply Le.bind | apply Z6b | intro _))
def Z0t.s1 (f:Form) (m:Int) (x1:Int × Int) (s3:Int × (List (List Span))):Option ((Int × (List (List Span))) ⊕ (Jx ((List (List Span)) × Int) (Int))) :=
 (bif (decide (s3.1 < x1.1)) then
  (Z23 (fun z0 => Z3M z0 f) (w64 (s3.1 * m)) m).bind fun x3 =>
  (bif (x3.2 != 0) then
   some (.inr (.ret x3.2))
  else
   (app? 24 s3.2 [x3.1]).bind fun x4 =>
   some (.inl ((w64 (s3.1 + 1)),x4)))
 else
  some (.inr (.go (s3.2,(Za f.Period (w64 (x1.2.tdiv f.Count))).1))))
theorem Z6m {f:Form} {m:Int} {x1:Int × Int} {s3:Int × (List (List Span))}:Le (Z0t.s1 f m x1 s3) (ZS.s1 f m x1 s3):=by
 unfold Z0t.s1 ZS.s1
 repeat' (with_reducible (first | exact Le.refl _ | apply Le.bind | apply Le.cond | apply Z4C | apply Z7f | intro _))
def Z0t (f:Form) (m:Int):Option (Form × Int) :=
 (Z1C f m).bind fun x1 =>
 (bif (x1.1 == 0) then
  some ((Form.mk 0 0 [] []),0)
 else
  (Z1a (ZS.s0 f) (0,0)).bind fun (y1:Int) =>
  (nz? f.Count).bind fun u1 =>
  (bif (decide ((w64 (y1 * (w64 (x1.2.tdiv f.Count)))) > 60000)) then
   some ((Form.mk 0 0 [] []),3)
  else
   (nz? f.Count).bind fun u2 =>
   (bif ((((Za f.Period (w64 (x1.2.tdiv f.Count))).2) != 0) || (decide (((Za f.Period (w64 (x1.2.tdiv f.Count))).1) > 1099511627776))) then
    some ((Form.mk 0 0 [] []),20)
   else
    (Z1a (Z0t.s1 f m x1) (0,[])).bind fun (y2:Jx ((List (List Span)) × Int) (Int)) =>
    y2.elim (fun a4 =>
      some ((Form.mk 0 0 [] []),a4)) fun a3 =>
    some ((Form.mk a3.2 x1.1 a3.1 []),0))))
theorem Z8w {f:Form} {m:Int}:Le (Z0t f m) (ZS f m):=by
 unfold Z0t ZS
 repeat' (with_reducible (first | exact Le.refl _ | apply Le.bind | apply Le.cond | apply Le.elim | apply Le.loop | apply Z6m | intro _))
def Z2X (f:Form):Option (Form × Int) :=
 (Z1j f).bind fun x1 =>
 (bif (x1 == 0) then
  (Z1f f).bind fun x2 =>
  some (x2,0)
 else
  (bif (x1 == 3) then
   some ((Form.mk 0 0 [] []),3)
  else
   some ((Form.mk 0 0 [] []),20)))
theorem Z3h {f:Form}:Le (Z2X f) (Z1v f):=by
 unfold Z2X Z1v
 repeat' (with_reducible (first | exact Le.refl _ | apply Le.bind | apply Le.cond | apply ZAX | apply ZAe | intro _))
def Z3P (i:Int) (p1':Form):Option ((List Span) × Int) :=
 (Z1W p1' i).bind fun x1 =>
 some (x1.1,x1.2)
theorem Z7c {i:Int} {p1':Form}:Le (Z3P i p1') (Z0E i p1'):=by
 unfold Z3P Z0E
 repeat' (with_reducible (first | exact Le.refl _ | apply Le.bind | apply Z2w | intro _))
def Z0G.s0 (f:Form) (m:Int) (s2:Int × (List Granule)):Option ((Int × (List Granule)) ⊕ (Jx ((List Granule)) (Form × Int))) :=
 (bif (decide (s2.1 < (f.Odd.length:Int))) then
  (
   (at? f.Odd s2.1).bind fun x2 =>
   (Z0X x2.Index m).bind fun x3 =>
   (
    (bif (decide ((s2.2.length:Int) > 0)) then
     (at? s2.2 (w64 ((s2.2.length:Int) - 1))).bind fun x4 =>
     some (x4.Index == x3.1)
    else
     some false)).bind fun (y3:Bool) =>
   (bif y3 then
    some (.go s2.2)
   else
    (Z23 (fun z0 => Z3P z0 f) (w64 (x3.1 * m)) m).bind fun x5 =>
    (bif (x5.2 != 0) then
     some (.ret ((Form.mk 0 0 [] []),20))
    else
     (app? 32 s2.2 [(Granule.mk x3.1 x5.1)]).bind fun x6 =>
     some (.go x6)))).bind fun (y2:Jx ((List Granule)) (Form × Int)) =>
  y2.elim (fun r' =>
    some (.inr (.ret r'))) fun a3 =>
  some (.inl ((w64 (s2.1 + 1)),a3))
 else
  some (.inr (.go s2.2)))
theorem Z6p {f:Form} {m:Int} {s2:Int × (List Granule)}:Le (Z0G.s0 f m s2) (Zg.s0 f m s2):=by
 unfold Z0G.s0 Zg.s0
 repeat' (with_reducible (first | exact Le.refl _ | apply Le.bind | apply Le.cond | apply Le.elim | apply Z4C | apply Z7c | intro _))
def Z0G (f:Form) (m:Int):Option (Form × Int) :=
 (bif ((decide (m < 1)) || (decide (m > 6000))) then
  some ((Form.mk 0 0 [] []),2)
 else
  (Z0t f m).bind fun x1 =>
  (bif (x1.2 != 0) then
   some ((Form.mk 0 0 [] []),x1.2)
  else
   (Z1a (Z0G.s0 f m) (0,[])).bind fun (y1:Jx ((List Granule)) (Form × Int)) =>
   y1.elim (fun r' =>
     some r') fun a4 =>
   (Z2X (Form.mk x1.1.Period x1.1.Count x1.1.Core a4)).bind fun x7 =>
   some (x7.1,x7.2)))
theorem Z8d {f:Form} {m:Int}:Le (Z0G f m) (Zg f m):=by
 unfold Z0G Zg
 repeat' (with_reducible (first | exact Le.refl _ | apply Le.bind | apply Le.cond | apply Le.elim | apply Le.loop | apply Z8w | apply Z6p | apply Z3h | intro _))
def Z0x.s0 (f:Form) (m:Int) (s2:Int × (List (List Span))):Option ((Int × (List (List Span))) ⊕ (Jx ((List (List Span))) (Form × Int))) :=
 (bif (decide (s2.1 < f.Count)) then
  (Z40 f (w64 (s2.1 - m))).bind fun x1 =>
  (bif (x1.2 != 0) then
   some (.inr (.ret ((Form.mk 0 0 [] []),x1.2)))
  else
   (app? 24 s2.2 [x1.1]).bind fun x2 =>
   some (.inl ((w64 (s2.1 + 1)),x2)))
 else
  some (.inr (.go s2.2)))
theorem Z6z {f:Form} {m:Int} {s2:Int × (List (List Span))}:Le (Z0x.s0 f m s2) (Zz.s0 f m s2):=by
 unfold Z0x.s0 Zz.s0
 repeat' (with_reducible (first | exact Le.refl _ | apply Le.bind | apply Le.cond | apply Z6b | intro _))
def Z0x (f:Form) (m:Int):Option (Form × Int) :=
 (bif (!(Z04 m)) then
  some ((Form.mk 0 0 [] []),2)
 else
  (Z1a (Z0x.s0 f m) (0,[])).bind fun (y1:Jx ((List (List Span))) (Form × Int)) =>
  y1.elim (fun r' =>
    some r') fun a2 =>
  (Z1a (Zz.s1 f m) (0,[])).bind fun (y2:Jx ((List Granule)) (Form × Int)) =>
  y2.elim (fun r' =>
    some r') fun a4 =>
  (Z2X (Form.mk f.Period f.Count a2 a4)).bind fun x6 =>
  some (x6.1,x6.2))
theorem Z8y {f:Form} {m:Int}:Le (Z0x f m) (Zz f m):=by
 unfold Z0x Zz
 repeat' (with_reducible (first | exact Le.refl _ | apply Le.bind | apply Le.cond | apply Le.elim | apply Le.loop | apply Z6z | apply Z3h | intro _))
def Z2y (f:Form) (i:Int):Option (Bool × (List Span) × Int) :=
 (Z1W f i).bind fun x1 =>
 some (((decide ((x1.1.length:Int) > 0)) || (x1.2 != 0)),x1.1,x1.2)
theorem Z53 {f:Form} {i:Int}:Le (Z2y f i) (Z2n f i):=by
 unfold Z2y Z2n
 repeat' (with_reducible (first | exact Le.refl _ | apply Le.bind | apply Z2w | intro _))
def Zr.s0 (f:Form) (n:Int) (s2:Int × Bool × (List Int)):Option ((Int × Bool × (List Int)) ⊕ (Jx ((List Int)) (Form × Int))) :=
 (bif (s2.2.1 && (decide (s2.1≤n))) then
  (app? 8 s2.2.2 [s2.1]).bind fun x3 =>
  (bif (decide ((x3.length:Int) > 6000)) then
   some (.inr (.ret ((Form.mk 0 0 [] []),3)))
  else
   (Z2c f s2.1).bind fun x4 =>
   some (.inl (x4.1,x4.2,x3)))
 else
  some (.inr (.go s2.2.2)))
theorem Z6e {f:Form} {n:Int} {s2:Int × Bool × (List Int)}:Le (Zr.s0 f n s2) (Zp.s0 f n s2):=by
 unfold Zr.s0 Zp.s0
 repeat' (with_reducible (first | exact Le.refl _ | apply Le.bind | apply Le.cond | apply Z3p | intro _))
def Zr.s1 (f:Form) (a2:(List Int)) (s4:Int × (List Granule)):Option ((Int × (List Granule)) ⊕ (Jx ((List Granule)) (Form × Int))) :=
 (bif (decide (s4.1 < (a2.length:Int))) then
  (at? a2 s4.1).bind fun x5 =>
  (Z2y f x5).bind fun x6 =>
  (bif (x6.2.2 != 0) then
   some (.inr (.ret ((Form.mk 0 0 [] []),20)))
  else
   (app? 32 s4.2 [(Granule.mk x5 x6.2.1)]).bind fun x7 =>
   some (.inl ((w64 (s4.1 + 1)),x7)))
 else
  some (.inr (.go s4.2)))
theorem Z6d {f:Form} {a2:(List Int)} {s4:Int × (List Granule)}:Le (Zr.s1 f a2 s4) (Zp.s1 f a2 s4):=by
 unfold Zr.s1 Zp.s1
 repeat' (with_reducible (first | exact Le.refl _ | apply Le.bind | apply Le.cond | apply Z53 | intro _))
def Zr (f:Form) (m:Int) (n:Int):Option (Form × Int) :=
 (bif (((!(Z04 m)) || (!(Z04 n))) || (decide (m > n))) then
  some ((Form.mk 0 0 [] []),2)
 else
  (
   (Z2y f m).bind fun x1 =>
   (bif (!x1.1) then
    (Z2c f m).bind fun x2 =>
    some (x2.1,x2.2)
   else
    some (m,true))).bind fun (y1:Int × Bool) =>
  (Z1a (Zr.s0 f n) (y1.1,y1.2,[])).bind fun (y2:Jx ((List Int)) (Form × Int)) =>
  y2.elim (fun r' =>
    some r') fun a2 =>
  (Z1a (Zr.s1 f a2) (0,[])).bind fun (y3:Jx ((List Granule)) (Form × Int)) =>
  y3.elim (fun r' =>
    some r') fun a4 =>
  (Z2X (Form.mk 0 0 [] a4)).bind fun x8 =>
  some (x8.1,x8.2))
theorem Z8P {f:Form} {m:Int} {n:Int}:Le (Zr f m n) (Zp f m n):=by
 unfold Zr Zp
 repeat' (with_reducible (first | exact Le.refl _ | apply Le.bind | apply Le.cond | apply Le.elim | apply Le.loop | apply Z53 | apply Z3p | apply Z6e | apply Z6d | apply Z3h | intro _))
def Z2V:Option (Bool) :=
 (Z0G Z01 7).bind fun x1 =>
 (Z0x Z01 3).bind fun x2 =>
 (Zr Z01 2 4).bind fun x3 =>
 (Z0G (Form.mk ZG.Period ZG.Count ZG.Core [(Granule.mk 1 [(Span.mk 8 11)])]) 2).bind fun x4 =>
 (Z1W x2.1 0).bind fun x5 =>
 (Z0G Z01 0).bind fun x6 =>
 (Zr Z01 2 1).bind fun x7 =>
 (Z0G (Form.mk 549755813888 1 [[(Span.mk 0 0)]] []) 4).bind fun x8 =>
 (
  (bif (((((((((((x1.2 == 0) && (x2.2 == 0)) && (x3.2 == 0)) && (x4.2 == 0)) && (x5.2 == 0)) && (x6.2 == 2)) && (x7.2 == 2)) && (x8.2 == 20)) && (x1.1.Period == 7)) && (x1.1.Count == 1)) && ((x1.1.Core.length:Int) == 1)) then
   (at? x1.1.Core 0).bind fun x9 =>
   (Z2Q x9 [(Span.mk 0 6)]).bind fun x10 =>
   some x10
  else
   some false)).bind fun (y1:Bool) =>
 (
  (bif y1 then
   (Z2Q x5.1 [(Span.mk (-3) (-3))]).bind fun x11 =>
   some x11
  else
   some false)).bind fun (y2:Bool) =>
 (
  (bif (y2 && ((x3.1.Odd.length:Int) == 3)) then
   (at? x3.1.Odd 0).bind fun x12 =>
   some (x12.Index == 2)
  else
   some false)).bind fun (y3:Bool) =>
 (
  (bif ((y3 && (x3.1.Count == 0)) && ((x4.1.Odd.length:Int) == 1)) then
   (at? x4.1.Odd 0).bind fun x13 =>
   some (x13.Index == 0)
  else
   some false)).bind fun (y4:Bool) =>
 some y4
theorem Z61:Le (Z2V) (Z1Z):=by
 unfold Z2V Z1Z
 repeat' (with_reducible (first | exact Le.refl _ | apply Le.bind | apply Le.cond | apply Z8d | apply Z8y | apply Z8P | apply Z2w | apply Z7W | intro _))
theorem Z6O:Z2V = some true:=by kernel_rfl
theorem Z6P:Z1Z = some true:=Z61 _ Z6O
end
end Go.Dn

namespace Go.Dn
open Go Go.Proofs
set_option maxRecDepth 100000
set_option maxHeartbeats 4000000
abbrev vl {α:Type} (c:α→List FV) (x:List α):PV:=.v (.sl (x.map c))
abbrev vi (x:Int):PV:=.v (.int .i64 x)
abbrev vu (x:Int):PV:=.v (.int .u64 x)
abbrev vb (x:Bool):PV:=.v (.bool x)
section
theorem Ops.wt {X:Ctx} {n:Nat} {dr:Bool} {ops:Array Oper} {base i:Nat} {l:List Oper} {e:Env} {σ:Heap} {K:Env→Heap→Prop} {op:Op} {t:TypeId} {p:String} {af:Array Edge} {j:Nat} {g:Tmp} {w:Bool} {dst:Option Tmp} (hg:(ops[j]?).bind (·.dst) = some g) (he:e g = .v (.bool w)) (hk:Ops X n dr ops base i (⟨dst,op,t,p,af,none⟩ :: l) e σ K):Ops X n dr ops base i (⟨dst,op,t,p,af,some (j,w)⟩ :: l) e σ K:=.wanted hg he hk
variable {X:Ctx} {n:Nat} {dr:Bool} {ops:Array Oper} {base i:Nat} {l:List Oper} {e:Env} {σ:Heap} {K:Env→Heap→Prop} {d:Nat} {t t1 t2:TypeId} {p:String} {af:Array Edge} {x y:Operand} {lo hi:Nat} {L:List Res}
theorem Ops.mv (v:PV) (hx:Z0 X e x = some v) (hd:Nat.blt d n = true) (hk:Ops X n dr ops base (i + 1) l (set e d v) σ K):Ops X n dr ops base i (⟨some d,.move x,t,p,af,none⟩ :: l) e σ K:=.move hx hd hk
theorem Ops.av (v:PV) (hx:Z0 X e x = some v) (hd:Nat.blt d n = true) (hk:Ops X n dr ops base (i + 1) l (set e d v) σ K):Ops X n dr ops base i (⟨some d,.assign x,t,p,af,none⟩ :: l) e σ K:=.assign hx hd hk
theorem Ops.it {op:BinOp} {k:IntKind} (m m':Int) (r:FV) (hx:Z0 X e x = some (.v (.int k m))) (hy:Z0 X e y = some (.v (.int k m'))) (hop:(op != .shl && op != .shr) = true) (hr:Z6g op k m m' = some r) (hd:Nat.blt d n = true) (hk:Ops X n dr ops base (i + 1) l (set e d (.v r)) σ K):Ops X n dr ops base i (⟨some d,.binOp op t1 x y t2,t,p,af,none⟩ :: l) e σ K:=.int hx hy hop hr hd hk
theorem Ops.xt (v:PV) {vs:List PV} {j:Nat} (hx:Z0 X e x = some (.tup vs)) (hj:vs[j]? = some v) (hd:Nat.blt d n = true) (hk:Ops X n dr ops base (i + 1) l (set e d v) σ K):Ops X n dr ops base i (⟨some d,.extract x j,t,p,af,none⟩ :: l) e σ K:=.extract hx hj hd hk
theorem Ops.ld (v:PV) {id ver off:Nat} {te:TypeId} {cells:List PV} (H:Has σ lo hi L) (k:Nat) (hk:L[k]? = some (.blk id te cells)) (hv:cells.length = ver) (hx:Z0 X e x = some (.ptr id ver off)) (hg:tagg X.P t1 = some false) (hc:cells[off]? = some v) (ha:dr = true→Seen ops base i id false) (hd:Nat.blt d n = true) (hk':Ops X n dr ops base (i + 1) l (set e d v) σ K):Ops X n dr ops base i (⟨some d,.load t1 x,t,p,af,none⟩ :: l) e σ K:=.loadH H k hk hv hx hg hc ha hd hk'
end
theorem sk {α:Type} {a b:α} (h:some a = some b):b = a:=(Option.some.inj h).symm
theorem V {α:Sort _} {a:α}:a = a:=rfl
theorem U:True:=trivial
theorem Has.wk {σ:Heap} {lo hi:Nat} {L:List Res} (H:Has σ lo hi L) {lo':Nat} (h:lo≤lo'):Has σ lo' hi L:=H.weak h (YB _)
theorem sj {α:Type} {a b:α} (h:some a = some b):a = b:=Option.some.inj h
abbrev vF (f:Form):List PV:=[vi f.Period,vi f.Count,vl (cL Span.cs) f.Core,vl Granule.cs f.Odd]
theorem Z8t {f:Form} {r:Int} (h:Zw f = some r):Fn CX 55 [(.agg (vs (Form.cs f)))] (vi r):=by
 refine Fn.go Try.func55 V fun σ H => ?_;unfold Zw at h;refine .tR 2 V H fun b1 σ H => (.bxc (cs:=(vF f)) H V V V fun σ H => (.aV V (.na H fun H => (.tR 1 V H fun b2 σ H => (.aV V (.na H fun H => (.then (.tR 4 V H fun b3 σ H => ?_))))))));refine .fV H 0 V (.lV H 0 V (.nV V (.mV V (.na H fun H => (.inBlock ?_)))));refine .lp h (fun s1 => [(1,(.ptr (b1 + 0) 4 0)),(3,(vi s1.1)),(9,(vl (cL Span.cs) f.Core)),(10,(vi (f.Core.length:Int))),(11,(vi s1.2))]) (fun s1 => [.blk (b1 + 0) 25 (vF f)]) (.exit 0) (fun y1 => [(1,(.ptr (b1 + 0) 4 0)),(3,(vi y1))]) (fun y1 => [.blk (b1 + 0) 25 (vF f)]) (EI V) H (fun s1 e σ H z h => ?_) fun y1 e σ H h => ?_
 ·unfold Zw.s0 at h;refine .tR 1 V H fun b4 σ H => (.iV V (.na H fun H => (.then ?_)));refine .wh h V ?_ ?_ <;> intro h
  ·refine .skip (.then (.inBlock (.tR 3 V H fun b5 σ H => ?_)));obtain ⟨x1,q1,h⟩:=bs h;refine .jV q1 V (.pV V (.aV V (.na H fun H => (.ZF 5 V H fun b6 σ H => (.mV V (.mV V (.nV V (.iV V ?_))))))));refine .aV V (.na H fun H => (.ZF 2 V H fun b7 σ H => (.iV V (.mV V (.na H fun H => ?_)))));obtain rfl:=sj h;exact ⟨V,EI V,H⟩
  refine .exit ?_;obtain rfl:=sj h;exact ⟨nofun,⟨V,EI V,H⟩⟩
 refine .then (.tR 4 V H fun b8 σ H => (.fV H 0 V (.lV H 0 V (.nV V (.mV V (.na H fun H => (.inBlock ?_)))))));refine .lp h (fun s2 => [(3,(vi s2.1)),(21,(vl Granule.cs f.Odd)),(22,(vi (f.Odd.length:Int))),(23,(vi s2.2))]) (fun s2 => []) (.exit 2) (fun y2 => [(3,(vi y2))]) (fun y2 => []) (EI V) (H.erase 0) (fun s2 e σ H z h => ?_) fun y2 e σ H h => ?_
 ·unfold Zw.s1 at h;refine .tR 1 V H fun b9 σ H => (.iV V (.na H fun H => (.then ?_)));refine .wh h V ?_ ?_ <;> intro h
  ·refine .skip (.then (.inBlock (.tR 4 V H fun b10 σ H => ?_)));obtain ⟨x2,q2,h⟩:=bs h;refine .jV q2 V (.qV [(.int .i64 x2.Index),(.sl (x2.Ticks.map Span.cs))] V (.alc (cs:=[(vi 0),.nils]) H V V fun σ H => (.sV [(vi x2.Index),(vl Span.cs x2.Ticks)] H 0 V fun σ H => (.na H fun H => (.ZF 6 V H fun b11 σ H => (.mV V (.fV H 0 V (.lV H 0 V ?_))))))));refine .nV V (.iV V (.aV V (.na H fun H => (.ZF 2 V H fun b12 σ H => (.iV V (.mV V (.na H fun H => ?_)))))));obtain rfl:=sj h;exact ⟨V,EI V,(H.erase 0)⟩
  refine .exit ?_;obtain rfl:=sj h;exact ⟨nofun,⟨V,EI V,H⟩⟩
 refine .tR 2 V H fun b13 σ H => (.mV V (.aV V (.na H fun H => (.ret ?_))));obtain rfl:=sj h;exact Ends.eR V
theorem Z7b {f:Form} {r:Bool} (h:Z0h f = some r):Fn CX 26 [(.agg (vs (Form.cs f)))] (vb r):=by
 refine Fn.go Try.func26 V fun σ H => ?_;unfold Z0h at h;refine .tR 2 V H fun b1 σ H => (.bxc (cs:=(vF f)) H V V V fun σ H => (.aV V (.na H fun H => (.tR 16 V H fun b2 σ H => (.fV H 0 V (.lV H 0 V (.nV V (.iV V ?_))))))));refine .mV V ?_;refine .md H 5 [(12,(vb ((decide ((f.Core.length:Int)≤12)) && (decide ((f.Odd.length:Int)≤8))))),(1,(.ptr (b1 + 0) 4 0))] [.blk (b1 + 0) 25 (vF f)] V ?_ fun e σ H => ?_
 ·refine .split V V ?_ ?_ <;> intro hc1
  ·refine .fV H 0 V (.lV H 0 V (.nV V (.iV V (.kT V (.nil ?_)))));exact ⟨⟨Z10 hc1,V,U⟩,H.wk (by omega)⟩
  ·refine .ps 4 V (.kF V (.nil ?_));exact ⟨⟨Z12 hc1,V,U⟩,H.wk (by omega)⟩
 refine .mV V ?_;obtain ⟨y1,hj1,h⟩:=bs h;refine .md H 4 [(17,(vb y1))] [] V ?_ fun e σ H => ?_
 ·refine .sp hj1 V ?_ ?_ <;> intro h
  ·refine .LV (vF f) H 0 V (.wt V V ?_);obtain ⟨x1,q1,h⟩:=bs h;refine .cV (Z8t q1) V (.iV V (.kT V (.nil ?_)));obtain rfl:=sj h;exact ⟨EI V,(H.erase 0).wk (by omega)⟩
  refine .ps 3 V (.kF V (.nil ?_));obtain rfl:=sj h;exact ⟨EI V,(H.erase 0).wk (by omega)⟩
 refine .aV V (.na H fun H => (.ret ?_));obtain rfl:=sj h;exact Ends.eR V
theorem Z41 {t:Int} {r:Bool} (h:Z0S t = r):Fn CX 69 [(vi t)] (vb r):=by
 refine Fn.go Try.func69 V fun σ H => ?_;unfold Z0S at h;refine .tR 1 V H fun b1 σ H => (.aV V (.na H fun H => (.tR 7 V H fun b2 σ H => (.mV V (.iV V (.mV V ?_))))));refine .md H 3 [(8,(vb ((decide (t ≥ (-1099511627776))) && (decide (t≤1099511627776)))))] [] V ?_ fun e σ H => ?_
 ·refine .split V V ?_ ?_ <;> intro hc1
  ·refine .mV V (.iV V (.kT V (.nil ?_)));exact ⟨⟨Z10 hc1,U⟩,H.wk (by omega)⟩
  ·refine .ps 2 V (.kF V (.nil ?_));exact ⟨⟨Z12 hc1,U⟩,H.wk (by omega)⟩
 refine .aV V (.na H fun H => (.ret ?_));subst h;exact Ends.eR V
theorem Z6t {l:(List Span)} {r:Bool} (h:Zy l = some r):Fn CX 83 [(vl Span.cs l)] (vb r):=by
 refine Fn.go Try.func83 V fun σ H => ?_;unfold Zy at h;refine .tR 1 V H fun b1 σ H => (.aV V (.na H fun H => (.then (.tR 3 V H fun b2 σ H => (.mV V (.nV V (.mV V (.na H fun H => ?_))))))));refine .inBlock ?_;obtain ⟨y1,hj1,h⟩:=bs h;obtain ⟨n1,hj1⟩:=ZK.1 hj1;refine .mono (Runs.loopO hj1 (fun s1 e σ => Z8 e [(0,(vl Span.cs l)),(5,(vl Span.cs l)),(6,(vi (l.length:Int))),(7,(vi s1))]∧Hs σ []) (fun y1 x e σ => (∃ a1,y1 = (.go a1)∧x = .exit 0∧Z8 e []∧Hs σ [])∨(∃ r',y1 = (.ret r')∧x = .ret∧Ends CX Try.f83.results.toList (vb r') x e σ)) ⟨EI V,H⟩ ?_) ?_
 ·intro s1 e σ hI z h;obtain ⟨he,H⟩:=hI;obtain ⟨e,rfl⟩:=he.ex;unfold Zy.s0 at h;refine .tR 1 V H fun b3 σ H => (.iV V (.na H fun H => (.then ?_)));refine .wh h V ?_ ?_ <;> intro h
  ·refine .skip (.then (.inBlock (.tR 6 V H fun b4 σ H => (.mV V ?_))));obtain ⟨x1,q1,h⟩:=bs h;refine .jV q1 V (.qV [(.int .i64 x1.From),(.int .i64 x1.To)] V (.alc (cs:=[(vi 0),(vi 0)]) H V V fun σ H => (.aV V (.sV [(vi x1.From),(vi x1.To)] H 0 V fun σ H => (.na H fun H => (.then (.Z2L 33 V (by kernel_rfl) H fun b5 σ H B5 => (.ZX H 0 V V V V V (so (B5 0 _ V _ V)) V ?_))))))));refine .ld (vi x1.From) H 0 V V V V V (so (B5 0 _ V _ V)) V (.cV (Z41 V) V (.tV V (.mV V ?_)));refine .md H 5 [(21,(vb ((!(Z0S x1.From)) || (!(Z0S x1.To))))),(0,(vl Span.cs l)),(3,(vi s1)),(4,(.ptr (b4 + 3) 2 0)),(5,(vl Span.cs l)),(6,(vi (l.length:Int))),(7,(vi s1))] [.blk (b4 + 3) 59 [(vi x1.From),(vi x1.To)]] rfl ?_ fun e σ H => ?_
   ·refine .split V V ?_ ?_ <;> intro hc2
    ·refine .ps 4 V (.kT V (.nil ?_));exact ⟨⟨or_T hc2,V,V,V,V,V,V,U⟩,H.wk (by omega)⟩
    ·refine .wt V V (.ZX H 0 V V V V V (so (B5 0 _ V _ V)) V (.wt V V (.ld (vi x1.To) H 0 V V V V V (so (B5 0 _ V _ V)) V (.cV (Z41 V) V (.tV V (.kF V (.nil ?_)))))));exact ⟨⟨or_F hc2,V,V,V,V,V,V,U⟩,H.wk (by omega)⟩
   refine .mV V ?_;refine .md H 6 [(28,(vb (((!(Z0S x1.From)) || (!(Z0S x1.To))) || (decide (x1.From > x1.To))))),(0,(vl Span.cs l)),(3,(vi s1)),(4,(.ptr (b4 + 3) 2 0)),(5,(vl Span.cs l)),(6,(vi (l.length:Int))),(7,(vi s1))] [.blk (b4 + 3) 59 [(vi x1.From),(vi x1.To)]] rfl ?_ fun e σ H => ?_
   ·refine .split V V ?_ ?_ <;> intro hc3
    ·refine .ps 5 V (.kT V (.nil ?_));exact ⟨⟨or_T hc3,V,V,V,V,V,V,U⟩,H.wk (by omega)⟩
    ·refine .wt V V (.ZX H 0 V V V V V (so (B5 0 _ V _ V)) V (.wt V V (.ld (vi x1.From) H 0 V V V V V (so (B5 0 _ V _ V)) V (.wt V V (.ZX H 0 V V V V V (so (B5 0 _ V _ V)) V (.wt V V (.ld (vi x1.To) H 0 V V V V V (so (B5 0 _ V _ V)) V (.iV V ?_))))))));refine .kF V (.nil ?_);exact ⟨⟨or_F hc3,V,V,V,V,V,V,U⟩,H.wk (by omega)⟩
   refine .mV V ?_;obtain ⟨y2,hj2,h⟩:=bs h;refine .md H 15 [(44,(vb y2)),(0,(vl Span.cs l)),(5,(vl Span.cs l)),(6,(vi (l.length:Int))),(7,(vi s1))] [] V ?_ fun e σ H => ?_
   ·refine .sp hj2 V ?_ ?_ <;> intro h
    ·refine .ps 14 V (.kT V (.nil ?_));obtain rfl:=sj h;exact ⟨EI V,(H.erase 0).wk (by omega)⟩
    refine .mV V (.iV V (.mV V ?_));obtain ⟨y3,hj3,h⟩:=bs h;refine .md H 11 [(43,(vb y3)),(0,(vl Span.cs l)),(5,(vl Span.cs l)),(6,(vi (l.length:Int))),(7,(vi s1)),(29,(vb false))] [] V ?_ fun e σ H => ?_
    ·refine .sp hj3 V ?_ ?_ <;> intro h
     ·refine .wt V V (.ZX H 0 V V V V V (so (B5 0 _ V _ V)) V (.wt V V (.ld (vi x1.From) H 0 V V V V V (so (B5 0 _ V _ V)) V (.mV V (.mV V (.iV V (.wt V V ?_)))))));obtain ⟨x2,q2,h⟩:=bs h;refine .jV q2 V (.wt V V (.Z09 V V V V (.pV V (.iV V (.iV V (.kT V (.nil ?_)))))));obtain rfl:=sj h;exact ⟨EI V,(H.erase 0).wk (by omega)⟩
     refine .ps 10 V (.kF V (.nil ?_));obtain rfl:=sj h;exact ⟨EI V,(H.erase 0).wk (by omega)⟩
    refine .kF V (.nil ?_);obtain rfl:=sj h;exact ⟨EI V,H.wk (by omega)⟩
   refine .na H fun H => ?_;refine .wh h V ?_ ?_ <;> intro h
   ·refine .tR 1 V H fun b6 σ H => (.aV V (.na H fun H => (.ret ?_)));obtain rfl:=sj h;exact ⟨nofun,(.inr ⟨_,V,V,(Ends.H (xs:=[(vb false)]) (.inr V) H (.tmp (v:=(vb false)) V .nil) (.one (.c (.v _))))⟩)⟩
   refine .skip (.ZF 2 V H fun b7 σ H => (.iV V (.mV V (.na H fun H => ?_))));obtain rfl:=sj h;exact ⟨V,EI V,H⟩
  refine .exit ?_;obtain rfl:=sj h;exact ⟨nofun,(.inl ⟨_,V,V,U,H⟩)⟩
 ·rintro x e σ (⟨a2,rfl,rfl,he,H⟩ | ⟨r',rfl,rfl,hE⟩)
  ·replace h:=jgo h;obtain ⟨e,rfl⟩:=he.ex;refine .tR 1 V H fun b8 σ H => (.aV V (.na H fun H => (.ret ?_)));obtain rfl:=sj h;exact Ends.eR V
  ·replace h:=jret h;obtain rfl:=sj h;exact hE
theorem Z4L {i:Int} {r:Bool} (h:Z0W i = r):Fn CX 41 [(vi i)] (vb r):=by
 refine Fn.go Try.func41 V fun σ H => ?_;unfold Z0W at h;refine .tR 1 V H fun b1 σ H => (.aV V (.na H fun H => (.tR 7 V H fun b2 σ H => (.mV V (.iV V (.mV V ?_))))));refine .md H 3 [(8,(vb ((decide (i ≥ (-1099511627776))) && (decide (i≤1099511627776)))))] [] V ?_ fun e σ H => ?_
 ·refine .split V V ?_ ?_ <;> intro hc1
  ·refine .mV V (.iV V (.kT V (.nil ?_)));exact ⟨⟨Z10 hc1,U⟩,H.wk (by omega)⟩
  ·refine .ps 2 V (.kF V (.nil ?_));exact ⟨⟨Z12 hc1,U⟩,H.wk (by omega)⟩
 refine .aV V (.na H fun H => (.ret ?_));subst h;exact Ends.eR V
theorem gran_shape_fn {f:Form} {r:Bool} (h:ZZ f = some r):Fn CX 56 [(.agg (vs (Form.cs f)))] (vb r):=by
 refine Fn.go Try.func56 V fun σ H => ?_;unfold ZZ at h;refine .tR 2 V H fun b1 σ H => (.bxc (cs:=(vF f)) H V V V fun σ H => (.aV V (.na H fun H => (.then (.tR 25 V H fun b2 σ H => (.fV H 0 V (.lV H 0 V (.fV H 0 V ?_))))))));refine .lV H 0 V (.nV V (.iV V (.mV V ?_)));refine .md H 8 [(21,(vb ((f.Count != (f.Core.length:Int)) || ((f.Count == 0) != (f.Period == 0))))),(1,(.ptr (b1 + 0) 4 0))] [.blk (b1 + 0) 25 (vF f)] rfl ?_ fun e σ H => ?_
 ·refine .split V V ?_ ?_ <;> intro hc1
  ·refine .ps 7 V (.kT V (.nil ?_));exact ⟨⟨or_T hc1,V,U⟩,H.wk (by omega)⟩
  ·refine .fV H 0 V (.lV H 0 V (.iV V (.fV H 0 V (.lV H 0 V (.iV V (.wt V V (.neB (b:=(f.Count == 0)) (b':=(f.Period == 0)) V V V V (.kF V ?_))))))));refine .nil ?_;exact ⟨⟨or_F hc1,V,U⟩,H.wk (by omega)⟩
 refine .mV V ?_;refine .md H 4 [(26,(vb (((f.Count != (f.Core.length:Int)) || ((f.Count == 0) != (f.Period == 0))) || (decide (f.Period < 0))))),(1,(.ptr (b1 + 0) 4 0))] [.blk (b1 + 0) 25 (vF f)] rfl ?_ fun e σ H => ?_
 ·refine .split V V ?_ ?_ <;> intro hc2
  ·refine .ps 3 V (.kT V (.nil ?_));exact ⟨⟨or_T hc2,V,U⟩,H.wk (by omega)⟩
  ·refine .fV H 0 V (.lV H 0 V (.iV V (.kF V (.nil ?_))));exact ⟨⟨or_F hc2,V,U⟩,H.wk (by omega)⟩
 refine .mV V ?_;refine .md H 4 [(31,(vb ((((f.Count != (f.Core.length:Int)) || ((f.Count == 0) != (f.Period == 0))) || (decide (f.Period < 0))) || (decide (f.Period > 1099511627776))))),(1,(.ptr (b1 + 0) 4 0))] [.blk (b1 + 0) 25 (vF f)] rfl ?_ fun e σ H => ?_
 ·refine .split V V ?_ ?_ <;> intro hc3
  ·refine .ps 3 V (.kT V (.nil ?_));exact ⟨⟨or_T hc3,V,U⟩,H.wk (by omega)⟩
  ·refine .fV H 0 V (.lV H 0 V (.iV V (.kF V (.nil ?_))));exact ⟨⟨or_F hc3,V,U⟩,H.wk (by omega)⟩
 refine .na H fun H => ?_;refine .wh h V ?_ ?_ <;> intro h
 ·refine .tR 1 V H fun b3 σ H => (.aV V (.na H fun H => (.ret ?_)));obtain rfl:=sj h;exact Ends.eR V
 refine .skip (.then (.tR 4 V H fun b4 σ H => (.fV H 0 V (.lV H 0 V (.nV V (.mV V (.na H fun H => (.inBlock ?_))))))));obtain ⟨y1,hj1,h⟩:=bs h;obtain ⟨n1,hj1⟩:=ZK.1 hj1;refine .mono (Runs.loopO hj1 (fun s1 e σ => Z8 e [(1,(.ptr (b1 + 0) 4 0)),(33,(vl (cL Span.cs) f.Core)),(34,(vi (f.Core.length:Int))),(35,(vi s1))]∧Hs σ [.blk (b1 + 0) 25 (vF f)]) (fun y1 x e σ => (∃ a1,y1 = (.go a1)∧x = .exit 0∧Z8 e [(1,(.ptr (b1 + 0) 4 0))]∧Hs σ [.blk (b1 + 0) 25 (vF f)])∨(∃ r',y1 = (.ret r')∧x = .ret∧Ends CX Try.f56.results.toList (vb r') x e σ)) ⟨EI V,H⟩ ?_) ?_
 ·intro s1 e σ hI z h;obtain ⟨he,H⟩:=hI;obtain ⟨e,rfl⟩:=he.ex;unfold ZZ.s0 at h;refine .tR 1 V H fun b5 σ H => (.iV V (.na H fun H => (.then ?_)));refine .wh h V ?_ ?_ <;> intro h
  ·refine .skip (.then (.inBlock (.tR 3 V H fun b6 σ H => ?_)));obtain ⟨x1,q1,h⟩:=bs h;refine .jV q1 V (.pV V (.aV V (.na H fun H => (.tR 3 V H fun b7 σ H => (.mV V ?_)))));obtain ⟨x2,q2,h⟩:=bs h;refine .cV (Z6t q2) V (.tV V (.na H fun H => ?_));refine .wh h V ?_ ?_ <;> intro h
   ·refine .tR 1 V H fun b8 σ H => (.aV V (.na H fun H => (.ret ?_)));obtain rfl:=sj h;exact ⟨nofun,(.inr ⟨_,V,V,(Ends.H (xs:=[(vb false)]) (.inr V) H (.tmp (v:=(vb false)) V .nil) (.one (.c (.v _))))⟩)⟩
   refine .skip (.ZF 2 V H fun b9 σ H => (.iV V (.mV V (.na H fun H => ?_))));obtain rfl:=sj h;exact ⟨V,EI V,H⟩
  refine .exit ?_;obtain rfl:=sj h;exact ⟨nofun,(.inl ⟨_,V,V,EI V,H⟩)⟩
 ·rintro x e σ (⟨a2,rfl,rfl,he,H⟩ | ⟨r',rfl,rfl,hE⟩)
  ·replace h:=jgo h;obtain ⟨e,rfl⟩:=he.ex;refine .then (.tR 4 V H fun b10 σ H => (.fV H 0 V (.lV H 0 V (.nV V (.mV V (.na H fun H => (.inBlock ?_)))))));obtain ⟨y2,hj2,h⟩:=bs h;obtain ⟨n2,hj2⟩:=ZK.1 hj2;refine .mono (Runs.loopO hj2 (fun s2 e σ => Z8 e [(1,(.ptr (b1 + 0) 4 0)),(44,(vl Granule.cs f.Odd)),(45,(vi (f.Odd.length:Int))),(46,(vi s2))]∧Hs σ [.blk (b1 + 0) 25 (vF f)]) (fun y2 x e σ => (∃ a3,y2 = (.go a3)∧x = .exit 2∧Z8 e []∧Hs σ [])∨(∃ r',y2 = (.ret r')∧x = .ret∧Ends CX Try.f56.results.toList (vb r') x e σ)) ⟨EI V,H⟩ ?_) ?_
   ·intro s2 e σ hI z h;obtain ⟨he,H⟩:=hI;obtain ⟨e,rfl⟩:=he.ex;unfold ZZ.s1 at h;refine .tR 1 V H fun b11 σ H => (.iV V (.na H fun H => (.then ?_)));refine .wh h V ?_ ?_ <;> intro h
    ·refine .skip (.then (.inBlock (.tR 6 V H fun b12 σ H => (.mV V ?_))));obtain ⟨x3,q3,h⟩:=bs h;refine .jV q3 V (.qV [(.int .i64 x3.Index),(.sl (x3.Ticks.map Span.cs))] V (.alc (cs:=[(vi 0),.nils]) H V V fun σ H => (.aV V (.sV [(vi x3.Index),(vl Span.cs x3.Ticks)] H 0 V fun σ H => (.na H fun H => (.then (.Z2L 26 V (by kernel_rfl) H fun b13 σ H B13 => (.ZX H 0 V V V V V (so (B13 0 _ V _ V)) V ?_))))))));refine .ld (vl Span.cs x3.Ticks) H 0 V V V V V (so (B13 0 _ V _ V)) V ?_;obtain ⟨x4,q4,h⟩:=bs h;refine .cV (Z6t q4) V (.tV V (.mV V ?_));refine .md H 5 [(60,(vb ((!x4) || (!(Z0W x3.Index))))),(1,(.ptr (b1 + 0) 4 0)),(5,(vi s2)),(6,(.ptr (b12 + 3) 2 0)),(44,(vl Granule.cs f.Odd)),(45,(vi (f.Odd.length:Int))),(46,(vi s2))] [.blk (b12 + 3) 61 [(vi x3.Index),(vl Span.cs x3.Ticks)],.blk (b1 + 0) 25 (vF f)] rfl ?_ fun e σ H => ?_
     ·refine .split V V ?_ ?_ <;> intro hc8
      ·refine .ps 4 V (.kT V (.nil ?_));exact ⟨⟨or_T hc8,V,V,V,V,V,V,U⟩,H.wk (by omega)⟩
      ·refine .wt V V (.ZX H 0 V V V V V (so (B13 0 _ V _ V)) V (.wt V V (.ld (vi x3.Index) H 0 V V V V V (so (B13 0 _ V _ V)) V (.cV (Z4L V) V (.tV V (.kF V (.nil ?_)))))));exact ⟨⟨or_F hc8,V,V,V,V,V,V,U⟩,H.wk (by omega)⟩
     refine .mV V ?_;obtain ⟨y3,hj3,h⟩:=bs h;refine .md H 15 [(76,(vb y3)),(1,(.ptr (b1 + 0) 4 0)),(44,(vl Granule.cs f.Odd)),(45,(vi (f.Odd.length:Int))),(46,(vi s2))] [.blk (b1 + 0) 25 (vF f)] V ?_ fun e σ H => ?_
     ·refine .sp hj3 V ?_ ?_ <;> intro h
      ·refine .ps 14 V (.kT V (.nil ?_));obtain rfl:=sj h;exact ⟨EI V,(H.erase 0).wk (by omega)⟩
      refine .mV V (.iV V (.mV V ?_));obtain ⟨y4,hj4,h⟩:=bs h;refine .md H 11 [(75,(vb y4)),(1,(.ptr (b1 + 0) 4 0)),(44,(vl Granule.cs f.Odd)),(45,(vi (f.Odd.length:Int))),(46,(vi s2)),(61,(vb false))] [.blk (b1 + 0) 25 (vF f)] V ?_ fun e σ H => ?_
      ·refine .sp hj4 V ?_ ?_ <;> intro h
       ·refine .wt V V (.ZX H 0 V V V V V (so (B13 0 _ V _ V)) V (.wt V V (.ld (vi x3.Index) H 0 V V V V V (so (B13 0 _ V _ V)) V (.wt V V (.ZX H 1 V V V V V (so (B13 1 _ V _ V)) V (.wt V V (.ld (vl Granule.cs f.Odd) H 1 V V V V V (so (B13 1 _ V _ V)) V (.mV V ?_))))))));refine .iV V (.wt V V ?_);obtain ⟨x5,q5,h⟩:=bs h;refine .jV q5 V (.wt V V (.Z09 V V V V (.pV V (.iV V (.kT V (.nil ?_))))));obtain rfl:=sj h;exact ⟨EI V,(H.erase 0).wk (by omega)⟩
       refine .ps 10 V (.kF V (.nil ?_));obtain rfl:=sj h;exact ⟨EI V,(H.erase 0).wk (by omega)⟩
      refine .kF V (.nil ?_);obtain rfl:=sj h;exact ⟨EI V,H.wk (by omega)⟩
     refine .na H fun H => ?_;refine .wh h V ?_ ?_ <;> intro h
     ·refine .tR 1 V H fun b14 σ H => (.aV V (.na H fun H => (.ret ?_)));obtain rfl:=sj h;exact ⟨nofun,(.inr ⟨_,V,V,(Ends.H (xs:=[(vb false)]) (.inr V) H (.tmp (v:=(vb false)) V .nil) (.one (.c (.v _))))⟩)⟩
     refine .skip (.ZF 2 V H fun b15 σ H => (.iV V (.mV V (.na H fun H => ?_))));obtain rfl:=sj h;exact ⟨V,EI V,H⟩
    refine .exit ?_;obtain rfl:=sj h;exact ⟨nofun,(.inl ⟨_,V,V,U,(H.erase 0)⟩)⟩
   ·rintro x e σ (⟨a4,rfl,rfl,he,H⟩ | ⟨r',rfl,rfl,hE⟩)
    ·replace h:=jgo h;obtain ⟨e,rfl⟩:=he.ex;refine .tR 1 V H fun b16 σ H => (.aV V (.na H fun H => (.ret ?_)));obtain rfl:=sj h;exact Ends.eR V
    ·replace h:=jret h;obtain rfl:=sj h;exact hE
  ·replace h:=jret h;obtain rfl:=sj h;exact hE
theorem gran_turns_fn {f:Form} {r:Bool} (h:Z03 f = some r):Fn CX 57 [(.agg (vs (Form.cs f)))] (vb r):=by
 refine Fn.go Try.func57 V fun σ H => ?_;unfold Z03 at h;refine .tR 2 V H fun b1 σ H => (.bxc (cs:=(vF f)) H V V V fun σ H => (.aV V (.na H fun H => (.tR 1 V H fun b2 σ H => (.a1 .nils V V (.na H fun H => (.then (.tR 4 V H fun b3 σ H => ?_))))))));refine .fV H 0 V (.lV H 0 V (.nV V (.mV V (.na H fun H => (.inBlock ?_)))));replace H:=H.pushNil 37 1 true;obtain ⟨y1,hj1,h⟩:=bs h;obtain ⟨n1,hj1⟩:=ZK.1 hj1;refine .mono (Runs.loopO hj1 (fun s2 e σ => ∃ (w3:PV),Z8 e [(1,(.ptr (b1 + 0) 4 0)),(3,w3),(11,(vl (cL Span.cs) f.Core)),(12,(vi (f.Core.length:Int))),(13,(vi s2.1))]∧Hs σ [.sl w3 37 1 (s2.2.map (cL Span.cs)) true,.blk (b1 + 0) 25 (vF f)]) (fun y1 x e σ => ∃ (w4:PV),x = .exit 0∧Z8 e [(1,(.ptr (b1 + 0) 4 0)),(3,w4)]∧Hs σ [.sl w4 37 1 (y1.map (cL Span.cs)) true,.blk (b1 + 0) 25 (vF f)]) ⟨.nils,EI V,H⟩ ?_) ?_
 ·intro s2 e σ hI z h;obtain ⟨w3,he,H⟩:=hI;obtain ⟨e,rfl⟩:=he.ex;unfold Z03.s0 at h;refine .tR 1 V H fun b4 σ H => (.iV V (.na H fun H => (.then ?_)));refine .wh h V ?_ ?_ <;> intro h
  ·refine .skip (.then ?_);obtain ⟨y2,hj2,h⟩:=bs h;refine .mono (Q:=fun x e σ => ∃ (w5:PV),x = .normal∧Z8 e [(1,(.ptr (b1 + 0) 4 0)),(3,w5),(11,(vl (cL Span.cs) f.Core)),(12,(vi (f.Core.length:Int))),(13,(vi s2.1))]∧Hs σ [.sl w5 37 1 (y2.map (cL Span.cs)) true,.blk (b1 + 0) 25 (vF f)]) ?_ ?_
   ·replace h:=hj2;refine .inBlock ?_;obtain ⟨y3,hj3,h⟩:=bs h;refine .mono (Q:=fun x e σ => ∃ (w6:PV),x = .normal∧Z8 e [(1,(.ptr (b1 + 0) 4 0)),(3,w6),(11,(vl (cL Span.cs) f.Core)),(12,(vi (f.Core.length:Int))),(13,(vi s2.1))]∧Hs σ [.sl w6 37 1 (y3.map (cL Span.cs)) true,.blk (b1 + 0) 25 (vF f)]) ?_ ?_
    ·replace h:=hj3;refine .tR 3 V H fun b5 σ H => ?_;obtain ⟨x1,q1,h⟩:=bs h;refine .jV q1 V (.pV V (.aV V (.na H fun H => (.tR 3 V H fun b6 σ H => (.mV V (.nV V (.iV V (.na H fun H => ?_))))))));refine .wh h V ?_ ?_ <;> intro h
     ·refine .ZF 5 V H fun b7 σ H => (.m1 w3 V V (.mV V (.Z2K (sz:=1) ([x1].map (cL Span.cs)) H (by omega) (by omega) V V V V V V V V V fun σ H => ?_)));obtain ⟨x2,q2,h⟩:=bs h;refine .Z28 (c:=(cL Span.cs)) (v:=w3) (w:=(.buf (b7 + 2) 1 1)) (xs:=s2.2) (ys:=[x1]) H (by omega) (by omega) 1 V V V (.s 0 V) q2 V V V V V nofun V fun w7 σ H => (.a1 w7 V V (.na H fun H => ?_));obtain rfl:=sj h;exact ⟨w7,V,EI V,(H.erase 0)⟩
     refine .skip ?_;obtain rfl:=sj h;exact ⟨w3,V,EI V,H⟩
    ·rintro x e σ ⟨w8,rfl,he,H⟩;obtain ⟨e,rfl⟩:=he.ex;obtain rfl:=sj h;exact ⟨w8,V,EI V,H⟩
   ·rintro x e σ ⟨w9,rfl,he,H⟩;obtain ⟨e,rfl⟩:=he.ex;refine .ZF 2 V H fun b8 σ H => (.iV V (.mV V (.na H fun H => ?_)));obtain rfl:=sj h;exact ⟨V,w9,EI V,H⟩
  refine .exit ?_;obtain rfl:=sj h;exact ⟨nofun,⟨w3,V,EI V,H⟩⟩
 ·rintro x e σ ⟨w10,rfl,he,H⟩;obtain ⟨e,rfl⟩:=he.ex;refine .then (.tR 3 V H fun b9 σ H => (.m1 w10 V V (.Z7w (c:=(cL Span.cs)) (xs:=y1) H 0 V V V nofun V (.mV V (.na H fun H => (.inBlock ?_))))));obtain ⟨y4,hj4,h⟩:=bs h;obtain ⟨n2,hj4⟩:=ZK.1 hj4;refine .mono (Runs.loopO hj4 (fun s3 e σ => Z8 e [(1,(.ptr (b1 + 0) 4 0)),(3,w10),(25,w10),(26,(vi (y1.length:Int))),(27,(vi s3))]∧Hs σ [.sl w10 37 1 (y1.map (cL Span.cs)) true,.blk (b1 + 0) 25 (vF f)]) (fun y4 x e σ => (∃ a1,y4 = (.go a1)∧x = .exit 2∧Z8 e []∧Hs σ [])∨(∃ r',y4 = (.ret r')∧x = .ret∧Ends CX Try.f57.results.toList (vb r') x e σ)) ⟨EI V,H⟩ ?_) ?_
  ·intro s3 e σ hI z h;obtain ⟨he,H⟩:=hI;obtain ⟨e,rfl⟩:=he.ex;unfold Z03.s1 at h;refine .tR 1 V H fun b10 σ H => (.iV V (.na H fun H => (.then ?_)));refine .wh h V ?_ ?_ <;> intro h
   ·refine .skip (.then ?_);obtain ⟨y5,hj5,h⟩:=bs h;refine .mono (Q:=fun x e σ => (∃ a2,y5 = (.go a2)∧x = .normal∧Z8 e [(1,(.ptr (b1 + 0) 4 0)),(3,w10),(25,w10),(26,(vi (y1.length:Int))),(27,(vi s3))]∧Hs σ [.sl w10 37 1 (y1.map (cL Span.cs)) true,.blk (b1 + 0) 25 (vF f)])∨(∃ r',y5 = (.ret r')∧x = .ret∧Ends CX Try.f57.results.toList (vb r') x e σ)) ?_ ?_
    ·replace h:=hj5;refine .inBlock ?_;obtain ⟨y6,hj6,h⟩:=bs h;refine .mono (Q:=fun x e σ => (∃ a3,y6 = (.go a3)∧x = .normal∧Z8 e [(1,(.ptr (b1 + 0) 4 0)),(3,w10),(25,w10),(26,(vi (y1.length:Int))),(27,(vi s3))]∧Hs σ [.sl w10 37 1 (y1.map (cL Span.cs)) true,.blk (b1 + 0) 25 (vF f)])∨(∃ r',y6 = (.ret r')∧x = .ret∧Ends CX Try.f57.results.toList (vb r') x e σ)) ?_ ?_
     ·replace h:=hj6;refine .tR 5 V H fun b11 σ H => (.mV V ?_);obtain ⟨x3,q3,h⟩:=bs h;refine .Z8M H 0 V V V (at?_map q3) V V nofun V ?_;intro id1 hv1;refine .loadS (id:=id1) (j:=0) (w:=(.sl (x3.map Span.cs))) H 0 V hv1 (by simp) (at?_map q3) V (by simp) V V V nofun V ?_;refine .aV V (.aV V (.na H fun H => (.tR 10 V H fun b12 σ H => (.m1 w10 V V (.mV V (.iV V (.m1 w10 V V (.Z7w (c:=(cL Span.cs)) (xs:=y1) H 0 V V V nofun V ?_))))))));obtain ⟨u1,q4,h⟩:=bs h;refine .rem (m:=(w64 (s3 + 1))) (m':=(y1.length:Int)) V V (nz_ne q4) V ?_;obtain ⟨x4,q5,h⟩:=bs h;refine .Z8M H 0 V V V (at?_map q5) V V nofun V ?_;intro id2 hv2;refine .loadS (id:=id2) (j:=0) (w:=(.sl (x4.map Span.cs))) H 0 V hv2 (by simp) (at?_map q5) V (by simp) V V V nofun V ?_;refine .aV V (.aV V (.na H fun H => (.then ?_)));refine .jn h .normal (fun y7 => [(1,(.ptr (b1 + 0) 4 0)),(3,w10),(7,(vl Span.cs x3)),(8,(vl Span.cs x4)),(9,(vi y7)),(25,w10),(26,(vi (y1.length:Int))),(27,(vi s3))]) (fun y7 => [.sl w10 37 1 (y1.map (cL Span.cs)) true,.blk (b1 + 0) 25 (vF f)]) (fun y7 h => ?_) fun y7 e σ H h => ?_
      ·refine .tR 5 V H fun b13 σ H => (.mV V (.iV V (.m1 w10 V V (.Z7w (c:=(cL Span.cs)) (xs:=y1) H 0 V V V nofun V (.iV V (.na H fun H => ?_))))));refine .wh h V ?_ ?_ <;> intro h
       ·refine .ZF 3 V H fun b14 σ H => (.fV H 1 V (.lV H 1 V (.aV V (.na H fun H => ?_))));obtain rfl:=sj h;exact ⟨V,EI V,H⟩
       refine .skip ?_;obtain rfl:=sj h;exact ⟨V,EI V,H⟩
      refine .then (.Z2L 14 V (by kernel_rfl) H fun b15 σ H B15 => (.mV V (.mV V (.nV V (.iV V ?_)))));obtain ⟨x5,q6,h⟩:=bs h;refine .jV q6 V (.Z09 V V V V (.pV V (.mV V ?_)));obtain ⟨x6,q7,h⟩:=bs h;refine .jV q7 V (.Z09 V V V V (.pV V (.mV V (.iV V (.iV V (.na H fun H => ?_))))));refine .wh h V ?_ ?_ <;> intro h
      ·refine .tR 1 V H fun b16 σ H => (.aV V (.na H fun H => (.ret ?_)));obtain rfl:=sj h;exact (.inr ⟨_,V,V,(Ends.H (xs:=[(vb false)]) (.inr V) H (.tmp (v:=(vb false)) V .nil) (.one (.c (.v _))))⟩)
      refine .skip ?_;obtain rfl:=sj h;exact (.inl ⟨_,V,V,EI V,H⟩)
     ·rintro x e σ (⟨a4,rfl,rfl,he,H⟩ | ⟨r',rfl,rfl,hE⟩)
      ·replace h:=jgo h;obtain ⟨e,rfl⟩:=he.ex;obtain rfl:=sj h;exact (.inl ⟨_,V,V,EI V,H⟩)
      ·replace h:=jret h;obtain rfl:=sj h;exact (.inr ⟨_,V,V,hE⟩)
    ·rintro x e σ (⟨a5,rfl,rfl,he,H⟩ | ⟨r',rfl,rfl,hE⟩)
     ·replace h:=jgo h;obtain ⟨e,rfl⟩:=he.ex;refine .ZF 2 V H fun b17 σ H => (.iV V (.mV V (.na H fun H => ?_)));obtain rfl:=sj h;exact ⟨V,EI V,H⟩
     ·replace h:=jret h;obtain rfl:=sj h;exact ⟨nofun,(.inr ⟨_,V,V,hE⟩)⟩
   refine .exit ?_;obtain rfl:=sj h;exact ⟨nofun,(.inl ⟨_,V,V,U,((H.erase 1).erase 0)⟩)⟩
  ·rintro x e σ (⟨a6,rfl,rfl,he,H⟩ | ⟨r',rfl,rfl,hE⟩)
   ·replace h:=jgo h;obtain ⟨e,rfl⟩:=he.ex;refine .tR 1 V H fun b18 σ H => (.aV V (.na H fun H => (.ret ?_)));obtain rfl:=sj h;exact Ends.eR V
   ·replace h:=jret h;obtain rfl:=sj h;exact hE
theorem Z1b {x':(List Granule)} {target:Int} {cmp:Granule→Int→Option Int} {C:List Res} {cv0:PV} (hs0:cv0.one = true) (hp0:cv0.pure = true→C = []) (hf0:∀ z0 z1 y,cmp z0 z1 = some y→CloH CX cv0 [(.agg (vs (Granule.cs z0))),(vi z1)] (vi y) C) {r:Int × Bool} (h:Z1 x' target cmp = some r):FnH CX 92 [(vl Granule.cs x'),(vi target),cv0] (.tup [(vi r.1),(vb r.2)]) C:=by
 refine FnH.of Try.func92 V V V V (Z2q V (Z2q V (Z2q (Z3D hs0) all_nil))) V (fun h => hp0 (Z3T h 2 V)) ?_;intro σ L hC H;unfold Z1 at h;refine .tR 2 V H fun b1 σ H => (.aV V (.aV V (.na H fun H => (.tR 3 V H fun b2 σ H => (.mV V (.nV V (.aV V (.na H fun H => ?_))))))));refine .tR 3 V H fun b3 σ H => (.mV V (.aV V (.aV V (.na H fun H => (.then (.inBlock ?_))))));refine .lp h (fun s1 => [(0,(vl Granule.cs x')),(1,(vi target)),(2,cv0),(8,(vi (x'.length:Int))),(9,(vi s1.1)),(10,(vi s1.2))]) (fun s1 => (L)) (.exit 0) (fun y1 => [(0,(vl Granule.cs x')),(1,(vi target)),(2,cv0),(8,(vi (x'.length:Int))),(9,(vi y1))]) (fun y1 => (L)) (EI V) H (fun s1 e σ H z h => ?_) fun y1 e σ H h => ?_
 ·unfold Z1.s0 at h;refine .then (.tR 3 V H fun b4 σ H => (.mV V (.mV V (.iV V (.na H fun H => ?_)))));refine .wh h V ?_ ?_ <;> intro h
  ·refine .skip (.inBlock ?_);refine .jn h .normal (fun y2 => [(0,(vl Granule.cs x')),(1,(vi target)),(2,cv0),(8,(vi (x'.length:Int))),(9,(vi y2.1)),(10,(vi y2.2))]) (fun y2 => (L)) (fun y2 h => ?_) fun y2 e σ H h => ?_
   ·refine .tR 7 V H fun b5 σ H => (.mV V (.mV V (.iV V (.conv (m:=(w64 (s1.1 + s1.2))) V V V V (.shr (m:=(IntKind.u64.wrap (w64 (s1.1 + s1.2)))) (m':=1) V V (by decide) V (.conv (m:=((IntKind.u64.wrap (w64 (s1.1 + s1.2))).fdiv (2 ^ 1))) V V V V (.aV V (.na H fun H => ?_))))))));refine .tR 8 V H fun b6 σ H => (.m1 cv0 V V (.mV V (.mV V ?_)));obtain ⟨x1,q1,h⟩:=bs h;refine .jV q1 V (.qV [(.int .i64 x1.Index),(.sl (x1.Ticks.map Span.cs))] V (.mV V ?_));obtain ⟨x2,q2,h⟩:=bs h;refine .callV (cv:=cv0) (ys:=[(.agg (vs (Granule.cs x1))),(vi target)]) (r:=(vi x2)) H V V (hf0 x1 target _ q2) hC nofun V fun σ H => (.iV V (.na H fun H => ?_));refine .wh h V ?_ ?_ <;> intro h
    ·refine .ZF 3 V H fun b7 σ H => (.mV V (.iV V (.aV V (.na H fun H => ?_))));obtain rfl:=sj h;exact ⟨V,EI V,H⟩
    refine .ZF 2 V H fun b8 σ H => (.mV V (.aV V (.na H fun H => ?_)));obtain rfl:=sj h;exact ⟨V,EI V,H⟩
   obtain rfl:=sj h;exact ⟨V,EI V,H⟩
  refine .exit ?_;obtain rfl:=sj h;exact ⟨nofun,⟨V,EI V,H⟩⟩
 refine .tR 16 V H fun b9 σ H => (.mV V (.mV V (.mV V (.iV V (.mV V ?_)))));obtain ⟨y3,hj3,h⟩:=bs h;refine .md H 9 [(48,(vb y3)),(35,(vi y1))] (L) V ?_ fun e σ H => ?_
 ·refine .sp hj3 V ?_ ?_ <;> intro h
  ·refine .m1 cv0 V V (.mV V (.mV V (.wt V V ?_)));obtain ⟨x3,q3,h⟩:=bs h;refine .jV q3 V (.qV [(.int .i64 x3.Index),(.sl (x3.Ticks.map Span.cs))] V (.mV V (.wt V V ?_)));obtain ⟨x4,q4,h⟩:=bs h;refine .callV (cv:=cv0) (ys:=[(.agg (vs (Granule.cs x3))),(vi target)]) (r:=(vi x4)) H V V (hf0 x3 target _ q4) hC nofun V fun σ H => (.iV V (.kT V (.nil ?_)));obtain rfl:=sj h;exact ⟨EI V,H.wk (by omega)⟩
  refine .ps 8 V (.kF V (.nil ?_));obtain rfl:=sj h;exact ⟨EI V,H.wk (by omega)⟩
 refine .aV V (.aV V (.na H fun H => (.ret ?_)));obtain rfl:=sj h;exact (EndsH.H (xs:=[(vi y1),(vb y3)]) (.inr V) H (.tmp (v:=(vi y1)) V (.tmp (v:=(vb y3)) V .nil)) (.two (.cons (.c (.v _)) (.cons (.c (.v _)) .nil))) 0 V)
theorem Z5k {x':Int} {r:Bool} (h:Z2I x' = r):Fn CX 103 [(vi x')] (vb r):=by
 refine Fn.go Try.func103 V fun σ H => ?_;unfold Z2I at h;refine .tR 1 V H fun b1 σ H => (.aV V (.na H fun H => (.tR 4 V H fun b2 σ H => (.mV V (.mV V (.iV V (.aV V (.na H fun H => ?_))))))));refine .ret ?_;subst h;exact Ends.eR V
theorem Z8S {x':Int} {y:Int} {r:Int} (h:Z2E x' y = r):Fn CX 94 [(vi x'),(vi y)] (vi r):=by
 refine Fn.go Try.func94 V fun σ H => ?_;unfold Z2E at h;refine .tR 1 V H fun b1 σ H => (.aV V (.na H fun H => (.tR 3 V H fun b2 σ H => (.mV V (.cV (Z5k V) V (.aV V (.na H fun H => (.tR 3 V H fun b3 σ H => ?_))))))));refine .mV V (.cV (Z5k V) V (.aV V (.na H fun H => (.then (.tR 1 V H fun b4 σ H => (.mV V (.na H fun H => ?_)))))));refine .wh h V ?_ ?_ <;> intro h
 ·refine .then (.tR 1 V H fun b5 σ H => (.mV V (.na H fun H => ?_)));refine .wh h V ?_ ?_ <;> intro h
  ·refine .tR 1 V H fun b6 σ H => (.aV V (.na H fun H => (.ret ?_)));subst h;exact Ends.eR V
  refine .skip (.tR 1 V H fun b7 σ H => (.aV V (.na H fun H => (.ret ?_))));subst h;exact Ends.eR V
 refine .skip (.then (.tR 1 V H fun b8 σ H => (.mV V (.na H fun H => ?_))));refine .wh h V ?_ ?_ <;> intro h
 ·refine .tR 1 V H fun b9 σ H => (.aV V (.na H fun H => (.ret ?_)));subst h;exact Ends.eR V
 refine .skip (.then (.tR 3 V H fun b10 σ H => (.mV V (.mV V (.iV V (.na H fun H => ?_))))));refine .wh h V ?_ ?_ <;> intro h
 ·refine .tR 1 V H fun b11 σ H => (.aV V (.na H fun H => (.ret ?_)));subst h;exact Ends.eR V
 refine .skip (.then (.tR 3 V H fun b12 σ H => (.mV V (.mV V (.iV V (.na H fun H => ?_))))));refine .wh h V ?_ ?_ <;> intro h
 ·refine .tR 1 V H fun b13 σ H => (.aV V (.na H fun H => (.ret ?_)));subst h;exact Ends.eR V
 refine .skip (.tR 1 V H fun b14 σ H => (.aV V (.na H fun H => (.ret ?_))));subst h;exact Ends.eR V
theorem gran_odd_1_fn {g:Granule} {i:Int} {r:Int} (h:Z35 g i = r):Fn CX 93 [(.agg (vs (Granule.cs g))),(vi i)] (vi r):=by
 refine Fn.go Try.func93 V fun σ H => ?_;unfold Z35 at h;refine .tR 2 V H fun b1 σ H => (.bxc (cs:=[(vi g.Index),(vl Span.cs g.Ticks)]) H V V V fun σ H => (.aV V (.na H fun H => (.tR 5 V H fun b2 σ H => (.fV H 0 V (.lV H 0 V (.mV V (.cV (Z8S V) V ?_))))))));refine .aV V (.na H fun H => (.ret ?_));subst h;exact Ends.eR V
theorem ZAF {f:Form} {i:Int} {r:Int × Bool} (h:Z48 f i = some r):Fn CX 67 [(.agg (vs (Form.cs f))),(vi i)] (.tup [(vi r.1),(vb r.2)]):=by
 refine Fn.go Try.func67 V fun σ H => ?_;unfold Z48 at h;refine .tR 3 V H fun b1 σ H => (.bxc (cs:=(vF f)) H V V V fun σ H => (.aV V (.aV V (.na H fun H => (.tR 8 V H fun b2 σ H => (.fV H 0 V (.lV H 0 V (.mV V ?_))))))));obtain ⟨x1,q1,h⟩:=bs h;refine .Z7h (ys:=[(vl Granule.cs f.Odd),(vi i),(.v (.fn 93))]) (r:=(.tup [(vi x1.1),(vb x1.2)])) H V (Z1b (C:=[]) V (fun _ => V) (fun z0 z1 y hz => (CloH.fn (Fn.toH (gran_odd_1_fn (Option.some.inj hz)) _))) q1) .nil nofun V fun σ H => (.xV V (.xV V (.aV V (.aV V (.na H fun H => (.ret ?_))))));obtain rfl:=sj h;exact Ends.eR V
theorem Z42 {a:Int} {b:Int} {r:Int × Int × Int} (h:Z0X a b = some r):Fn CX 32 [(vi a),(vi b)] (.tup [(vi r.1),(vi r.2.1),(vi r.2.2)]):=by
 refine Fn.go Try.func32 V fun σ H => ?_;unfold Z0X at h;refine .tR 3 V H fun b1 σ H => (.aV V (.aV V (.aV V (.na H fun H => (.then (.inBlock (.tR 3 V H fun b2 σ H => (.mV V ?_))))))));refine .iV V (.aV V (.na H fun H => ?_));refine .wh h V ?_ ?_ <;> intro h
 ·refine .tR 3 V H fun b3 σ H => (.aV V (.aV V (.aV V (.na H fun H => (.ret ?_)))));obtain rfl:=sj h;exact Ends.eR V
 refine .tR 7 V H fun b4 σ H => (.mV V (.iV V (.mV V ?_)));refine .md H 3 [(18,(vb ((b == (-1)) && (a == (-9223372036854775808))))),(0,(vi a)),(1,(vi b))] [] V ?_ fun e σ H => ?_
 ·refine .split V V ?_ ?_ <;> intro hc2
  ·refine .mV V (.iV V (.kT V (.nil ?_)));exact ⟨⟨Z10 hc2,V,V,U⟩,H.wk (by omega)⟩
  ·refine .ps 2 V (.kF V (.nil ?_));exact ⟨⟨Z12 hc2,V,V,U⟩,H.wk (by omega)⟩
 refine .aV V (.na H fun H => ?_);refine .wh h V ?_ ?_ <;> intro h
 ·refine .tR 3 V H fun b5 σ H => (.aV V (.aV V (.aV V (.na H fun H => (.ret ?_)))));obtain rfl:=sj h;exact Ends.eR V
 refine .skip (.then (.Z2L 8 V (by kernel_rfl) H fun b6 σ H B6 => (.mV V (.mV V ?_))));obtain ⟨u1,q1,h⟩:=bs h;refine .quo (m:=a) (m':=b) V V (nz_ne q1) V (.mV V (.mV V ?_));obtain ⟨u2,q2,h⟩:=bs h;refine .rem (m:=a) (m':=b) V V (nz_ne q2) V (.aV V (.aV V (.na H fun H => (.then ?_))));refine .jn h .normal (fun y1 => [(7,(vi y1.1)),(8,(vi y1.2))]) (fun y1 => []) (fun y1 h => ?_) fun y1 e σ H h => ?_
 ·refine .tR 9 V H fun b7 σ H => (.mV V (.iV V (.mV V ?_)));refine .md H 6 [(33,(vb (((a.tmod b) != 0) && ((decide ((a.tmod b) < 0)) != (decide (b < 0)))))),(1,(vi b)),(7,(vi (w64 (a.tdiv b)))),(8,(vi (a.tmod b)))] [] V ?_ fun e σ H => ?_
  ·refine .split V V ?_ ?_ <;> intro hc4
   ·refine .mV V (.iV V (.mV V (.iV V (.wt V V (.neB (b:=(decide ((a.tmod b) < 0))) (b':=(decide (b < 0))) V V V V (.kT V (.nil ?_)))))));exact ⟨⟨Z10 hc4,V,V,V,U⟩,H.wk (by omega)⟩
   ·refine .ps 5 V (.kF V (.nil ?_));exact ⟨⟨Z12 hc4,V,V,V,U⟩,H.wk (by omega)⟩
  refine .na H fun H => ?_;refine .wh h V ?_ ?_ <;> intro h
  ·refine .ZF 7 V H fun b8 σ H => (.mV V (.iV V (.mV V (.mV V (.iV V (.aV V (.aV V (.na H fun H => ?_))))))));obtain rfl:=sj h;exact ⟨V,EI V,H⟩
  refine .skip ?_;obtain rfl:=sj h;exact ⟨V,EI V,H⟩
 refine .tR 5 V H fun b9 σ H => (.mV V (.mV V (.aV V (.aV V (.aV V (.na H fun H => (.ret ?_)))))));obtain rfl:=sj h;exact Ends.eR V
theorem Z4W {a:Int} {r:Int} (h:ZN a = r):Fn CX 79 [(vi a)] (vu r):=by
 refine Fn.go Try.func79 V fun σ H => ?_;unfold ZN at h;refine .tR 1 V H fun b1 σ H => (.aV V (.na H fun H => (.then (.tR 2 V H fun b2 σ H => (.mV V (.iV V (.na H fun H => ?_)))))));refine .wh h V ?_ ?_ <;> intro h
 ·refine .tR 4 V H fun b3 σ H => (.mV V (.conv (m:=a) V V V V (.neg (m:=(IntKind.u64.wrap a)) V V (.aV V (.na H fun H => (.ret ?_))))));subst h;exact Ends.eR V
 refine .skip (.tR 3 V H fun b4 σ H => (.mV V (.conv (m:=a) V V V V (.aV V (.na H fun H => (.ret ?_))))));subst h;exact Ends.eR V
theorem Z4f {x':Int} {y:Int} {r:Int × Int} (h:Zl x' y = r):Fn CX 80 [(vu x'),(vu y)] (.tup [(vu r.1),(vu r.2)]):=by
 refine Fn.go Try.func80 V fun σ H => ?_;unfold Zl at h;refine .tR 2 V H fun b1 σ H => (.aV V (.aV V (.na H fun H => (.tR 3 V H fun b2 σ H => (.mV V (.iV V (.aV V (.na H fun H => ?_))))))));refine .tR 3 V H fun b3 σ H => (.mV V (.shr (m:=x') (m':=32) V V (by decide) V (.aV V (.na H fun H => (.tR 3 V H fun b4 σ H => (.mV V (.iV V (.aV V ?_))))))));refine .na H fun H => (.tR 3 V H fun b5 σ H => (.mV V (.shr (m:=y) (m':=32) V V (by decide) V (.aV V (.na H fun H => (.tR 4 V H fun b6 σ H => (.mV V (.mV V ?_))))))));refine .iV V (.aV V (.na H fun H => (.tR 7 V H fun b7 σ H => (.mV V (.mV V (.iV V (.mV V (.shr (m:=(IntKind.u64.wrap ((iAnd .u64 x' 4294967295) * (iAnd .u64 y 4294967295)))) (m':=32) V V (by decide) V ?_))))))));refine .iV V (.aV V (.na H fun H => (.tR 3 V H fun b8 σ H => (.mV V (.iV V (.aV V (.na H fun H => (.tR 3 V H fun b9 σ H => ?_))))))));refine .mV V (.shr (m:=(IntKind.u64.wrap ((IntKind.u64.wrap ((x'.fdiv (2 ^ 32)) * (iAnd .u64 y 4294967295))) + ((IntKind.u64.wrap ((iAnd .u64 x' 4294967295) * (iAnd .u64 y 4294967295))).fdiv (2 ^ 32))))) (m':=32) V V (by decide) V (.aV V (.na H fun H => (.tR 6 V H fun b10 σ H => (.mV V (.mV V (.mV V (.iV V ?_))))))));refine .iV V (.aV V (.na H fun H => (.tR 9 V H fun b11 σ H => (.mV V (.mV V (.iV V (.mV V (.iV V ?_))))))));refine .mV V (.shr (m:=(IntKind.u64.wrap ((iAnd .u64 (IntKind.u64.wrap ((IntKind.u64.wrap ((x'.fdiv (2 ^ 32)) * (iAnd .u64 y 4294967295))) + ((IntKind.u64.wrap ((iAnd .u64 x' 4294967295) * (iAnd .u64 y 4294967295))).fdiv (2 ^ 32)))) 4294967295) + (IntKind.u64.wrap ((iAnd .u64 x' 4294967295) * (y.fdiv (2 ^ 32))))))) (m':=32) V V (by decide) V (.iV V (.aV V (.na H fun H => (.tR 4 V H fun b12 σ H => (.mV V (.mV V (.iV V ?_))))))))
 refine .aV V (.na H fun H => (.ret ?_));subst h;exact Ends.eR V
theorem Z7A {n:Int} {minus:Bool} {r:Int × Int} (h:Z1A n minus = r):Fn CX 77 [(vu n),(vb minus)] (.tup [(vi r.1),(vi r.2)]):=by
 refine Fn.go Try.func77 V fun σ H => ?_;unfold Z1A at h;refine .tR 2 V H fun b1 σ H => (.aV V (.aV V (.na H fun H => (.then (.inBlock (.tR 6 V H fun b2 σ H => (.mV V (.mV V ?_))))))));refine .md H 3 [(11,(vb (minus && (decide (n≤9223372036854775808))))),(0,(vu n)),(1,(vb minus))] [] V ?_ fun e σ H => ?_
 ·refine .split V V ?_ ?_ <;> intro hc1
  ·refine .mV V (.iV V (.kT V (.nil ?_)));exact ⟨⟨Z10 hc1,V,V,U⟩,H.wk (by omega)⟩
  ·refine .ps 2 V (.kF V (.nil ?_));exact ⟨⟨Z12 hc1,V,V,U⟩,H.wk (by omega)⟩
 refine .aV V (.na H fun H => ?_);refine .wh h V ?_ ?_ <;> intro h
 ·refine .tR 5 V H fun b3 σ H => (.mV V (.neg (m:=n) V V (.conv (m:=(IntKind.u64.wrap (0 - n))) V V V V (.aV V (.aV V (.na H fun H => (.ret ?_)))))));subst h;exact Ends.eR V
 refine .tR 7 V H fun b4 σ H => (.mV V (.tV V (.mV V ?_)));refine .md H 3 [(21,(vb ((!minus) && (decide (n≤9223372036854775807))))),(0,(vu n))] [] V ?_ fun e σ H => ?_
 ·refine .split V V ?_ ?_ <;> intro hc3
  ·refine .mV V (.iV V (.kT V (.nil ?_)));exact ⟨⟨Z10 hc3,V,U⟩,H.wk (by omega)⟩
  ·refine .ps 2 V (.kF V (.nil ?_));exact ⟨⟨Z12 hc3,V,U⟩,H.wk (by omega)⟩
 refine .aV V (.na H fun H => ?_);refine .wh h V ?_ ?_ <;> intro h
 ·refine .tR 4 V H fun b5 σ H => (.mV V (.conv (m:=n) V V V V (.aV V (.aV V (.na H fun H => (.ret ?_))))));subst h;exact Ends.eR V
 refine .skip (.tR 2 V H fun b6 σ H => (.aV V (.aV V (.na H fun H => (.ret ?_)))));subst h;exact Ends.eR V
theorem Z79 {a:Int} {b:Int} {r:Int × Int} (h:Za a b = r):Fn CX 50 [(vi a),(vi b)] (.tup [(vi r.1),(vi r.2)]):=by
 refine Fn.go Try.func50 V fun σ H => ?_;unfold Za at h;refine .tR 2 V H fun b1 σ H => (.aV V (.aV V (.na H fun H => (.tR 10 V H fun b2 σ H => (.mV V (.cV (Z4W V) V (.mV V (.cV (Z4W V) V ?_))))))));refine .cV (Z4f V) V (.m1 (.tup [(vu (Zl (ZN a) (ZN b)).1),(vu (Zl (ZN a) (ZN b)).2)]) V V (.xV V (.xV V (.aV V (.aV V (.na H fun H => (.then (.tR 2 V H fun b3 σ H => ?_))))))));refine .mV V (.iV V (.na H fun H => ?_));refine .wh h V ?_ ?_ <;> intro h
 ·refine .tR 2 V H fun b4 σ H => (.aV V (.aV V (.na H fun H => (.ret ?_))));subst h;exact Ends.eR V
 refine .skip (.tR 11 V H fun b5 σ H => (.mV V (.mV V (.iV V (.mV V (.iV V (.neB (b:=(decide (a < 0))) (b':=(decide (b < 0))) V V V V (.cV (Z7A V) V ?_))))))));refine .xV V (.xV V (.aV V (.aV V (.na H fun H => (.ret ?_)))));subst h;exact Ends.eR V
theorem Z95 {f:Form} {i:Int} {r:(List Span) × Int × Int} (h:Z2F f i = some r):Fn CX 42 [(.agg (vs (Form.cs f))),(vi i)] (.tup [(vl Span.cs r.1),(vi r.2.1),(vi r.2.2)]):=by
 refine Fn.go Try.func42 V fun σ H => ?_;unfold Z2F at h;refine .tR 4 V H fun b1 σ H => (.bxc (cs:=(vF f)) H V V V fun σ H => (.a1 .nils V V (.aV V (.aV V (.na H fun H => (.then (.tR 8 V H fun b2 σ H => (.LV (vF f) H 0 V ?_))))))));refine .mV V ?_;obtain ⟨x1,q1,h⟩:=bs h;refine .cV (ZAF q1) V (.m1 (.tup [(vi x1.1),(vb x1.2)]) V V (.xV V (.xV V (.aV V (.aV V (.na H fun H => (.tR 1 V H fun b3 σ H => (.mV V ?_))))))));refine .na H fun H => ?_;refine .wh h V ?_ ?_ <;> intro h
 ·refine .tR 9 V H fun b4 σ H => (.fV H 0 V (.lV H 0 V (.mV V ?_)));obtain ⟨x2,q2,h⟩:=bs h;refine .jV q2 V (.Z09 V V V V (.pV V (.aV V (.aV V (.aV V (.na H fun H => (.ret ?_)))))));obtain rfl:=sj h;exact Ends.eR V
 refine .skip (.then (.tR 3 V H fun b5 σ H => (.fV H 0 V (.lV H 0 V (.iV V (.na H fun H => ?_))))));refine .wh h V ?_ ?_ <;> intro h
 ·refine .tR 3 V H fun b6 σ H => (.a1 .nils V V (.aV V (.aV V (.na H fun H => (.ret ?_)))));obtain rfl:=sj h;exact (Ends.H (xs:=[.nils,(vi 0),(vi 0)]) (.inr V) H (.tmp (v:=.nils) V (.tmp (v:=(vi 0)) V (.tmp (v:=(vi 0)) V .nil))) (.two (.cons (.c .n) (.cons (.c (.v _)) (.cons (.c (.v _)) .nil)))))
 refine .skip (.tR 11 V H fun b7 σ H => (.mV V (.fV H 0 V (.lV H 0 V ?_))));obtain ⟨x3,q3,h⟩:=bs h;refine .cV (Z42 q3) V (.m1 (.tup [(vi x3.1),(vi x3.2.1),(vi x3.2.2)]) V V (.xV V (.xV V (.xV V (.aV V (.aV V (.aV V (.na H fun H => ?_))))))));refine .tR 9 V H fun b8 σ H => (.mV V (.fV H 0 V (.lV H 0 V (.cV (Z79 V) V (.m1 (.tup [(vi (Za x3.1 f.Period).1),(vi (Za x3.1 f.Period).2)]) V V (.xV V (.xV V (.aV V ?_))))))));refine .aV V (.na H fun H => (.tR 10 V H fun b9 σ H => (.fV H 0 V (.lV H 0 V (.mV V ?_)))));obtain ⟨x4,q4,h⟩:=bs h;refine .jV q4 V (.pV V (.mV V (.mV V (.aV V (.aV V (.aV V (.na H fun H => (.ret ?_))))))));obtain rfl:=sj h;exact Ends.eR V
theorem ZAQ {a:Int} {b:Int} {r:Int × Int} (h:ZP a b = r):Fn CX 68 [(vi a),(vi b)] (.tup [(vi r.1),(vi r.2)]):=by
 refine Fn.go Try.func68 V fun σ H => ?_;unfold ZP at h;refine .tR 2 V H fun b1 σ H => (.aV V (.aV V (.na H fun H => (.tR 4 V H fun b2 σ H => (.mV V (.mV V (.iV V (.aV V ?_))))))));refine .na H fun H => (.then (.tR 10 V H fun b3 σ H => (.mV V (.mV V (.iV V (.mV V (.iV V (.neB (b:=(decide ((w64 (a + b)) > a))) (b':=(decide (b > 0))) V V V V ?_))))))));refine .mV V ?_;refine .md H 3 [(19,(vb (((decide ((w64 (a + b)) > a)) != (decide (b > 0))) && (b != 0)))),(6,(vi (w64 (a + b))))] [] V ?_ fun e σ H => ?_
 ·refine .split V V ?_ ?_ <;> intro hc1
  ·refine .mV V (.iV V (.kT V (.nil ?_)));exact ⟨⟨Z10 hc1,V,U⟩,H.wk (by omega)⟩
  ·refine .ps 2 V (.kF V (.nil ?_));exact ⟨⟨Z12 hc1,V,U⟩,H.wk (by omega)⟩
 refine .na H fun H => ?_;refine .wh h V ?_ ?_ <;> intro h
 ·refine .tR 2 V H fun b4 σ H => (.aV V (.aV V (.na H fun H => (.ret ?_))));subst h;exact Ends.eR V
 refine .skip (.tR 3 V H fun b5 σ H => (.mV V (.aV V (.aV V (.na H fun H => (.ret ?_))))));subst h;exact Ends.eR V
end Go.Dn

namespace Go.Dn
open Go Go.Proofs
set_option maxRecDepth 100000
set_option maxHeartbeats 4000000
theorem Z7p {l:(List Span)} {by':Int} {r:(List Span) × Int} (h:Z02 l by' = some r):Fn CX 43 [(vl Span.cs l),(vi by')] (.tup [(vl Span.cs r.1),(vi r.2)]):=by
 refine Fn.go Try.func43 V fun σ H => ?_;unfold Z02 at h;refine .tR 2 V H fun b1 σ H => (.a1 .nils V V (.aV V (.na H fun H => (.tR 1 V H fun b2 σ H => (.a1 .nils V V (.na H fun H => (.then (.tR 3 V H fun b3 σ H => ?_))))))));refine .mV V (.nV V (.mV V (.na H fun H => (.inBlock ?_))));replace H:=H.pushNil 59 2 true;obtain ⟨y1,hj1,h⟩:=bs h;obtain ⟨n1,hj1⟩:=ZK.1 hj1;refine .mono (Runs.loopO hj1 (fun s2 e σ => ∃ (w3:PV),Z8 e [(1,(vi by')),(6,w3),(13,(vl Span.cs l)),(14,(vi (l.length:Int))),(15,(vi s2.1))]∧Hs σ [.sl w3 59 2 (s2.2.map Span.cs) true]) (fun y1 x e σ => (∃ a1,∃ (w4:PV),y1 = (.go a1)∧x = .exit 0∧Z8 e [(6,w4)]∧Hs σ [.sl w4 59 2 (a1.map Span.cs) true])∨(∃ r',y1 = (.ret r')∧x = .ret∧Ends CX Try.f43.results.toList (.tup [(vl Span.cs r'.1),(vi r'.2)]) x e σ)) ⟨.nils,EI V,H⟩ ?_) ?_
 ·intro s2 e σ hI z h;obtain ⟨w3,he,H⟩:=hI;obtain ⟨e,rfl⟩:=he.ex;unfold Z02.s0 at h;refine .tR 1 V H fun b4 σ H => (.iV V (.na H fun H => (.then ?_)));refine .wh h V ?_ ?_ <;> intro h
  ·refine .skip (.then (.inBlock (.tR 4 V H fun b5 σ H => ?_)));obtain ⟨x1,q1,h⟩:=bs h;refine .jV q1 V (.qV [(.int .i64 x1.From),(.int .i64 x1.To)] V (.alc (cs:=[(vi 0),(vi 0)]) H V V fun σ H => (.sV [(vi x1.From),(vi x1.To)] H 0 V fun σ H => (.na H fun H => (.tR 9 V H fun b6 σ H => (.fV H 0 V (.lV H 0 V (.mV V ?_))))))));refine .cV (ZAQ V) V (.m1 (.tup [(vi (ZP x1.From by').1),(vi (ZP x1.From by').2)]) V V (.xV V (.xV V (.aV V (.aV V (.na H fun H => (.tR 9 V H fun b7 σ H => (.fV H 0 V ?_))))))));refine .lV H 0 V (.mV V (.cV (ZAQ V) V (.m1 (.tup [(vi (ZP x1.To by').1),(vi (ZP x1.To by').2)]) V V (.xV V (.xV V (.aV V (.aV V (.na H fun H => ?_))))))));refine .then (.tR 16 V H fun b8 σ H => (.mV V (.iV V (.mV V ?_))));refine .md H 3 [(38,(vb ((((ZP x1.From by').2) != 0) || (((ZP x1.To by').2) != 0)))),(1,(vi by')),(6,w3),(9,(vi (ZP x1.From by').1)),(11,(vi (ZP x1.To by').1)),(13,(vl Span.cs l)),(14,(vi (l.length:Int))),(15,(vi s2.1))] [.sl w3 59 2 (s2.2.map Span.cs) true] rfl ?_ fun e σ H => ?_
   ·refine .split V V ?_ ?_ <;> intro hc2
    ·refine .ps 2 V (.kT V (.nil ?_));exact ⟨⟨or_T hc2,V,V,V,V,V,V,V,U⟩,(H.erase 0).wk (by omega)⟩
    ·refine .mV V (.iV V (.kF V (.nil ?_)));exact ⟨⟨or_F hc2,V,V,V,V,V,V,V,U⟩,(H.erase 0).wk (by omega)⟩
   refine .mV V ?_;refine .md H 4 [(43,(vb (((((ZP x1.From by').2) != 0) || (((ZP x1.To by').2) != 0)) || (!(Z0S ((ZP x1.From by').1)))))),(1,(vi by')),(6,w3),(9,(vi (ZP x1.From by').1)),(11,(vi (ZP x1.To by').1)),(13,(vl Span.cs l)),(14,(vi (l.length:Int))),(15,(vi s2.1))] [.sl w3 59 2 (s2.2.map Span.cs) true] rfl ?_ fun e σ H => ?_
   ·refine .split V V ?_ ?_ <;> intro hc3
    ·refine .ps 3 V (.kT V (.nil ?_));exact ⟨⟨or_T hc3,V,V,V,V,V,V,V,U⟩,H.wk (by omega)⟩
    ·refine .mV V (.cV (Z41 V) V (.tV V (.kF V (.nil ?_))));exact ⟨⟨or_F hc3,V,V,V,V,V,V,V,U⟩,H.wk (by omega)⟩
   refine .mV V ?_;refine .md H 4 [(48,(vb ((((((ZP x1.From by').2) != 0) || (((ZP x1.To by').2) != 0)) || (!(Z0S ((ZP x1.From by').1)))) || (!(Z0S ((ZP x1.To by').1)))))),(1,(vi by')),(6,w3),(9,(vi (ZP x1.From by').1)),(11,(vi (ZP x1.To by').1)),(13,(vl Span.cs l)),(14,(vi (l.length:Int))),(15,(vi s2.1))] [.sl w3 59 2 (s2.2.map Span.cs) true] rfl ?_ fun e σ H => ?_
   ·refine .split V V ?_ ?_ <;> intro hc4
    ·refine .ps 3 V (.kT V (.nil ?_));exact ⟨⟨or_T hc4,V,V,V,V,V,V,V,U⟩,H.wk (by omega)⟩
    ·refine .mV V (.cV (Z41 V) V (.tV V (.kF V (.nil ?_))));exact ⟨⟨or_F hc4,V,V,V,V,V,V,V,U⟩,H.wk (by omega)⟩
   refine .na H fun H => ?_;refine .wh h V ?_ ?_ <;> intro h
   ·refine .tR 2 V H fun b9 σ H => (.a1 .nils V V (.aV V (.na H fun H => (.ret ?_))));obtain rfl:=sj h;exact ⟨nofun,(.inr ⟨_,V,V,(Ends.H (xs:=[.nils,(vi 20)]) (.inr V) H (.tmp (v:=.nils) V (.tmp (v:=(vi 20)) V .nil)) (.two (.cons (.c .n) (.cons (.c (.v _)) .nil))))⟩)⟩
   refine .skip (.ZF 7 V H fun b10 σ H => (.m1 w3 V V (.mV V (.mV V (.bV [(vi (ZP x1.From by').1),(vi (ZP x1.To by').1)] V (.Z2K (sz:=2) ([(Span.mk ((ZP x1.From by').1) ((ZP x1.To by').1))].map Span.cs) H (by omega) (by omega) V V V V V V V V V fun σ H => ?_))))));obtain ⟨x2,q2,h⟩:=bs h;refine .Z28 (c:=Span.cs) (v:=w3) (w:=(.buf (b10 + 4) 1 2)) (xs:=s2.2) (ys:=[(Span.mk ((ZP x1.From by').1) ((ZP x1.To by').1))]) H (by omega) (by omega) 1 V V V (.s 0 V) q2 V V V V V nofun V fun w5 σ H => (.a1 w5 V V (.na H fun H => (.ZF 2 V H fun b11 σ H => (.iV V (.mV V (.na H fun H => ?_))))));obtain rfl:=sj h;exact ⟨V,w5,EI V,(H.erase 0)⟩
  refine .exit ?_;obtain rfl:=sj h;exact ⟨nofun,(.inl ⟨_,w3,V,V,EI V,H⟩)⟩
 ·rintro x e σ (⟨a2,w6,rfl,rfl,he,H⟩ | ⟨r',rfl,rfl,hE⟩)
  ·replace h:=jgo h;obtain ⟨e,rfl⟩:=he.ex;refine .tR 3 V H fun b12 σ H => (.m1 w6 V V (.a1 w6 V V (.aV V (.na H fun H => (.ret ?_)))));obtain rfl:=sj h;exact (Ends.H (xs:=[w6,(vi 0)]) (.inr V) H (.tmp (v:=w6) V (.tmp (v:=(vi 0)) V .nil)) (.two (.cons (.c (.s 0 V)) (.cons (.c (.v _)) .nil))))
  ·replace h:=jret h;obtain rfl:=sj h;exact hE
theorem Z1T {f:Form} {i:Int} {r:(List Span) × Int} (h:Zt f i = some r):Fn CX 15 [(.agg (vs (Form.cs f))),(vi i)] (.tup [(vl Span.cs r.1),(vi r.2)]):=by
 refine Fn.go Try.func15 V fun σ H => ?_;unfold Zt at h;refine .tR 3 V H fun b1 σ H => (.bxc (cs:=(vF f)) H V V V fun σ H => (.a1 .nils V V (.aV V (.na H fun H => (.then (.tR 3 V H fun b2 σ H => (.mV V (.cV (Z4L V) V ?_))))))));refine .tV V (.na H fun H => ?_);refine .wh h V ?_ ?_ <;> intro h
 ·refine .tR 2 V H fun b3 σ H => (.a1 .nils V V (.aV V (.na H fun H => (.ret ?_))));obtain rfl:=sj h;exact (Ends.H (xs:=[.nils,(vi 20)]) (.inr V) H (.tmp (v:=.nils) V (.tmp (v:=(vi 20)) V .nil)) (.two (.cons (.c .n) (.cons (.c (.v _)) .nil))))
 refine .skip (.tR 10 V H fun b4 σ H => (.LV (vF f) H 0 V (.mV V ?_)));obtain ⟨x1,q1,h⟩:=bs h;refine .cV (Z95 q1) V (.m1 (.tup [(vl Span.cs x1.1),(vi x1.2.1),(vi x1.2.2)]) V V (.xV V (.xV V (.xV V (.aV V (.aV V (.aV V (.na H fun H => ?_))))))));refine .then (.tR 3 V H fun b5 σ H => (.mV V (.nV V (.iV V (.na H fun H => ?_)))));refine .wh h V ?_ ?_ <;> intro h
 ·refine .tR 2 V H fun b6 σ H => (.a1 .nils V V (.aV V (.na H fun H => (.ret ?_))));obtain rfl:=sj h;exact (Ends.H (xs:=[.nils,(vi 0)]) (.inr V) H (.tmp (v:=.nils) V (.tmp (v:=(vi 0)) V .nil)) (.two (.cons (.c .n) (.cons (.c (.v _)) .nil))))
 refine .skip (.then (.tR 2 V H fun b7 σ H => (.mV V (.iV V (.na H fun H => ?_)))));refine .wh h V ?_ ?_ <;> intro h
 ·refine .tR 2 V H fun b8 σ H => (.a1 .nils V V (.aV V (.na H fun H => (.ret ?_))));obtain rfl:=sj h;exact (Ends.H (xs:=[.nils,(vi 20)]) (.inr V) H (.tmp (v:=.nils) V (.tmp (v:=(vi 20)) V .nil)) (.two (.cons (.c .n) (.cons (.c (.v _)) .nil))))
 refine .skip (.tR 7 V H fun b9 σ H => (.mV V (.mV V ?_)));obtain ⟨x2,q2,h⟩:=bs h;refine .cV (Z7p q2) V (.xV V (.xV V (.aV V (.aV V (.na H fun H => (.ret ?_))))));obtain rfl:=sj h;exact Ends.eR V
theorem Z3I {s:(List (List Span))} {f:(List Span)→Option Bool} {C:List Res} {cv0:PV} (hs0:cv0.one = true) (hp0:cv0.pure = true→C = []) (hf0:∀ z0 y,f z0 = some y→CloH CX cv0 [(vl Span.cs z0)] (vb y) C) {r:Int} (h:Z7 s f = some r):FnH CX 100 [(vl (cL Span.cs) s),cv0] (vi r) C:=by
 refine FnH.of Try.func100 V V V V (Z2q V (Z2q (Z3D hs0) all_nil)) V (fun h => hp0 (Z3T h 1 V)) ?_;intro σ L hC H;unfold Z7 at h;refine .tR 1 V H fun b1 σ H => (.aV V (.na H fun H => (.then (.tR 3 V H fun b2 σ H => (.mV V (.nV V (.mV V (.na H fun H => ?_))))))));refine .inBlock ?_;obtain ⟨y1,hj1,h⟩:=bs h;obtain ⟨n1,hj1⟩:=ZK.1 hj1;refine .mono (Runs.loopO hj1 (fun s1 e σ => Z8 e [(0,(vl (cL Span.cs) s)),(1,cv0),(7,(vi (s.length:Int))),(8,(vi s1))]∧Hs σ (L)) (fun y1 x e σ => (∃ a1,y1 = (.go a1)∧x = .exit 0∧Z8 e []∧Hs σ (L))∨(∃ r',y1 = (.ret r')∧x = .ret∧EndsH CX Try.f100.results.toList (vi r') L x e σ)) ⟨EI V,H⟩ ?_) ?_
 ·intro s1 e σ hI z h;obtain ⟨he,H⟩:=hI;obtain ⟨e,rfl⟩:=he.ex;unfold Z7.s0 at h;refine .tR 1 V H fun b3 σ H => (.iV V (.na H fun H => (.then ?_)));refine .wh h V ?_ ?_ <;> intro h
  ·refine .skip (.then (.inBlock (.tR 2 V H fun b4 σ H => (.mV V (.aV V (.na H fun H => (.tR 6 V H fun b5 σ H => (.m1 cv0 V V ?_))))))));refine .mV V (.mV V ?_);obtain ⟨x1,q1,h⟩:=bs h;refine .jV q1 V (.pV V ?_);obtain ⟨x2,q2,h⟩:=bs h;refine .callV (cv:=cv0) (ys:=[(vl Span.cs x1)]) (r:=(vb x2)) H V V (hf0 x1 _ q2) hC nofun V fun σ H => (.na H fun H => ?_);refine .wh h V ?_ ?_ <;> intro h
   ·refine .tR 2 V H fun b6 σ H => (.mV V (.aV V (.na H fun H => (.ret ?_))));obtain rfl:=sj h;exact ⟨nofun,(.inr ⟨_,V,V,(EndsH.H (xs:=[(vi s1)]) (.inr V) H (.tmp (v:=(vi s1)) V .nil) (.one (.c (.v _))) 0 V)⟩)⟩
   refine .skip (.ZF 2 V H fun b7 σ H => (.iV V (.mV V (.na H fun H => ?_))));obtain rfl:=sj h;exact ⟨V,EI V,H⟩
  refine .exit ?_;obtain rfl:=sj h;exact ⟨nofun,(.inl ⟨_,V,V,U,H⟩)⟩
 ·rintro x e σ (⟨a2,rfl,rfl,he,H⟩ | ⟨r',rfl,rfl,hE⟩)
  ·replace h:=jgo h;obtain ⟨e,rfl⟩:=he.ex;refine .tR 1 V H fun b8 σ H => (.aV V (.na H fun H => (.ret ?_)));obtain rfl:=sj h;exact (EndsH.H (xs:=[(vi (-1))]) (.inr V) H (.tmp (v:=(vi (-1))) V .nil) (.one (.c (.v _))) 0 V)
  ·replace h:=jret h;obtain rfl:=sj h;exact hE
theorem Z16 {s:(List (List Span))} {f:(List Span)→Option Bool} {C:List Res} {cv0:PV} (hs0:cv0.one = true) (hp0:cv0.pure = true→C = []) (hf0:∀ z0 y,f z0 = some y→CloH CX cv0 [(vl Span.cs z0)] (vb y) C) {r:Bool} (h:ZM s f = some r):FnH CX 88 [(vl (cL Span.cs) s),cv0] (vb r) C:=by
 refine FnH.of Try.func88 V V V V (Z2q V (Z2q (Z3D hs0) all_nil)) V (fun h => hp0 (Z3T h 1 V)) ?_;intro σ L hC H;unfold ZM at h;refine .tR 1 V H fun b1 σ H => (.aV V (.na H fun H => (.tR 5 V H fun b2 σ H => (.mV V (.m1 cv0 V V ?_)))));obtain ⟨x1,q1,h⟩:=bs h;refine .Z7h (ys:=[(vl (cL Span.cs) s),cv0]) (r:=(vi x1)) H V (Z3I (C:=C) hs0 hp0 hf0 q1) hC nofun V fun σ H => (.iV V (.aV V (.na H fun H => (.ret ?_))));obtain rfl:=sj h;exact (EndsH.H (xs:=[(vb (decide (x1 ≥ 0)))]) (.inr V) H (.tmp (v:=(vb (decide (x1 ≥ 0)))) V .nil) (.one (.c (.v _))) 0 V)
theorem ZBJ {l:(List Span)} {r:Bool} (h:Z4B l = r):Fn CX 111 [(vl Span.cs l)] (vb r):=by
 refine Fn.go Try.func111 V fun σ H => ?_;unfold Z4B at h;refine .tR 1 V H fun b1 σ H => (.aV V (.na H fun H => (.tR 4 V H fun b2 σ H => (.mV V (.nV V (.iV V (.aV V (.na H fun H => ?_))))))));refine .ret ?_;subst h;exact Ends.eR V
theorem gran_bare_fn {f:Form} {r:Bool} (h:Z2i f = some r):Fn CX 98 [(.agg (vs (Form.cs f)))] (vb r):=by
 refine Fn.go Try.func98 V fun σ H => ?_;unfold Z2i at h;refine .tR 2 V H fun b1 σ H => (.bxc (cs:=(vF f)) H V V V fun σ H => (.aV V (.na H fun H => (.tR 5 V H fun b2 σ H => (.fV H 0 V (.lV H 0 V ?_))))));obtain ⟨x1,q1,h⟩:=bs h;refine .Z7h (ys:=[(vl (cL Span.cs) f.Core),(.v (.fn 111))]) (r:=(vb x1)) H V (Z16 (C:=[]) V (fun _ => V) (fun z0 y hz => (CloH.fn (Fn.toH (ZBJ (Option.some.inj hz)) _))) q1) .nil nofun V fun σ H => (.tV V (.aV V (.na H fun H => (.ret ?_))));obtain rfl:=sj h;exact Ends.eR V
theorem gran_some_fn {f:Form} {i:Int} {r:Bool} (h:Z3g f i = some r):Fn CX 99 [(.agg (vs (Form.cs f))),(vi i)] (vb r):=by
 refine Fn.go Try.func99 V fun σ H => ?_;unfold Z3g at h;refine .tR 2 V H fun b1 σ H => (.bxc (cs:=(vF f)) H V V V fun σ H => (.aV V (.na H fun H => (.tR 10 V H fun b2 σ H => (.LV (vF f) H 0 V (.mV V ?_))))));obtain ⟨x1,q1,h⟩:=bs h;refine .cV (Z95 q1) V (.m1 (.tup [(vl Span.cs x1.1),(vi x1.2.1),(vi x1.2.2)]) V V (.xV V (.xV V (.xV V (.aV V (.aV V (.aV V (.na H fun H => ?_))))))));refine .tR 4 V H fun b3 σ H => (.mV V (.nV V (.iV V (.aV V (.na H fun H => (.ret ?_))))));obtain rfl:=sj h;exact Ends.eR V
theorem Z8p {f:Form} {from':Int} {by':Int} {r:Int × Bool} (h:Zj f from' by' = some r):Fn CX 86 [(.agg (vs (Form.cs f))),(vi from'),(vi by')] (.tup [(vi r.1),(vb r.2)]):=by
 refine Fn.go Try.func86 V fun σ H => ?_;unfold Zj at h;refine .tR 3 V H fun b1 σ H => (.bxc (cs:=(vF f)) H V V V fun σ H => (.aV V (.aV V (.na H fun H => (.then (.tR 2 V H fun b2 σ H => (.LV (vF f) H 0 V ?_)))))));obtain ⟨x1,q1,h⟩:=bs h;refine .cV (gran_bare_fn q1) V (.na H fun H => ?_);refine .wh h V ?_ ?_ <;> intro h
 ·refine .tR 8 V H fun b3 σ H => (.LV (vF f) H 0 V (.mV V ?_));obtain ⟨x2,q2,h⟩:=bs h;refine .cV (ZAF q2) V (.m1 (.tup [(vi x2.1),(vb x2.2)]) V V (.xV V (.xV V (.aV V (.aV V (.na H fun H => (.then ?_)))))));refine .jn h .normal (fun y1 => [(2,(vi by')),(3,(.ptr (b1 + 0) 4 0)),(8,(vi y1))]) (fun y1 => [.blk (b1 + 0) 25 (vF f)]) (fun y1 h => ?_) fun y1 e σ H h => ?_
  ·refine .tR 6 V H fun b4 σ H => (.mV V (.iV V (.mV V ?_)));refine .md H 3 [(24,(vb ((decide (by' < 0)) && (!x2.2)))),(2,(vi by')),(3,(.ptr (b1 + 0) 4 0)),(8,(vi x2.1))] [.blk (b1 + 0) 25 (vF f)] V ?_ fun e σ H => ?_
   ·refine .split V V ?_ ?_ <;> intro hc2
    ·refine .mV V (.tV V (.kT V (.nil ?_)));exact ⟨⟨Z10 hc2,V,V,V,U⟩,H.wk (by omega)⟩
    ·refine .ps 2 V (.kF V (.nil ?_));exact ⟨⟨Z12 hc2,V,V,V,U⟩,H.wk (by omega)⟩
   refine .na H fun H => ?_;refine .wh h V ?_ ?_ <;> intro h
   ·refine .ZF 3 V H fun b5 σ H => (.mV V (.iV V (.aV V (.na H fun H => ?_))));obtain rfl:=sj h;exact ⟨V,EI V,H⟩
   refine .skip ?_;obtain rfl:=sj h;exact ⟨V,EI V,H⟩
  refine .then (.inBlock ?_);obtain ⟨y2,hj2,h⟩:=bs h;obtain ⟨n1,hj2⟩:=ZK.1 hj2;refine .mono (Runs.loopO hj2 (fun s1 e σ => Z8 e [(2,(vi by')),(3,(.ptr (b1 + 0) 4 0)),(8,(vi s1))]∧Hs σ [.blk (b1 + 0) 25 (vF f)]) (fun y2 x e σ => (∃ a1,y2 = (.go a1)∧x = .exit 0∧Z8 e []∧Hs σ [])∨(∃ r',y2 = (.ret r')∧x = .ret∧Ends CX Try.f86.results.toList (.tup [(vi r'.1),(vb r'.2)]) x e σ)) ⟨EI V,H⟩ ?_) ?_
  ·intro s1 e σ hI z h;obtain ⟨he,H⟩:=hI;obtain ⟨e,rfl⟩:=he.ex;unfold Zj.s0 at h;refine .then (.tR 9 V H fun b6 σ H => (.mV V (.iV V (.mV V ?_))));refine .md H 6 [(35,(vb ((decide (s1 ≥ 0)) && (decide (s1 < (f.Odd.length:Int)))))),(2,(vi by')),(3,(.ptr (b1 + 0) 4 0)),(8,(vi s1))] [.blk (b1 + 0) 25 (vF f)] V ?_ fun e σ H => ?_
   ·refine .split V V ?_ ?_ <;> intro hc4
    ·refine .mV V (.fV H 0 V (.lV H 0 V (.nV V (.iV V (.kT V (.nil ?_))))));exact ⟨⟨Z10 hc4,V,V,V,U⟩,H.wk (by omega)⟩
    ·refine .ps 5 V (.kF V (.nil ?_));exact ⟨⟨Z12 hc4,V,V,V,U⟩,H.wk (by omega)⟩
   refine .na H fun H => ?_;refine .wh h V ?_ ?_ <;> intro h
   ·refine .skip (.then (.inBlock (.tR 8 V H fun b7 σ H => (.fV H 0 V (.lV H 0 V (.mV V ?_))))));obtain ⟨x3,q3,h⟩:=bs h;refine .jV q3 V (.Z09 V V V V (.pV V (.nV V (.iV V (.na H fun H => ?_)))));refine .wh h V ?_ ?_ <;> intro h
    ·refine .tR 8 V H fun b8 σ H => (.fV H 0 V (.lV H 0 V (.mV V ?_)));obtain ⟨x4,q4,h⟩:=bs h;refine .jV q4 V (.Z09 V V V V (.pV V (.aV V (.aV V (.na H fun H => (.ret ?_))))));obtain rfl:=sj h;exact ⟨nofun,(.inr ⟨_,V,V,(Ends.H (xs:=[(vi x4.Index),(vb true)]) (.inr V) H (.tmp (v:=(vi x4.Index)) V (.tmp (v:=(vb true)) V .nil)) (.two (.cons (.c (.v _)) (.cons (.c (.v _)) .nil))))⟩)⟩
    refine .skip (.ZF 4 V H fun b9 σ H => (.mV V (.mV V (.iV V (.aV V (.na H fun H => ?_))))));obtain rfl:=sj h;exact ⟨V,EI V,H⟩
   refine .exit ?_;obtain rfl:=sj h;exact ⟨nofun,(.inl ⟨_,V,V,U,(H.erase 0)⟩)⟩
  ·rintro x e σ (⟨a2,rfl,rfl,he,H⟩ | ⟨r',rfl,rfl,hE⟩)
   ·replace h:=jgo h;obtain ⟨e,rfl⟩:=he.ex;refine .tR 2 V H fun b10 σ H => (.aV V (.aV V (.na H fun H => (.ret ?_))));obtain rfl:=sj h;exact Ends.eR V
   ·replace h:=jret h;obtain rfl:=sj h;exact hE
 refine .skip (.then (.tR 2 V H fun b11 σ H => (.mV V (.aV V (.na H fun H => (.inBlock ?_))))));obtain ⟨y3,hj3,h⟩:=bs h;obtain ⟨n2,hj3⟩:=ZK.1 hj3;refine .mono (Runs.loopO hj3 (fun s2 e σ => Z8 e [(2,(vi by')),(3,(.ptr (b1 + 0) 4 0)),(10,(vi s2))]∧Hs σ [.blk (b1 + 0) 25 (vF f)]) (fun y3 x e σ => (∃ a3,y3 = (.go a3)∧x = .exit 2∧Z8 e []∧Hs σ [])∨(∃ r',y3 = (.ret r')∧x = .ret∧Ends CX Try.f86.results.toList (.tup [(vi r'.1),(vb r'.2)]) x e σ)) ⟨EI V,H⟩ ?_) ?_
 ·intro s2 e σ hI z h;obtain ⟨he,H⟩:=hI;obtain ⟨e,rfl⟩:=he.ex;unfold Zj.s1 at h;refine .then (.tR 2 V H fun b12 σ H => (.mV V (.cV (Z4L V) V (.na H fun H => ?_))));refine .wh h V ?_ ?_ <;> intro h
  ·refine .skip (.then (.inBlock (.tR 3 V H fun b13 σ H => (.LV (vF f) H 0 V (.mV V ?_)))));obtain ⟨x5,q5,h⟩:=bs h;refine .cV (gran_some_fn q5) V (.na H fun H => ?_);refine .wh h V ?_ ?_ <;> intro h
   ·refine .tR 3 V H fun b14 σ H => (.mV V (.aV V (.aV V (.na H fun H => (.ret ?_)))));obtain rfl:=sj h;exact ⟨nofun,(.inr ⟨_,V,V,(Ends.H (xs:=[(vi s2),(vb true)]) (.inr V) H (.tmp (v:=(vi s2)) V (.tmp (v:=(vb true)) V .nil)) (.two (.cons (.c (.v _)) (.cons (.c (.v _)) .nil))))⟩)⟩
   refine .skip (.ZF 4 V H fun b15 σ H => (.mV V (.mV V (.iV V (.aV V (.na H fun H => ?_))))));obtain rfl:=sj h;exact ⟨V,EI V,H⟩
  refine .exit ?_;obtain rfl:=sj h;exact ⟨nofun,(.inl ⟨_,V,V,U,(H.erase 0)⟩)⟩
 ·rintro x e σ (⟨a4,rfl,rfl,he,H⟩ | ⟨r',rfl,rfl,hE⟩)
  ·replace h:=jgo h;obtain ⟨e,rfl⟩:=he.ex;refine .tR 2 V H fun b16 σ H => (.aV V (.aV V (.na H fun H => (.ret ?_))));obtain rfl:=sj h;exact Ends.eR V
  ·replace h:=jret h;obtain rfl:=sj h;exact hE
theorem ZAn {f:Form} {i:Int} {r:Int × Bool} (h:Z18 f i = some r):Fn CX 84 [(.agg (vs (Form.cs f))),(vi i)] (.tup [(vi r.1),(vb r.2)]):=by
 refine Fn.go Try.func84 V fun σ H => ?_;unfold Z18 at h;refine .tR 3 V H fun b1 σ H => (.bxc (cs:=(vF f)) H V V V fun σ H => (.aV V (.aV V (.na H fun H => (.then (.tR 2 V H fun b2 σ H => (.mV V (.iV V ?_))))))));refine .na H fun H => ?_;refine .wh h V ?_ ?_ <;> intro h
 ·refine .tR 2 V H fun b3 σ H => (.aV V (.aV V (.na H fun H => (.ret ?_))));obtain rfl:=sj h;exact Ends.eR V
 refine .skip (.tR 9 V H fun b4 σ H => (.LV (vF f) H 0 V (.mV V (.iV V (.min2 V V V ?_)))));obtain ⟨x1,q1,h⟩:=bs h;refine .cV (Z8p q1) V (.xV V (.xV V (.aV V (.aV V (.na H fun H => (.ret ?_))))));obtain rfl:=sj h;exact Ends.eR V
theorem Z4s {f:Form} {i:Int} {r:Int × Bool} (h:Z0n f i = some r):Fn CX 60 [(.agg (vs (Form.cs f))),(vi i)] (.tup [(vi r.1),(vb r.2)]):=by
 refine Fn.go Try.func60 V fun σ H => ?_;unfold Z0n at h;refine .tR 3 V H fun b1 σ H => (.bxc (cs:=(vF f)) H V V V fun σ H => (.aV V (.aV V (.na H fun H => (.then (.tR 2 V H fun b2 σ H => (.mV V (.iV V ?_))))))));refine .na H fun H => ?_;refine .wh h V ?_ ?_ <;> intro h
 ·refine .tR 2 V H fun b3 σ H => (.aV V (.aV V (.na H fun H => (.ret ?_))));obtain rfl:=sj h;exact Ends.eR V
 refine .skip (.tR 9 V H fun b4 σ H => (.LV (vF f) H 0 V (.mV V (.iV V (.max2 V V V ?_)))));obtain ⟨x1,q1,h⟩:=bs h;refine .cV (Z8p q1) V (.xV V (.xV V (.aV V (.aV V (.na H fun H => (.ret ?_))))));obtain rfl:=sj h;exact Ends.eR V
theorem Z4d {a:(List Span)} {b:(List Span)} {r:Bool} (h:Z0L a b = some r):Fn CX 85 [(vl Span.cs a),(vl Span.cs b)] (vb r):=by
 refine Fn.go Try.func85 V fun σ H => ?_;unfold Z0L at h;refine .tR 1 V H fun b1 σ H => (.aV V (.na H fun H => (.then (.Z2L 23 V (by kernel_rfl) H fun b2 σ H B2 => (.mV V (.nV V (.iV V (.mV V ?_))))))));refine .md H 4 [(12,(vb (((a.length:Int) == 0) || ((b.length:Int) == 0)))),(0,(vl Span.cs a)),(1,(vl Span.cs b))] [] rfl ?_ fun e σ H => ?_
 ·refine .split V V ?_ ?_ <;> intro hc1
  ·refine .ps 3 V (.kT V (.nil ?_));exact ⟨⟨or_T hc1,V,V,U⟩,H.wk (by omega)⟩
  ·refine .mV V (.nV V (.iV V (.kF V (.nil ?_))));exact ⟨⟨or_F hc1,V,V,U⟩,H.wk (by omega)⟩
 refine .mV V ?_;obtain ⟨y1,hj1,h⟩:=bs h;refine .md H 13 [(26,(vb y1))] [] V ?_ fun e σ H => ?_
 ·refine .sp hj1 V ?_ ?_ <;> intro h
  ·refine .ps 12 V (.kT V (.nil ?_));obtain rfl:=sj h;exact ⟨EI V,H.wk (by omega)⟩
  refine .mV V (.mV V (.nV V (.iV V (.wt V V ?_))));obtain ⟨x1,q1,h⟩:=bs h;refine .jV q1 V (.wt V V (.Z09 V V V V (.pV V (.mV V (.wt V V ?_)))));obtain ⟨x2,q2,h⟩:=bs h;refine .jV q2 V (.wt V V (.Z09 V V V V (.pV V (.iV V (.kF V (.nil ?_))))));obtain rfl:=sj h;exact ⟨EI V,H.wk (by omega)⟩
 refine .aV V (.na H fun H => (.ret ?_));obtain rfl:=sj h;exact Ends.eR V
theorem ZBc {f:Form} {i:Int} {r:Bool} (h:Z1U f i = some r):Fn CX 58 [(.agg (vs (Form.cs f))),(vi i)] (vb r):=by
 refine Fn.go Try.func58 V fun σ H => ?_;unfold Z1U at h;refine .tR 2 V H fun b1 σ H => (.bxc (cs:=(vF f)) H V V V fun σ H => (.aV V (.na H fun H => (.tR 8 V H fun b2 σ H => (.LV (vF f) H 0 V (.mV V ?_))))));obtain ⟨x1,q1,h⟩:=bs h;refine .cV (Z1T q1) V (.m1 (.tup [(vl Span.cs x1.1),(vi x1.2)]) V V (.xV V (.xV V (.aV V (.aV V (.na H fun H => (.then (.tR 2 V H fun b3 σ H => ?_))))))));refine .mV V (.iV V (.na H fun H => ?_));refine .wh h V ?_ ?_ <;> intro h
 ·refine .tR 1 V H fun b4 σ H => (.aV V (.na H fun H => (.ret ?_)));obtain rfl:=sj h;exact Ends.eR V
 refine .skip (.tR 8 V H fun b5 σ H => (.LV (vF f) H 0 V (.mV V ?_)));obtain ⟨x2,q2,h⟩:=bs h;refine .cV (ZAn q2) V (.m1 (.tup [(vi x2.1),(vb x2.2)]) V V (.xV V (.xV V (.aV V (.aV V (.na H fun H => (.tR 8 V H fun b6 σ H => (.LV (vF f) H 0 V ?_))))))));refine .mV V ?_;obtain ⟨x3,q3,h⟩:=bs h;refine .cV (Z4s q3) V (.m1 (.tup [(vi x3.1),(vb x3.2)]) V V (.xV V (.xV V (.aV V (.aV V (.na H fun H => (.tR 2 V H fun b7 σ H => (.a1 .nils V V ?_))))))));refine .a1 .nils V V (.na H fun H => (.then ?_));obtain ⟨y1,hj1,h⟩:=bs h;refine .mono (Q:=fun x e σ => (∃ a1,∃ (w1:PV),RO w1 (a1.map Span.cs)∧y1 = (.go a1)∧x = .normal∧Z8 e [(2,(.ptr (b1 + 0) 4 0)),(5,(vl Span.cs x1.1)),(9,(vi x3.1)),(10,(vb x3.2)),(11,w1),(12,.nils)]∧Hs σ [.blk (b1 + 0) 25 (vF f)])∨(∃ r',y1 = (.ret r')∧x = .ret∧Ends CX Try.f58.results.toList (vb r') x e σ)) ?_ ?_
 ·replace h:=hj1;refine .tR 1 V H fun b8 σ H => (.mV V (.na H fun H => ?_));refine .wh h V ?_ ?_ <;> intro h
  ·refine .tR 8 V H fun b9 σ H => (.LV (vF f) H 0 V (.mV V ?_));obtain ⟨x4,q4,h⟩:=bs h;refine .cV (Z1T q4) V (.m1 (.tup [(vl Span.cs x4.1),(vi x4.2)]) V V (.xV V (.xV V (.aV V (.aV V (.na H fun H => (.tR 2 V H fun b10 σ H => (.mV V ?_))))))));refine .iV V (.na H fun H => ?_);refine .wh h V ?_ ?_ <;> intro h
   ·refine .tR 1 V H fun b11 σ H => (.aV V (.na H fun H => (.ret ?_)));obtain rfl:=sj h;exact (.inr ⟨_,V,V,(Ends.H (xs:=[(vb false)]) (.inr V) H (.tmp (v:=(vb false)) V .nil) (.one (.c (.v _))))⟩)
   refine .skip ?_;obtain rfl:=sj h;exact (.inl ⟨_,(vl Span.cs x4.1),.inr V,V,V,EI V,H⟩)
  refine .skip ?_;obtain rfl:=sj h;exact (.inl ⟨_,.nils,.inl ⟨V,V⟩,V,V,EI V,H⟩)
 ·rintro x e σ (⟨a2,w2,hw2,rfl,rfl,he,H⟩ | ⟨r',rfl,rfl,hE⟩)
  ·replace h:=jgo h;obtain ⟨e,rfl⟩:=he.ex;refine .then ?_;obtain ⟨y2,hj2,h⟩:=bs h;refine .mono (Q:=fun x e σ => (∃ a3,∃ (w3:PV),RO w3 (a3.map Span.cs)∧y2 = (.go a3)∧x = .normal∧Z8 e [(5,(vl Span.cs x1.1)),(11,w2),(12,w3)]∧Hs σ [])∨(∃ r',y2 = (.ret r')∧x = .ret∧Ends CX Try.f58.results.toList (vb r') x e σ)) ?_ ?_
   ·replace h:=hj2;refine .tR 1 V H fun b12 σ H => (.mV V (.na H fun H => ?_));refine .wh h V ?_ ?_ <;> intro h
    ·refine .tR 8 V H fun b13 σ H => (.LV (vF f) H 0 V (.mV V ?_));obtain ⟨x5,q5,h⟩:=bs h;refine .cV (Z1T q5) V (.m1 (.tup [(vl Span.cs x5.1),(vi x5.2)]) V V (.xV V (.xV V (.aV V (.aV V (.na H fun H => (.tR 2 V H fun b14 σ H => (.mV V ?_))))))));refine .iV V (.na H fun H => ?_);refine .wh h V ?_ ?_ <;> intro h
     ·refine .tR 1 V H fun b15 σ H => (.aV V (.na H fun H => (.ret ?_)));obtain rfl:=sj h;exact (.inr ⟨_,V,V,(Ends.H (xs:=[(vb false)]) (.inr V) H (.tmp (v:=(vb false)) V .nil) (.one (.c (.v _))))⟩)
     refine .skip ?_;obtain rfl:=sj h;exact (.inl ⟨_,(vl Span.cs x5.1),.inr V,V,V,EI V,(H.erase 0)⟩)
    refine .skip ?_;obtain rfl:=sj h;exact (.inl ⟨_,.nils,.inl ⟨V,V⟩,V,V,EI V,(H.erase 0)⟩)
   ·rintro x e σ (⟨a4,w4,hw4,rfl,rfl,he,H⟩ | ⟨r',rfl,rfl,hE⟩)
    ·replace h:=jgo h;obtain ⟨e,rfl⟩:=he.ex;refine .tR 14 V H fun b16 σ H => (.m1 w2 V V (.mV V ?_));obtain ⟨x6,q6,h⟩:=bs h;refine .Z6W (xs:=[w2,(vl Span.cs x1.1)]) (ys:=[(vl Span.cs a2),(vl Span.cs x1.1)]) H V (.cons (.c (.ro hw2)) (.cons (.c (.v _)) .nil)) (Z4d q6) V V nofun V fun σ H => (.mV V ?_);obtain ⟨y3,hj3,h⟩:=bs h;refine .md H 4 [(58,(vb y3)),(11,w2),(12,w4)] [] V ?_ fun e σ H => ?_
     ·refine .sp hj3 V ?_ ?_ <;> intro h
      ·refine .mV V (.m1 w4 V V (.wt V V ?_));obtain ⟨x7,q7,h⟩:=bs h;refine .Z6W (xs:=[(vl Span.cs x1.1),w4]) (ys:=[(vl Span.cs x1.1),(vl Span.cs a4)]) H V (.cons (.c (.v _)) (.cons (.c (.ro hw4)) .nil)) (Z4d q7) V V nofun V fun σ H => (.kT V (.nil ?_));obtain rfl:=sj h;exact ⟨EI V,H.wk (by omega)⟩
      refine .ps 3 V (.kF V (.nil ?_));obtain rfl:=sj h;exact ⟨EI V,H.wk (by omega)⟩
     refine .mV V ?_;obtain ⟨y4,hj4,h⟩:=bs h;refine .md H 4 [(63,(vb y4))] [] V ?_ fun e σ H => ?_
     ·refine .sp hj4 V ?_ ?_ <;> intro h
      ·refine .m1 w2 V V (.m1 w4 V V (.wt V V ?_));obtain ⟨x8,q8,h⟩:=bs h;refine .Z6W (xs:=[w2,w4]) (ys:=[(vl Span.cs a2),(vl Span.cs a4)]) H V (.cons (.c (.ro hw2)) (.cons (.c (.ro hw4)) .nil)) (Z4d q8) V V nofun V fun σ H => (.kT V (.nil ?_));obtain rfl:=sj h;exact ⟨EI V,H.wk (by omega)⟩
      refine .ps 3 V (.kF V (.nil ?_));obtain rfl:=sj h;exact ⟨EI V,H.wk (by omega)⟩
     refine .aV V (.na H fun H => (.ret ?_));obtain rfl:=sj h;exact Ends.eR V
    ·replace h:=jret h;obtain rfl:=sj h;exact hE
  ·replace h:=jret h;obtain rfl:=sj h;exact hE
theorem Z5S {f:Form} {r:Int} (h:Zn f = some r):Fn CX 27 [(.agg (vs (Form.cs f)))] (vi r):=by
 refine Fn.go Try.func27 V fun σ H => ?_;unfold Zn at h;refine .tR 2 V H fun b1 σ H => (.bxc (cs:=(vF f)) H V V V fun σ H => (.aV V (.na H fun H => (.then (.tR 15 V H fun b2 σ H => (.fV H 0 V (.lV H 0 V (.nV V ?_))))))));refine .iV V (.mV V ?_);refine .md H 5 [(14,(vb ((decide ((f.Core.length:Int) > 6000)) || (decide ((f.Odd.length:Int) > 6000))))),(1,(.ptr (b1 + 0) 4 0))] [.blk (b1 + 0) 25 (vF f)] rfl ?_ fun e σ H => ?_
 ·refine .split V V ?_ ?_ <;> intro hc1
  ·refine .ps 4 V (.kT V (.nil ?_));exact ⟨⟨or_T hc1,V,U⟩,H.wk (by omega)⟩
  ·refine .fV H 0 V (.lV H 0 V (.nV V (.iV V (.kF V (.nil ?_)))));exact ⟨⟨or_F hc1,V,U⟩,H.wk (by omega)⟩
 refine .mV V ?_;obtain ⟨y1,hj1,h⟩:=bs h;refine .md H 4 [(19,(vb y1)),(1,(.ptr (b1 + 0) 4 0))] [.blk (b1 + 0) 25 (vF f)] V ?_ fun e σ H => ?_
 ·refine .sp hj1 V ?_ ?_ <;> intro h
  ·refine .ps 3 V (.kT V (.nil ?_));obtain rfl:=sj h;exact ⟨EI V,H.wk (by omega)⟩
  refine .LV (vF f) H 0 V (.wt V V ?_);obtain ⟨x1,q1,h⟩:=bs h;refine .cV (Z8t q1) V (.iV V (.kF V (.nil ?_)));obtain rfl:=sj h;exact ⟨EI V,H.wk (by omega)⟩
 refine .na H fun H => ?_;refine .wh h V ?_ ?_ <;> intro h
 ·refine .tR 1 V H fun b3 σ H => (.aV V (.na H fun H => (.ret ?_)));obtain rfl:=sj h;exact Ends.eR V
 refine .skip (.then (.tR 8 V H fun b4 σ H => (.LV (vF f) H 0 V ?_)));obtain ⟨x2,q2,h⟩:=bs h;refine .cV (gran_shape_fn q2) V (.tV V (.mV V ?_));obtain ⟨y2,hj2,h⟩:=bs h;refine .md H 4 [(27,(vb y2)),(1,(.ptr (b1 + 0) 4 0))] [.blk (b1 + 0) 25 (vF f)] V ?_ fun e σ H => ?_
 ·refine .sp hj2 V ?_ ?_ <;> intro h
  ·refine .ps 3 V (.kT V (.nil ?_));obtain rfl:=sj h;exact ⟨EI V,H.wk (by omega)⟩
  refine .LV (vF f) H 0 V (.wt V V ?_);obtain ⟨x3,q3,h⟩:=bs h;refine .cV (gran_turns_fn q3) V (.tV V (.kF V (.nil ?_)));obtain rfl:=sj h;exact ⟨EI V,H.wk (by omega)⟩
 refine .na H fun H => ?_;refine .wh h V ?_ ?_ <;> intro h
 ·refine .tR 1 V H fun b5 σ H => (.aV V (.na H fun H => (.ret ?_)));obtain rfl:=sj h;exact Ends.eR V
 refine .skip (.then (.tR 4 V H fun b6 σ H => (.fV H 0 V (.lV H 0 V (.nV V (.mV V (.na H fun H => (.inBlock ?_))))))));obtain ⟨y3,hj3,h⟩:=bs h;obtain ⟨n1,hj3⟩:=ZK.1 hj3;refine .mono (Runs.loopO hj3 (fun s1 e σ => Z8 e [(1,(.ptr (b1 + 0) 4 0)),(29,(vl Granule.cs f.Odd)),(30,(vi (f.Odd.length:Int))),(31,(vi s1))]∧Hs σ [.blk (b1 + 0) 25 (vF f)]) (fun y3 x e σ => (∃ a1,y3 = (.go a1)∧x = .exit 0∧Z8 e []∧Hs σ [])∨(∃ r',y3 = (.ret r')∧x = .ret∧Ends CX Try.f27.results.toList (vi r') x e σ)) ⟨EI V,H⟩ ?_) ?_
 ·intro s1 e σ hI z h;obtain ⟨he,H⟩:=hI;obtain ⟨e,rfl⟩:=he.ex;unfold Zn.s0 at h;refine .tR 1 V H fun b7 σ H => (.iV V (.na H fun H => (.then ?_)));refine .wh h V ?_ ?_ <;> intro h
  ·refine .skip (.then (.inBlock (.tR 4 V H fun b8 σ H => ?_)));obtain ⟨x4,q4,h⟩:=bs h;refine .jV q4 V (.qV [(.int .i64 x4.Index),(.sl (x4.Ticks.map Span.cs))] V (.alc (cs:=[(vi 0),.nils]) H V V fun σ H => (.sV [(vi x4.Index),(vl Span.cs x4.Ticks)] H 0 V fun σ H => (.na H fun H => (.tR 5 V H fun b9 σ H => (.LV (vF f) H 1 V (.fV H 0 V (.lV H 0 V ?_))))))));obtain ⟨x5,q5,h⟩:=bs h;refine .cV (ZBc q5) V (.tV V (.na H fun H => ?_));refine .wh h V ?_ ?_ <;> intro h
   ·refine .tR 1 V H fun b10 σ H => (.aV V (.na H fun H => (.ret ?_)));obtain rfl:=sj h;exact ⟨nofun,(.inr ⟨_,V,V,(Ends.H (xs:=[(vi 50)]) (.inr V) H (.tmp (v:=(vi 50)) V .nil) (.one (.c (.v _))))⟩)⟩
   refine .skip (.ZF 2 V H fun b11 σ H => (.iV V (.mV V (.na H fun H => ?_))));obtain rfl:=sj h;exact ⟨V,EI V,(H.erase 0)⟩
  refine .exit ?_;obtain rfl:=sj h;exact ⟨nofun,(.inl ⟨_,V,V,U,(H.erase 0)⟩)⟩
 ·rintro x e σ (⟨a2,rfl,rfl,he,H⟩ | ⟨r',rfl,rfl,hE⟩)
  ·replace h:=jgo h;obtain ⟨e,rfl⟩:=he.ex;refine .tR 1 V H fun b12 σ H => (.aV V (.na H fun H => (.ret ?_)));obtain rfl:=sj h;exact Ends.eR V
  ·replace h:=jret h;obtain rfl:=sj h;exact hE
theorem Z7a {f:Form} {r:Bool} (h:Z1G f = some r):Fn CX 9 [(.agg (vs (Form.cs f)))] (vb r):=by
 refine Fn.go Try.func9 V fun σ H => ?_;unfold Z1G at h;refine .tR 2 V H fun b1 σ H => (.bxc (cs:=(vF f)) H V V V fun σ H => (.aV V (.na H fun H => (.tR 8 V H fun b2 σ H => (.LV (vF f) H 0 V ?_)))));obtain ⟨x1,q1,h⟩:=bs h;refine .cV (Z7b q1) V (.mV V ?_);obtain ⟨y1,hj1,h⟩:=bs h;refine .md H 4 [(9,(vb y1))] [] V ?_ fun e σ H => ?_
 ·refine .sp hj1 V ?_ ?_ <;> intro h
  ·refine .LV (vF f) H 0 V (.wt V V ?_);obtain ⟨x2,q2,h⟩:=bs h;refine .cV (Z5S q2) V (.iV V (.kT V (.nil ?_)));obtain rfl:=sj h;exact ⟨EI V,(H.erase 0).wk (by omega)⟩
  refine .ps 3 V (.kF V (.nil ?_));obtain rfl:=sj h;exact ⟨EI V,(H.erase 0).wk (by omega)⟩
 refine .aV V (.na H fun H => (.ret ?_));obtain rfl:=sj h;exact Ends.eR V
theorem Z1K {r:Form} (h:Z01 = r):Fn CX 25 [] (.agg (vs (Form.cs r))):=by
 refine Fn.go Try.func25 V fun σ H => ?_;unfold Z01 at h;refine .tR 1 V H fun b1 σ H => (.alc (cs:=[(vi 0),(vi 0),.nils,.nils]) H V V fun σ H => (.na H fun H => (.tR 5 V H fun b2 σ H => (.bV [(vi 0),(vi 0)] V (.Z2K (sz:=2) ([(Span.mk 0 0)].map Span.cs) H (by omega) (by omega) V V V V V V V V V fun σ H => (.Z94 (sz:=1) ([[(Span.mk 0 0)]].map (cL Span.cs)) H (by omega) (by omega) V V (.exp (.c (.s 0 V)) .nil) V V V V V V V nofun fun σ H => (.bV [(vi 1),(vi 1),(.buf (b2 + 2) 1 1),.nils] V (.sV [(vi 1),(vi 1),(.buf (b2 + 2) 1 1),.nils] H 2 V fun σ H => ?_))))))));refine .na H fun H => (.ret ?_);subst h;exact (Ends.H (xs:=[(.agg [(vi 1),(vi 1),(.buf (b2 + 2) 1 1),.nils])]) (.inr V) H (.agg (cs:=[(vi 1),(vi 1),(.buf (b2 + 2) 1 1),.nils]) 2 V V V V V V V .nil) (.one (.a (.cons (.v _) (.cons (.v _) (.cons (.s 0 V) (.cons .n .nil)))))))
theorem safe_gcd_fn {a b r:Int} (h:gcd? a b = some r):Fn CX 78 [(vu a),(vu b)] (vu r):=by
 refine Fn.intr ?_ V V V;rw [cx_intr78];unfold gcd? at h;unfold gcdV
 dsimp only
 split at h
 ·rename_i h1;cases h;rw [if_pos h1]
 ·cases h
theorem safe_Lcm_fn {a:Int} {b:Int} {r:Int × Int} (h:Z5j a b = some r):Fn CX 75 [(vi a),(vi b)] (.tup [(vi r.1),(vi r.2)]):=by
 refine Fn.go Try.func75 V fun σ H => ?_;unfold Z5j at h;refine .tR 2 V H fun b1 σ H => (.aV V (.aV V (.na H fun H => (.tR 6 V H fun b2 σ H => (.mV V (.cV (Z4W V) V (.mV V (.cV (Z4W V) V ?_))))))));refine .aV V (.aV V (.na H fun H => (.then (.tR 6 V H fun b3 σ H => (.mV V (.iV V (.mV V ?_)))))));refine .md H 3 [(19,(vb (((ZN a) == 0) || ((ZN b) == 0)))),(6,(vu (ZN a))),(7,(vu (ZN b)))] [] rfl ?_ fun e σ H => ?_
 ·refine .split V V ?_ ?_ <;> intro hc1
  ·refine .ps 2 V (.kT V (.nil ?_));exact ⟨⟨or_T hc1,V,V,U⟩,H.wk (by omega)⟩
  ·refine .mV V (.iV V (.kF V (.nil ?_)));exact ⟨⟨or_F hc1,V,V,U⟩,H.wk (by omega)⟩
 refine .na H fun H => ?_;refine .wh h V ?_ ?_ <;> intro h
 ·refine .tR 2 V H fun b4 σ H => (.aV V (.aV V (.na H fun H => (.ret ?_))));obtain rfl:=sj h;exact Ends.eR V
 refine .skip (.tR 12 V H fun b5 σ H => (.mV V (.mV V (.mV V ?_))));obtain ⟨x1,q1,h⟩:=bs h;refine .cV (safe_gcd_fn q1) V ?_;obtain ⟨u1,q2,h⟩:=bs h;refine .quo (m:=(ZN a)) (m':=x1) V V (nz_ne q2) V (.mV V (.cV (Z4f V) V (.m1 (.tup [(vu (Zl (IntKind.u64.wrap ((ZN a).tdiv x1)) (ZN b)).1),(vu (Zl (IntKind.u64.wrap ((ZN a).tdiv x1)) (ZN b)).2)]) V V (.xV V (.xV V (.aV V (.aV V (.na H fun H => ?_))))))));refine .then (.tR 2 V H fun b6 σ H => (.mV V (.iV V (.na H fun H => ?_))));refine .wh h V ?_ ?_ <;> intro h
 ·refine .tR 2 V H fun b7 σ H => (.aV V (.aV V (.na H fun H => (.ret ?_))));obtain rfl:=sj h;exact Ends.eR V
 refine .skip (.tR 6 V H fun b8 σ H => (.mV V (.cV (Z7A V) V (.xV V (.xV V (.aV V (.aV V (.na H fun H => ?_))))))));refine .ret ?_;obtain rfl:=sj h;exact Ends.eR V
theorem ZA3 {f:Form} {m:Int} {r:Int × Int} (h:Z1C f m = some r):Fn CX 61 [(.agg (vs (Form.cs f))),(vi m)] (.tup [(vi r.1),(vi r.2)]):=by
 refine Fn.go Try.func61 V fun σ H => ?_;unfold Z1C at h;refine .tR 3 V H fun b1 σ H => (.bxc (cs:=(vF f)) H V V V fun σ H => (.aV V (.aV V (.na H fun H => (.then (.tR 3 V H fun b2 σ H => (.fV H 0 V (.lV H 0 V ?_))))))));refine .iV V (.na H fun H => ?_);refine .wh h V ?_ ?_ <;> intro h
 ·refine .tR 2 V H fun b3 σ H => (.aV V (.aV V (.na H fun H => (.ret ?_))));obtain rfl:=sj h;exact Ends.eR V
 refine .skip (.tR 9 V H fun b4 σ H => (.fV H 0 V (.lV H 0 V (.mV V ?_))));obtain ⟨x1,q1,h⟩:=bs h;refine .cV (safe_Lcm_fn q1) V (.m1 (.tup [(vi x1.1),(vi x1.2)]) V V (.xV V (.xV V (.aV V (.aV V (.na H fun H => (.tR 6 V H fun b5 σ H => (.mV V ?_))))))));refine .mV V ?_;obtain ⟨u1,q2,h⟩:=bs h;refine .quo (m:=x1.1) (m':=m) V V (nz_ne q2) V (.mV V (.aV V (.aV V (.na H fun H => (.ret ?_)))));obtain rfl:=sj h;exact Ends.eR V
theorem Z9n {S:Type} {p1':Int} {p2':Int→Option ((List Span) × Int)} {p3':Int} {C:S→List Res→Prop} {yield:S→((List Span) × Int)→Option (S × Bool)} {yid:Nat} {id0':Nat} {cv0:PV} {C':List Res} (hf0:∀ z0 y,p2' z0 = some y→CloH CX cv0 [(vi z0)] (.tup [(vl Span.cs y.1),(vi y.2)]) C') {id1':Nat} {id2':Nat} (hy:YldH CX yid C (fun z => [(vl Span.cs z.1),(vi z.2)]) yield) (hcap:∀ s L,C s L→Sub (.blk id0' 3 [(vi p1')] :: .blk id1' 65 [cv0] :: .blk id2' 3 [(vi p3')] :: C') L) {st' r:S} (h:Z0A p1' p2' p3' yield st' = some r):ItF CX 87 [(.yld yid),(.ptr id0' 1 0),(.ptr id1' 1 0),(.ptr id2' 1 0)] C st' r:=by
 refine ItF.of Try.func87 V V V V V V V V ?_;intro σ L hC H;have hc0:=hcap _ _ hC;obtain ⟨k0',hk0',hc0⟩:=hc0.inv;obtain ⟨k1',hk1',hc0⟩:=hc0.inv;obtain ⟨k2',hk2',hc0⟩:=hc0.inv;unfold Z0A at h;refine .tR 2 V H fun b1 σ H => (.ld (vi p1') H k0' hk0' V V V V nofun V (.mV V (.na H fun H => (.inBlock ?_))));obtain ⟨y1,hj1,h⟩:=bs h;obtain ⟨n1,hj1⟩:=ZK.1 hj1;refine .mono (Runs.loopO hj1 (fun s1 e σ => ∃ (L:List Res),C s1.2 L∧Z8 e [(0,(.yld yid)),(2,(.ptr id1' 1 0)),(3,(.ptr id2' 1 0)),(6,(vi p1')),(7,(vi s1.1))]∧Hs σ (L)) (fun y1 x e σ => (∃ a1,∃ (L:List Res),C a1 L∧y1 = (.go a1)∧x = .exit 0∧Z8 e []∧Hs σ (L))∨(∃ r',y1 = (.ret r')∧x = .ret∧EndsI C r' x e σ)) ⟨_,hC,EI V,H⟩ ?_) ?_
 ·intro s1 e σ hI z h;obtain ⟨L,hC,he,H⟩:=hI;obtain ⟨e,rfl⟩:=he.ex;have hc0:=hcap _ _ hC;obtain ⟨k0',hk0',hc0⟩:=hc0.inv;obtain ⟨k1',hk1',hc0⟩:=hc0.inv;obtain ⟨k2',hk2',hc0⟩:=hc0.inv;unfold Z0A.s0 at h;refine .tR 1 V H fun b2 σ H => (.iV V (.na H fun H => (.then ?_)));refine .wh h V ?_ ?_ <;> intro h
  ·refine .skip (.then (.inBlock (.tR 2 V H fun b3 σ H => (.mV V (.aV V (.na H fun H => (.tR 10 V H fun b4 σ H => (.m1 (.yld yid) V V ?_))))))));refine .ld cv0 H k1' hk1' V V V V nofun V (.ld (vi p3') H k2' hk2' V V V V nofun V (.mV V (.iV V ?_)));obtain ⟨x1,q1,h⟩:=bs h;refine .callV (cv:=cv0) (ys:=[(vi (w64 (p3' + s1.1)))]) (r:=(.tup [(vl Span.cs x1.1),(vi x1.2)])) H V V (hf0 (w64 (p3' + s1.1)) _ q1) hc0 nofun V fun σ H => (.xV V (.xV V ?_));obtain ⟨x2,q2,h⟩:=bs h;refine .callY (z:=(x1.1,x1.2)) (s':=x2.1) (b:=x2.2) [] H hC V V hy q2 V V fun σ L hC H => ?_;have hc0:=hcap _ _ hC;obtain ⟨k0',hk0',hc0⟩:=hc0.inv;obtain ⟨k1',hk1',hc0⟩:=hc0.inv;obtain ⟨k2',hk2',hc0⟩:=hc0.inv;refine .tV V (.na H fun H => ?_);refine .wh h V ?_ ?_ <;> intro h
   ·refine .ret ?_;obtain rfl:=sj h;exact ⟨nofun,(.inr ⟨_,V,V,(EndsI.H (.inr V) H 0 V hC)⟩)⟩
   refine .skip (.ZF 2 V H fun b5 σ H => (.iV V (.mV V (.na H fun H => ?_))));obtain rfl:=sj h;exact ⟨V,_,hC,EI V,H⟩
  refine .exit ?_;obtain rfl:=sj h;exact ⟨nofun,(.inl ⟨_,_,hC,V,V,U,H⟩)⟩
 ·rintro x e σ (⟨a2,L,hC,rfl,rfl,he,H⟩ | ⟨r',rfl,rfl,hE⟩)
  ·replace h:=jgo h;obtain ⟨e,rfl⟩:=he.ex;have hc0:=hcap _ _ hC;obtain ⟨k0',hk0',hc0⟩:=hc0.inv;obtain ⟨k1',hk1',hc0⟩:=hc0.inv;obtain ⟨k2',hk2',hc0⟩:=hc0.inv;obtain rfl:=sj h;exact (EndsI.H (.inl V) H 0 V hC)
  ·replace h:=jret h;obtain rfl:=sj h;exact hE
theorem Z4y {tell:Int→Option ((List Span) × Int)} {from':Int} {many:Int} {C:List Res} {cv0:PV} (hs0:cv0.one = true) (hp0:cv0.pure = true→C = []) (hf0:∀ z0 y,tell z0 = some y→CloH CX cv0 [(vi z0)] (.tup [(vl Span.cs y.1),(vi y.2)]) C) {r:(List Span) × Int} (h:ZU tell from' many = some r):FnH CX 33 [cv0,(vi from'),(vi many)] (.tup [(vl Span.cs r.1),(vi r.2)]) C:=by
 refine FnH.of Try.func33 V V V V (Z2q (Z3D hs0) (Z2q V (Z2q V all_nil))) V (fun h => hp0 (Z3T h 0 V)) ?_;intro σ L hC H;unfold ZU at h;refine .tR 2 V H fun b1 σ H => (.alc (cs:=[.nils]) H V V fun σ H => (.alc (cs:=[(vi 0)]) H V V fun σ H => (.na H fun H => (.tR 1 V H fun b2 σ H => (.alc (cs:=[.nils]) H V V fun σ H => (.na H fun H => (.then (.tR 4 V H fun b3 σ H => ?_))))))));refine .m1 cv0 V V (.mV V (.mV V ?_));obtain ⟨y1,hj1,h⟩:=bs h;refine .callI (PostA:=fun r A => ∃ (id1:Nat) (id2:Nat) (id3:Nat),r = (.clo 87 [] [(.ptr id1 1 0),(.ptr id3 1 0),(.ptr id2 1 0)])∧A = [.blk id1 3 [(vi many)],.blk id2 3 [(vi from')],.blk id3 65 [cv0],.blk (b2 + 0) 37 [.nils],.blk (b1 + 1) 29 [(vi 0)],.blk (b1 + 0) 37 [.nils]]) (cv:=(.v (.fn 63))) (ys:=[cv0,(vi from'),(vi many)]) (L:=L) [.blk (b2 + 0) 37 [.nils],.blk (b1 + 1) 29 [(vi 0)],.blk (b1 + 0) 37 [.nils]] H V V (fun T1 hT H => callI_of Try.func63 V (fun _ => V) V V V V ?_) nofun V ?_
 ·replace h:=hj1;have hC:=hT _ hC;refine .tR 4 V H fun b4 σ H => (.bxc (cs:=[cv0]) H V (one_cells hs0) V fun σ H => (.bxc (cs:=[(vi from')]) H V V V fun σ H => (.bxc (cs:=[(vi many)]) H V V V fun σ H => (.aV V (.na H fun H => (.tR 2 V H fun b5 σ H => (.Z7T (fs:=[]) (cs:=[(.ptr (b4 + 2) 1 0),(.ptr (b4 + 0) 1 0),(.ptr (b4 + 1) 1 0)]) V V V V (.a1 (.clo 87 [] [(.ptr (b4 + 2) 1 0),(.ptr (b4 + 0) 1 0),(.ptr (b4 + 1) 1 0)]) V V ?_))))))));refine .na H fun H => (.ret ?_);obtain rfl:=sj h;exact ⟨.inr V,_,Z3u H (.tmp (v:=(.clo 87 [] [(.ptr (b4 + 2) 1 0),(.ptr (b4 + 0) 1 0),(.ptr (b4 + 1) 1 0)])) V .nil),_,⟨(b4 + 2),(b4 + 1),(b4 + 0),V,V⟩,H⟩
 ·rintro _ _ σ ⟨id1,id2,id3,rfl,rfl⟩ H;refine .na H fun H => (.inBlock ?_);replace H:=H.pushNil 59 2 true;obtain ⟨y2,hj2,h⟩:=bs h;refine .rangeH H rfl (fun s2 M => ∃ (w3:PV),M = (.sl w3 59 2 (s2.1.map Span.cs) true :: .blk id1 3 [(vi many)] :: .blk id2 3 [(vi from')] :: .blk id3 65 [cv0] :: .blk (b2 + 0) 37 [w3] :: .blk (b1 + 1) 29 [(vi s2.2)] :: .blk (b1 + 0) 37 [.nils] :: L)) (fun z2 => [(vl Span.cs z2.1),(vi z2.2)]) ZU.b0 (fun p => if p = 0 then none else some .ret) rfl (fun p => by (repeat' split) <;> exact ⟨_,rfl⟩) (r:=y2) ⟨.nils,rfl⟩ (fun _ => rfl) (fun _ => rfl) ?_ (fun id hy => Z9n hf0 hy (fun s L hL => by obtain ⟨M,hM,rfl⟩:=hL;obtain ⟨_,rfl⟩:=hM;exact (.cons 2 rfl (.cons 4 rfl (.cons 3 rfl hC.push.push.push.push.push.push.push.push)))) hj2) ?_
  ·intro R0 R1 s2 z2 s' p h σ M O hM H;obtain ⟨w3,rfl⟩:=hM;unfold ZU.b0 at h;have hC:=hC.more (M:=O);refine .env [(15,(vl Span.cs z2.1)),(16,(vi z2.2)),(6,(.ptr (b1 + 0) 1 0)),(7,(.ptr (b1 + 1) 1 0)),(8,(.ptr (b2 + 0) 1 0)),(14,(.clo 87 [] [(.ptr id1 1 0),(.ptr id3 1 0),(.ptr id2 1 0)]))] (EI V) fun e => (.tR 1 V H fun b6 σ H => (.aV V (.na H fun H => (.ZF 1 V H fun b7 σ H => (.aV V (.na H fun H => ?_))))));refine ⟨V,(.sl w3 59 2 (s2.1.map Span.cs) true :: .blk id1 3 [(vi many)] :: .blk id2 3 [(vi from')] :: .blk id3 65 [cv0] :: .blk (b2 + 0) 37 [w3] :: .blk (b1 + 1) 29 [(vi s2.2)] :: .blk (b1 + 0) 37 [.nils] :: L),H,?_⟩;intro σ H;obtain ⟨y3,hj3,h⟩:=bs h;refine .mono (Q:=fun x e σ => (∃ a1,∃ (w4:PV),y3 = (.go a1)∧x = .normal∧Z8 e []∧Hs σ (R1 :: .sl w4 59 2 (a1.map Span.cs) true :: .blk id1 3 [(vi many)] :: .blk id2 3 [(vi from')] :: .blk id3 65 [cv0] :: .blk (b2 + 0) 37 [w4] :: .blk (b1 + 1) 29 [(vi s2.2)] :: .blk (b1 + 0) 37 [.nils] :: (L ++ O)))∨(∃ a2,y3 = (.ret a2)∧x = .ret∧Z8 e [(6,(.ptr (b1 + 0) 1 0)),(7,(.ptr (b1 + 1) 1 0))]∧Hs σ (R1 :: .sl w3 59 2 (s2.1.map Span.cs) true :: .blk id1 3 [(vi many)] :: .blk id2 3 [(vi from')] :: .blk id3 65 [cv0] :: .blk (b2 + 0) 37 [w3] :: .blk (b1 + 1) 29 [(vi z2.2)] :: .blk (b1 + 0) 37 [.nils] :: (L ++ O)))) ?_ ?_
   ·replace h:=hj3;refine .inBlock ?_;obtain ⟨y4,hj4,h⟩:=bs h;refine .mono (Q:=fun x e σ => (∃ a3,∃ (w5:PV),y4 = (.go a3)∧x = .normal∧Z8 e []∧Hs σ (R1 :: .sl w5 59 2 (a3.map Span.cs) true :: .blk id1 3 [(vi many)] :: .blk id2 3 [(vi from')] :: .blk id3 65 [cv0] :: .blk (b2 + 0) 37 [w5] :: .blk (b1 + 1) 29 [(vi s2.2)] :: .blk (b1 + 0) 37 [.nils] :: (L ++ O)))∨(∃ a4,y4 = (.ret a4)∧x = .ret∧Z8 e [(6,(.ptr (b1 + 0) 1 0)),(7,(.ptr (b1 + 1) 1 0))]∧Hs σ (R1 :: .sl w3 59 2 (s2.1.map Span.cs) true :: .blk id1 3 [(vi many)] :: .blk id2 3 [(vi from')] :: .blk id3 65 [cv0] :: .blk (b2 + 0) 37 [w3] :: .blk (b1 + 1) 29 [(vi z2.2)] :: .blk (b1 + 0) 37 [.nils] :: (L ++ O)))) ?_ ?_
    ·replace h:=hj4;refine .then (.tR 2 V H fun b8 σ H => (.mV V (.iV V (.na H fun H => ?_))));refine .wh h V ?_ ?_ <;> intro h
     ·refine .tR 3 V H fun b9 σ H => (.mV V (.sV [.nils] H 7 V fun σ H => (.sV [(vi z2.2)] H 6 V fun σ H => (.na H fun H => (.ret ?_)))));obtain rfl:=sj h;exact (.inr ⟨_,V,V,EI V,H⟩)
     refine .skip (.then ?_);refine .jn h .normal (fun y5 => [(8,(.ptr (b2 + 0) 1 0)),(9,(vl Span.cs y5.1))]) (fun y5 => (R1 :: .sl w3 59 2 (y5.2.map Span.cs) true :: .blk id1 3 [(vi many)] :: .blk id2 3 [(vi from')] :: .blk id3 65 [cv0] :: .blk (b2 + 0) 37 [w3] :: .blk (b1 + 1) 29 [(vi s2.2)] :: .blk (b1 + 0) 37 [.nils] :: (L ++ O))) (fun y5 h => ?_) fun y5 e σ H h => ?_
     ·refine .then (.Z2L 23 V (by kernel_rfl) H fun b10 σ H B10 => (.ld w3 H 5 V V V V V (so (B10 5 _ V _ V)) V (.Z7w (c:=Span.cs) (xs:=s2.1) H 1 V V V (fun _ id ho => .inl ⟨B10 1 _ V id ho,nofun,(fun _ => by kernel_rfl)⟩) V (.iV V (.mV V ?_)))));refine .md H 4 [(27,(vb ((decide ((s2.1.length:Int) > 0)) && (decide ((z2.1.length:Int) > 0))))),(8,(.ptr (b2 + 0) 1 0)),(9,(vl Span.cs z2.1))] (R1 :: .sl w3 59 2 (s2.1.map Span.cs) true :: .blk id1 3 [(vi many)] :: .blk id2 3 [(vi from')] :: .blk id3 65 [cv0] :: .blk (b2 + 0) 37 [w3] :: .blk (b1 + 1) 29 [(vi s2.2)] :: .blk (b1 + 0) 37 [.nils] :: (L ++ O)) V ?_ fun e σ H => ?_
      ·refine .split V V ?_ ?_ <;> intro hc2
       ·refine .mV V (.nV V (.iV V (.kT V (.nil ?_))));exact ⟨⟨Z10 hc2,V,V,U⟩,H.wk (by omega)⟩
       ·refine .ps 3 V (.kF V (.nil ?_));exact ⟨⟨Z12 hc2,V,V,U⟩,H.wk (by omega)⟩
      refine .mV V ?_;obtain ⟨y6,hj6,h⟩:=bs h;refine .md H 14 [(42,(vb y6)),(8,(.ptr (b2 + 0) 1 0)),(9,(vl Span.cs z2.1))] (R1 :: .sl w3 59 2 (s2.1.map Span.cs) true :: .blk id1 3 [(vi many)] :: .blk id2 3 [(vi from')] :: .blk id3 65 [cv0] :: .blk (b2 + 0) 37 [w3] :: .blk (b1 + 1) 29 [(vi s2.2)] :: .blk (b1 + 0) 37 [.nils] :: (L ++ O)) V ?_ fun e σ H => ?_
      ·refine .sp hj6 V ?_ ?_ <;> intro h
       ·refine .mV V (.wt V V ?_);obtain ⟨x1,q1,h⟩:=bs h;refine .jV q1 V (.wt V V (.Z09 V V V V (.pV V (.wt V V (.ld w3 H 5 V V V V V (so (B10 5 _ V _ V)) V (.wt V V (.ld w3 H 5 V V V V V (so (B10 5 _ V _ V)) V (.wt V V ?_))))))));refine .Z7w (c:=Span.cs) (xs:=s2.1) H 1 V V V (fun _ id ho => .inl ⟨B10 1 _ V id ho,nofun,(fun _ => by kernel_rfl)⟩) V (.iV V (.wt V V ?_));obtain ⟨x2,q2,h⟩:=bs h;refine .Z8M H 1 V V V (at?_map q2) V V (fun _ id ho => .inl ⟨B10 1 _ V id ho,nofun,(fun _ => by kernel_rfl)⟩) V ?_;intro id4 hv1;refine .wt V V (.Z8E (id:=id4) H 1 V hv1 (by simp) V V V (fun _ => .inl ⟨B10 1 _ V _ (by rw [(hv1:(w3:PV) = _)];rfl),nofun,(fun _ => by kernel_rfl)⟩) V (.wt V V ?_));refine .loadS (id:=id4) (j:=1) (w:=(.int .i64 x2.To)) H 1 V hv1 (by simp) (at?_map q2) V (by simp) V V V (fun _ => .inl ⟨B10 1 _ V _ (by rw [(hv1:(w3:PV) = _)];rfl),nofun,(fun _ => by kernel_rfl)⟩) V ?_;refine .iV V (.iV V (.kT V (.nil ?_)));obtain rfl:=sj h;exact ⟨EI V,H.wk (by omega)⟩
       refine .ps 13 V (.kF V (.nil ?_));obtain rfl:=sj h;exact ⟨EI V,H.wk (by omega)⟩
      refine .na H fun H => ?_;refine .wh h V ?_ ?_ <;> intro h
      ·refine .then (.Z2L 11 V (by kernel_rfl) H fun b11 σ H B11 => (.ld w3 H 5 V V V V V (so (B11 5 _ V _ V)) V (.ld w3 H 5 V V V V V (so (B11 5 _ V _ V)) V (.Z7w (c:=Span.cs) (xs:=s2.1) H 1 V V V (fun _ id ho => .inl ⟨B11 1 _ V id ho,nofun,(fun _ => by kernel_rfl)⟩) V (.iV V (.mV V ?_))))));obtain ⟨x3,q3,h⟩:=bs h;refine .jV q3 V (.Z09 V V V V (.pV V ?_));obtain ⟨x4,q4,h⟩:=bs h;refine .Z8M H 1 V V V (at?_map q4) V V (fun _ id ho => .inl ⟨B11 1 _ V id ho,nofun,(fun _ => by kernel_rfl)⟩) V ?_;intro id5 hv2;refine .Z8E (id:=id5) H 1 V hv2 (by simp) V V V (fun _ => .inl ⟨B11 1 _ V _ (by rw [(hv2:(w3:PV) = _)];rfl),nofun,(fun _ => by kernel_rfl)⟩) V (.storeSt (id:=id5) (j:=1) (zs:=[(.int .i64 x3.To)]) (u:=x4) (u':=(Span.mk x4.From x3.To)) H 1 V hv2 (by simp) q4 V (by simp) V V V V V V (fun _ => .inl ⟨B11 1 _ V _ (by rw [(hv2:(w3:PV) = _)];rfl),(fun _ => by kernel_rfl),nofun⟩) fun σ H => (.na H fun H => (.ZF 3 V H fun b12 σ H => (.mV V ?_))));obtain ⟨x5,q5,h⟩:=bs h;refine .sliceP10 (c:=Span.cs) q5 V V V V (fun _ => V) V (.aV V (.na H fun H => ?_));obtain rfl:=sj h;exact ⟨V,EI V,H⟩
      refine .skip ?_;obtain rfl:=sj h;exact ⟨V,EI V,H⟩
     refine .ZF 4 V H fun b13 σ H => (.lV H 5 V (.mV V ?_));obtain ⟨x6,q6,h⟩:=bs h;refine .Z28 (c:=Span.cs) (v:=w3) (w:=(vl Span.cs y5.1)) (xs:=y5.2) (ys:=y5.1) H (by omega) (by omega) 1 V V V (.m (fun _ => V)) q6 V V V V V nofun V fun w6 σ H => (.Z4N (v:=w6) (ys:=[w6]) (cells':=[w6]) H 5 V V V V (H.slCells (k:=1) V) V V V V nofun fun σ H => (.na H fun H => ?_));obtain rfl:=sj h;exact (.inl ⟨_,w6,V,V,U,H⟩)
    ·rintro x e σ (⟨a5,w7,rfl,rfl,he,H⟩ | ⟨a6,rfl,rfl,he,H⟩)
     ·replace h:=jgo h;obtain ⟨e,rfl⟩:=he.ex;obtain rfl:=sj h;exact (.inl ⟨_,w7,V,V,U,H⟩)
     ·replace h:=jret h;obtain ⟨e,rfl⟩:=he.ex;obtain rfl:=sj h;exact (.inr ⟨_,V,V,EI V,H⟩)
   ·rintro x e σ (⟨a7,w8,rfl,rfl,he,H⟩ | ⟨a8,rfl,rfl,he,H⟩)
    ·replace h:=jgo h;obtain ⟨e,rfl⟩:=he.ex;obtain ⟨rfl,rfl⟩:=Prod.mk.inj (Option.some.inj h);exact ⟨⟨V,(iff_of_true V V)⟩,_,⟨w8,V⟩,H⟩
    ·replace h:=jret h;obtain ⟨e,rfl⟩:=he.ex;obtain ⟨rfl,rfl⟩:=Prod.mk.inj (Option.some.inj h);exact ⟨⟨V,(iff_of_false nofun nofun)⟩,_,⟨w3,V⟩,H⟩
  ·intro x σ M hx hM H;obtain ⟨w9,rfl⟩:=hM;cases hc0_:(y2.2 == 0)
   ·replace h:=cond_F hc0_ h;have hx:x = .ret:=by simpa [ne_of_beq_false hc0_,Z5y] using hx.symm
    subst hx;obtain rfl:=sj h;exact (EndsH.H (xs:=[.nils,(vi y2.1.2)]) (.inr V) H (.cell (v:=.nils) 6 V V V V V (.cell (v:=(vi y2.1.2)) 5 V V V V V .nil)) (.two (.cons (.c .n) (.cons (.c (.v _)) .nil))) 7 V)
   ·replace h:=cond_T hc0_ h;have hx:x = .normal:=by rw [eq_of_beq hc0_] at hx;exact (Option.some.inj hx).symm
    subst hx;refine .tR 3 V H fun b14 σ H => (.lV H 4 V (.Z4N (v:=w9) (ys:=[w9]) (cells':=[w9]) H 6 V V V V (H.slCells (k:=0) V) V V V V nofun fun σ H => (.sV [(vi 0)] H 5 V fun σ H => (.na H fun H => (.ret ?_)))));obtain rfl:=sj h;exact (EndsH.H (xs:=[w9,(vi 0)]) (.inr V) H (.cell (v:=w9) 6 V V V V V (.cell (v:=(vi 0)) 5 V V V V V .nil)) (.two (.cons (.c (.s 0 V)) (.cons (.c (.v _)) .nil))) 7 V)
theorem Z7v {f:Form} {i:Int} {r:(List Span) × Int} (h:Z21 f i = some r):Fn CX 40 [(.agg (vs (Form.cs f))),(vi i)] (.tup [(vl Span.cs r.1),(vi r.2)]):=by
 refine Fn.go Try.func40 V fun σ H => ?_;unfold Z21 at h;refine .tR 3 V H fun b1 σ H => (.bxc (cs:=(vF f)) H V V V fun σ H => (.a1 .nils V V (.aV V (.na H fun H => (.then (.tR 3 V H fun b2 σ H => (.fV H 0 V (.lV H 0 V ?_))))))));refine .iV V (.na H fun H => ?_);refine .wh h V ?_ ?_ <;> intro h
 ·refine .tR 2 V H fun b3 σ H => (.a1 .nils V V (.aV V (.na H fun H => (.ret ?_))));obtain rfl:=sj h;exact (Ends.H (xs:=[.nils,(vi 0)]) (.inr V) H (.tmp (v:=.nils) V (.tmp (v:=(vi 0)) V .nil)) (.two (.cons (.c .n) (.cons (.c (.v _)) .nil))))
 refine .skip (.tR 11 V H fun b4 σ H => (.mV V (.fV H 0 V (.lV H 0 V ?_))));obtain ⟨x1,q1,h⟩:=bs h;refine .cV (Z42 q1) V (.m1 (.tup [(vi x1.1),(vi x1.2.1),(vi x1.2.2)]) V V (.xV V (.xV V (.xV V (.aV V (.aV V (.aV V (.na H fun H => ?_))))))));refine .tR 9 V H fun b5 σ H => (.mV V (.fV H 0 V (.lV H 0 V (.cV (Z79 V) V (.m1 (.tup [(vi (Za x1.1 f.Period).1),(vi (Za x1.1 f.Period).2)]) V V (.xV V (.xV V (.aV V ?_))))))));refine .aV V (.na H fun H => (.then (.tR 7 V H fun b6 σ H => (.fV H 0 V (.lV H 0 V (.mV V ?_))))));obtain ⟨x2,q2,h⟩:=bs h;refine .jV q2 V (.pV V (.nV V (.iV V (.na H fun H => ?_))));refine .wh h V ?_ ?_ <;> intro h
 ·refine .tR 2 V H fun b7 σ H => (.a1 .nils V V (.aV V (.na H fun H => (.ret ?_))));obtain rfl:=sj h;exact (Ends.H (xs:=[.nils,(vi 0)]) (.inr V) H (.tmp (v:=.nils) V (.tmp (v:=(vi 0)) V .nil)) (.two (.cons (.c .n) (.cons (.c (.v _)) .nil))))
 refine .skip (.then (.tR 6 V H fun b8 σ H => (.mV V (.iV V (.mV V ?_)))));refine .md H 3 [(41,(vb ((x1.2.2 != 0) || (((Za x1.1 f.Period).2) != 0)))),(2,(.ptr (b1 + 0) 4 0)),(7,(vi x1.2.1)),(9,(vi (Za x1.1 f.Period).1))] [.blk (b1 + 0) 25 (vF f)] rfl ?_ fun e σ H => ?_
 ·refine .split V V ?_ ?_ <;> intro hc3
  ·refine .ps 2 V (.kT V (.nil ?_));exact ⟨⟨or_T hc3,V,V,V,U⟩,H.wk (by omega)⟩
  ·refine .mV V (.iV V (.kF V (.nil ?_)));exact ⟨⟨or_F hc3,V,V,V,U⟩,H.wk (by omega)⟩
 refine .na H fun H => ?_;refine .wh h V ?_ ?_ <;> intro h
 ·refine .tR 2 V H fun b9 σ H => (.a1 .nils V V (.aV V (.na H fun H => (.ret ?_))));obtain rfl:=sj h;exact (Ends.H (xs:=[.nils,(vi 20)]) (.inr V) H (.tmp (v:=.nils) V (.tmp (v:=(vi 20)) V .nil)) (.two (.cons (.c .n) (.cons (.c (.v _)) .nil))))
 refine .skip (.tR 11 V H fun b10 σ H => (.fV H 0 V (.lV H 0 V (.mV V ?_))));obtain ⟨x3,q3,h⟩:=bs h;refine .jV q3 V (.pV V (.mV V ?_));obtain ⟨x4,q4,h⟩:=bs h;refine .cV (Z7p q4) V (.xV V (.xV V (.aV V (.aV V (.na H fun H => (.ret ?_))))));obtain rfl:=sj h;exact Ends.eR V
theorem Z91 {i:Int} {p1':Form} {id0':Nat} {r:(List Span) × Int} (h:Z0D i p1' = some r):FnH CX 62 [(vi i),(.ptr id0' 4 0)] (.tup [(vl Span.cs r.1),(vi r.2)]) [.blk id0' 25 (vF p1')]:=by
 refine FnH.of Try.func62 V V V V V V (fun h => by have:=Z3T h 1 V;cases this) ?_;intro σ L hC H;have hC0:=hC;obtain ⟨k0',hk0',hC⟩:=hC.inv;unfold Z0D at h;refine .tR 2 V H fun b1 σ H => (.a1 .nils V V (.aV V (.na H fun H => (.tR 7 V H fun b2 σ H => (.Z9q (cs:=(vF p1')) H k0' hk0' V V V V V V nofun V (.mV V ?_))))));obtain ⟨x1,q1,h⟩:=bs h;refine .cV (Z7v q1) V (.xV V (.xV V (.aV V (.aV V (.na H fun H => (.ret ?_))))));obtain rfl:=sj h;exact (EndsH.H (xs:=[(vl Span.cs x1.1),(vi x1.2)]) (.inr V) H (.tmp (v:=(vl Span.cs x1.1)) V (.tmp (v:=(vi x1.2)) V .nil)) (.two (.cons (.c (.v _)) (.cons (.c (.v _)) .nil))) 0 V)
end Go.Dn
