/- Part 3 of what the row stands on. -/
import Derived.KernelRfl
import Derived.Test.YtobglidemkpmaaaGreatM2
set_option linter.unusedVariables false
set_option linter.unusedSimpArgs false
namespace Go.Dn
open Go
noncomputable section
structure Span where
 From:Int
 To:Int
 deriving DecidableEq
def Span.cs (x:Span):List FV:=[(.int .i64 x.From),(.int .i64 x.To)]
def Span.ok (x:Span):Prop:=okI .i64 x.From∧okI .i64 x.To
structure Granule where
 Index:Int
 Ticks:(List Span)
 deriving DecidableEq
def Granule.cs (x:Granule):List FV:=[(.int .i64 x.Index),(.sl (x.Ticks.map Span.cs))]
def Granule.ok (x:Granule):Prop:=okI .i64 x.Index∧okL 16 Span.ok x.Ticks
structure Form where
 Period:Int
 Count:Int
 Core:(List (List Span))
 Odd:(List Granule)
 deriving DecidableEq
def Form.cs (x:Form):List FV:=[(.int .i64 x.Period),(.int .i64 x.Count),(.sl (x.Core.map (cL Span.cs))),(.sl (x.Odd.map Granule.cs))]
def Form.ok (x:Form):Prop:=okI .i64 x.Period∧okI .i64 x.Count∧okL 24 (okL 16 Span.ok) x.Core∧okL 32 Granule.ok x.Odd
structure Bound where
 Inf:Int
 N:Int
 deriving DecidableEq
def Bound.cs (x:Bound):List FV:=[(.int .i8 x.Inf),(.int .i64 x.N)]
def Bound.ok (x:Bound):Prop:=okI .i8 x.Inf∧okI .i64 x.N
structure Range where
 Low:Int
 High:Int
 HasLow:Bool
 HasHigh:Bool
 deriving DecidableEq
def Range.cs (x:Range):List FV:=[(.int .i64 x.Low),(.int .i64 x.High),(.bool x.HasLow),(.bool x.HasHigh)]
def Range.ok (x:Range):Prop:=okI .i64 x.Low∧okI .i64 x.High∧okB x.HasLow∧okB x.HasHigh
structure size_place where
 first:Int
 last:Int
 deriving DecidableEq
def size_place.cs (x:size_place):List FV:=[(.int .i64 x.first),(.int .i64 x.last)]
def size_place.ok (x:size_place):Prop:=okI .i64 x.first∧okI .i64 x.last
structure size_spot where
 index:Int
 place:size_place
 deriving DecidableEq
def size_spot.cs (x:size_spot):List FV:=[(.int .i64 x.index),(.int .i64 x.place.first),(.int .i64 x.place.last)]
def size_spot.ok (x:size_spot):Prop:=okI .i64 x.index∧size_place.ok x.place
structure size_form where
 Form:Form
 spots:(List size_spot)
 deriving DecidableEq
def size_form.cs (x:size_form):List FV:=[(.int .i64 x.Form.Period),(.int .i64 x.Form.Count),(.sl (x.Form.Core.map (cL Span.cs))),(.sl (x.Form.Odd.map Granule.cs)),(.sl (x.spots.map size_spot.cs))]
def size_form.ok (x:size_form):Prop:=Form.ok x.Form∧okL 24 size_spot.ok x.spots
structure carry_asked where
 f:Form
 m:Int
 deriving DecidableEq
def carry_asked.cs (x:carry_asked):List FV:=[(.int .i64 x.f.Period),(.int .i64 x.f.Count),(.sl (x.f.Core.map (cL Span.cs))),(.sl (x.f.Odd.map Granule.cs)),(.int .i64 x.m)]
def carry_asked.ok (x:carry_asked):Prop:=Form.ok x.f∧okI .i64 x.m
structure Con where
 X:Int
 Y:Int
 Form:Int
 Range:Range
 deriving DecidableEq
def Con.cs (x:Con):List FV:=[(.int .i64 x.X),(.int .i64 x.Y),(.int .i64 x.Form),(.int .i64 x.Range.Low),(.int .i64 x.Range.High),(.bool x.Range.HasLow),(.bool x.Range.HasHigh)]
def Con.ok (x:Con):Prop:=okI .i64 x.X∧okI .i64 x.Y∧okI .i64 x.Form∧Range.ok x.Range
structure Net where
 Vars:Int
 Forms:(List Form)
 Cons:(List Con)
 deriving DecidableEq
def Net.cs (x:Net):List FV:=[(.int .i64 x.Vars),(.sl (x.Forms.map Form.cs)),(.sl (x.Cons.map Con.cs))]
def Net.ok (x:Net):Prop:=okI .i64 x.Vars∧okL 64 Form.ok x.Forms∧okL 48 Con.ok x.Cons
structure epactlaw24_Set where
 I:Int
 J:Int
 Most:Bound
 deriving DecidableEq
def epactlaw24_Set.cs (x:epactlaw24_Set):List FV:=[(.int .i64 x.I),(.int .i64 x.J),(.int .i8 x.Most.Inf),(.int .i64 x.Most.N)]
def epactlaw24_Set.ok (x:epactlaw24_Set):Prop:=okI .i64 x.I∧okI .i64 x.J∧Bound.ok x.Most
structure prop_end where
 n:Int
 there:Bool
 deriving DecidableEq
def prop_end.cs (x:prop_end):List FV:=[(.int .i64 x.n),(.bool x.there)]
def prop_end.ok (x:prop_end):Prop:=okI .i64 x.n∧okB x.there
structure Spread where
 Kind:Int
 Net:Net
 Ticks:(List (List Bound))
 Rounds:Int
 deriving DecidableEq
def Spread.cs (x:Spread):List FV:=[(.int .u8 x.Kind),(.int .i64 x.Net.Vars),(.sl (x.Net.Forms.map Form.cs)),(.sl (x.Net.Cons.map Con.cs)),(.sl (x.Ticks.map (cL Bound.cs))),(.int .i64 x.Rounds)]
def Spread.ok (x:Spread):Prop:=okI .u8 x.Kind∧Net.ok x.Net∧okL 24 (okL 16 Bound.ok) x.Ticks∧okI .i64 x.Rounds
def Z0M.s0 (f:Form) (s1:Int × Int):Option ((Int × Int) ⊕ (Int)) :=
 (bif (decide (s1.2 < (f.Core.length:Int))) then
  (at? f.Core s1.2).bind fun x1 =>
  some (.inl ((w64 (s1.1 + (x1.length:Int))),(w64 (s1.2 + 1))))
 else
  some (.inr s1.1))
def Z0M.s1 (f:Form) (s2:Int × Int):Option ((Int × Int) ⊕ (Int)) :=
 (bif (decide (s2.2 < (f.Odd.length:Int))) then
  (at? f.Odd s2.2).bind fun x2 =>
  some (.inl ((w64 (s2.1 + (x2.Ticks.length:Int))),(w64 (s2.2 + 1))))
 else
  some (.inr s2.1))
def Z0M (f:Form):Option (Int) :=
 (loopO (Z0M.s0 f) (0,0)).bind fun (y1:Int) =>
 (loopO (Z0M.s1 f) (y1,0)).bind fun (y2:Int) =>
 some y2
def Z0w (f:Form):Option (Bool) :=
 (
  (bif ((decide ((f.Core.length:Int)≤12)) && (decide ((f.Odd.length:Int)≤8))) then
   (Z0M f).bind fun x1 =>
   some (decide (x1≤60))
  else
   some false)).bind fun (y1:Bool) =>
 some y1
def Z1A (t:Int):Bool :=
 ((decide (t ≥ (-1099511627776))) && (decide (t≤1099511627776)))
def Z0Q.s0 (l:(List Span)) (s1:Int):Option ((Int) ⊕ (Jx (Unit) (Bool))) :=
 (bif (decide (s1 < (l.length:Int))) then
  (at? l s1).bind fun x1 =>
  (
   (bif (((!(Z1A x1.From)) || (!(Z1A x1.To))) || (decide (x1.From > x1.To))) then
    some true
   else
    (
     (bif (decide (s1 > 0)) then
      (at? l (w64 (s1 - 1))).bind fun x2 =>
      some (decide (x1.From < (w64 (x2.To + 2))))
     else
      some false)).bind fun (y3:Bool) =>
    some y3)).bind fun (y2:Bool) =>
  (bif y2 then
   some (.inr (.ret false))
  else
   some (.inl (w64 (s1 + 1))))
 else
  some (.inr (.go ())))
def Z0Q (l:(List Span)):Option (Bool) :=
 (loopO (Z0Q.s0 l) 0).bind fun (y1:Jx (Unit) (Bool)) =>
 y1.elim (fun r' =>
   some r') fun a2 =>
 some true
def Z1L (i:Int):Bool :=
 ((decide (i ≥ (-1099511627776))) && (decide (i≤1099511627776)))
def Zs.s0 (f:Form) (s1:Int):Option ((Int) ⊕ (Jx (Unit) (Bool))) :=
 (bif (decide (s1 < (f.Core.length:Int))) then
  (at? f.Core s1).bind fun x1 =>
  (Z0Q x1).bind fun x2 =>
  (bif (!x2) then
   some (.inr (.ret false))
  else
   some (.inl (w64 (s1 + 1))))
 else
  some (.inr (.go ())))
def Zs.s1 (f:Form) (s2:Int):Option ((Int) ⊕ (Jx (Unit) (Bool))) :=
 (bif (decide (s2 < (f.Odd.length:Int))) then
  (at? f.Odd s2).bind fun x3 =>
  (Z0Q x3.Ticks).bind fun x4 =>
  (
   (bif ((!x4) || (!(Z1L x3.Index))) then
    some true
   else
    (
     (bif (decide (s2 > 0)) then
      (at? f.Odd (w64 (s2 - 1))).bind fun x5 =>
      some (decide (x3.Index≤x5.Index))
     else
      some false)).bind fun (y4:Bool) =>
    some y4)).bind fun (y3:Bool) =>
  (bif y3 then
   some (.inr (.ret false))
  else
   some (.inl (w64 (s2 + 1))))
 else
  some (.inr (.go ())))
def Zs (f:Form):Option (Bool) :=
 (bif ((((f.Count != (f.Core.length:Int)) || ((f.Count == 0) != (f.Period == 0))) || (decide (f.Period < 0))) || (decide (f.Period > 1099511627776))) then
  some false
 else
  (loopO (Zs.s0 f) 0).bind fun (y1:Jx (Unit) (Bool)) =>
  y1.elim (fun r' =>
    some r') fun a2 =>
  (loopO (Zs.s1 f) 0).bind fun (y2:Jx (Unit) (Bool)) =>
  y2.elim (fun r' =>
    some r') fun a4 =>
  some true)
def Z0Y.s0 (f:Form) (s2:Int × (List (List Span))):Option ((Int × (List (List Span))) ⊕ ((List (List Span)))) :=
 (bif (decide (s2.1 < (f.Core.length:Int))) then
  (
   (
    (at? f.Core s2.1).bind fun x1 =>
    (bif (decide ((x1.length:Int) > 0)) then
     (app? 24 s2.2 [x1]).bind fun x2 =>
     some x2
    else
     some s2.2)).bind fun (y3:(List (List Span))) =>
   some y3).bind fun (y2:(List (List Span))) =>
  some (.inl ((w64 (s2.1 + 1)),y2))
 else
  some (.inr s2.2))
def Z0Y.s1 (f:Form) (y1:(List (List Span))) (s3:Int):Option ((Int) ⊕ (Jx (Unit) (Bool))) :=
 (bif (decide (s3 < (y1.length:Int))) then
  (
   (
    (at? y1 s3).bind fun x3 =>
    (nz? (y1.length:Int)).bind fun u1 =>
    (at? y1 ((w64 (s3 + 1)).tmod (y1.length:Int))).bind fun x4 =>
    (
     (bif ((w64 (s3 + 1)) == (y1.length:Int)) then
      some f.Period
     else
      some 0)).bind fun (y7:Int) =>
    (at? x3 (w64 ((x3.length:Int) - 1))).bind fun x5 =>
    (at? x4 0).bind fun x6 =>
    (bif (decide (x5.To ≥ (w64 (x6.From + y7)))) then
     some (.ret false)
    else
     some (.go ()))).bind fun (y6:Jx (Unit) (Bool)) =>
   y6.elim (fun r' =>
     some (.ret r')) fun a4 =>
   some (.go ())).bind fun (y5:Jx (Unit) (Bool)) =>
  y5.elim (fun r' =>
    some (.inr (.ret r'))) fun a5 =>
  some (.inl (w64 (s3 + 1)))
 else
  some (.inr (.go ())))
def Z0Y (f:Form):Option (Bool) :=
 (loopO (Z0Y.s0 f) (0,[])).bind fun (y1:(List (List Span))) =>
 (loopO (Z0Y.s1 f y1) 0).bind fun (y4:Jx (Unit) (Bool)) =>
 y4.elim (fun r' =>
   some r') fun a6 =>
 some true
def Z1.s0 (x':(List Granule)) (target:Int) (cmp:Granule→Int→Option Int) (s1:Int × Int):Option ((Int × Int) ⊕ (Int)) :=
 (bif (decide (s1.1 < s1.2)) then
  (
   (at? x' (w64 ((IntKind.u64.wrap (w64 (s1.1 + s1.2))).fdiv (2 ^ 1)))).bind fun x1 =>
   (cmp x1 target).bind fun x2 =>
   (bif (decide (x2 < 0)) then
    some ((w64 ((w64 ((IntKind.u64.wrap (w64 (s1.1 + s1.2))).fdiv (2 ^ 1))) + 1)),s1.2)
   else
    some (s1.1,(w64 ((IntKind.u64.wrap (w64 (s1.1 + s1.2))).fdiv (2 ^ 1)))))).bind fun (y2:Int × Int) =>
  some (.inl (y2.1,y2.2))
 else
  some (.inr s1.1))
def Z1 (x':(List Granule)) (target:Int) (cmp:Granule→Int→Option Int):Option (Int × Bool) :=
 (loopO (Z1.s0 x' target cmp) (0,(x'.length:Int))).bind fun (y1:Int) =>
 (
  (bif (decide (y1 < (x'.length:Int))) then
   (at? x' y1).bind fun x3 =>
   (cmp x3 target).bind fun x4 =>
   some (x4 == 0)
  else
   some false)).bind fun (y3:Bool) =>
 some (y1,y3)
def Z3I (x':Int):Bool :=
 (x' != x')
def Z2O (x':Int) (y:Int):Int :=
 (bif (Z3I x') then
  (bif (Z3I y) then
   0
  else
   (-1))
 else
  (bif (Z3I y) then
   1
  else
   (bif (decide (x' < y)) then
    (-1)
   else
    (bif (decide (x' > y)) then
     1
    else
     0))))
def Z4E (g:Granule) (i:Int):Int :=
 (Z2O g.Index i)
def Z5n (f:Form) (i:Int):Option (Int × Bool) :=
 (Z1 f.Odd i (fun z0 z1 => some (Z4E z0 z1))).bind fun x1 =>
 some (x1.1,x1.2)
def Z19 (a:Int) (b:Int):Option (Int × Int × Int) :=
 (bif (b == 0) then
  some (0,0,11)
 else
  (bif ((b == (-1)) && (a == (-9223372036854775808))) then
   some (0,0,10)
  else
   (nz? b).bind fun u1 =>
   (nz? b).bind fun u2 =>
   (
    (bif (((a.tmod b) != 0) && ((decide ((a.tmod b) < 0)) != (decide (b < 0)))) then
     some ((w64 ((w64 (a.tdiv b)) - 1)),(w64 ((a.tmod b) + b)))
    else
     some ((w64 (a.tdiv b)),(a.tmod b)))).bind fun (y1:Int × Int) =>
   some (y1.1,y1.2,0)))
def Z1o (a:Int):Int :=
 (bif (decide (a < 0)) then
  (IntKind.u64.wrap (0 - (IntKind.u64.wrap a)))
 else
  (IntKind.u64.wrap a))
def Z0I (x':Int) (y:Int):Int × Int :=
 ((IntKind.u64.wrap ((IntKind.u64.wrap ((IntKind.u64.wrap ((x'.fdiv (2 ^ 32)) * (y.fdiv (2 ^ 32)))) + ((IntKind.u64.wrap ((IntKind.u64.wrap ((x'.fdiv (2 ^ 32)) * (iAnd .u64 y 4294967295))) + ((IntKind.u64.wrap ((iAnd .u64 x' 4294967295) * (iAnd .u64 y 4294967295))).fdiv (2 ^ 32)))).fdiv (2 ^ 32)))) + ((IntKind.u64.wrap ((iAnd .u64 (IntKind.u64.wrap ((IntKind.u64.wrap ((x'.fdiv (2 ^ 32)) * (iAnd .u64 y 4294967295))) + ((IntKind.u64.wrap ((iAnd .u64 x' 4294967295) * (iAnd .u64 y 4294967295))).fdiv (2 ^ 32)))) 4294967295) + (IntKind.u64.wrap ((iAnd .u64 x' 4294967295) * (y.fdiv (2 ^ 32)))))).fdiv (2 ^ 32)))),(IntKind.u64.wrap (x' * y)))
def Z4T (n:Int) (minus:Bool):Int × Int :=
 (bif (minus && (decide (n≤9223372036854775808))) then
  ((w64 (IntKind.u64.wrap (0 - n))),0)
 else
  (bif ((!minus) && (decide (n≤9223372036854775807))) then
   ((w64 n),0)
  else
   (0,10)))
def Z42 (a:Int) (b:Int):Int × Int :=
 (bif (((Z0I (Z1o a) (Z1o b)).1) != 0) then
  (0,10)
 else
  ((Z4T ((Z0I (Z1o a) (Z1o b)).2) ((decide (a < 0)) != (decide (b < 0)))).1,(Z4T ((Z0I (Z1o a) (Z1o b)).2) ((decide (a < 0)) != (decide (b < 0)))).2))
def Z3G (f:Form) (i:Int):Option ((List Span) × Int × Int) :=
 (Z5n f i).bind fun x1 =>
 (bif x1.2 then
  (at? f.Odd x1.1).bind fun x2 =>
  some (x2.Ticks,0,0)
 else
  (bif (f.Count == 0) then
   some ([],0,0)
  else
   (Z19 i f.Count).bind fun x3 =>
   (at? f.Core x3.2.1).bind fun x4 =>
   some (x4,(Z42 x3.1 f.Period).1,(Z42 x3.1 f.Period).2)))
def Zf (a:Int) (b:Int):Int × Int :=
 (bif (((decide ((w64 (a + b)) > a)) != (decide (b > 0))) && (b != 0)) then
  (0,10)
 else
  ((w64 (a + b)),0))
def Z0d.s0 (l:(List Span)) (by':Int) (s2:Int × (List Span)):Option ((Int × (List Span)) ⊕ (Jx ((List Span)) ((List Span) × Int))) :=
 (bif (decide (s2.1 < (l.length:Int))) then
  (at? l s2.1).bind fun x1 =>
  (bif ((((((Zf x1.From by').2) != 0) || (((Zf x1.To by').2) != 0)) || (!(Z1A ((Zf x1.From by').1)))) || (!(Z1A ((Zf x1.To by').1)))) then
   some (.inr (.ret ([],20)))
  else
   (app? 16 s2.2 [(Span.mk ((Zf x1.From by').1) ((Zf x1.To by').1))]).bind fun x2 =>
   some (.inl ((w64 (s2.1 + 1)),x2)))
 else
  some (.inr (.go s2.2)))
def Z0d (l:(List Span)) (by':Int):Option ((List Span) × Int) :=
 (loopO (Z0d.s0 l by') (0,[])).bind fun (y1:Jx ((List Span)) ((List Span) × Int)) =>
 y1.elim (fun r' =>
   some r') fun a2 =>
 some (a2,0)
def Z0g (f:Form) (i:Int):Option ((List Span) × Int) :=
 (bif (!(Z1L i)) then
  some ([],20)
 else
  (Z3G f i).bind fun x1 =>
  (bif ((x1.1.length:Int) == 0) then
   some ([],0)
  else
   (bif (x1.2.2 != 0) then
    some ([],20)
   else
    (Z0d x1.1 x1.2.1).bind fun x2 =>
    some (x2.1,x2.2))))
def ZD.s0 (s:(List (List Span))) (f:(List Span)→Option Bool) (s1:Int):Option ((Int) ⊕ (Jx (Unit) (Int))) :=
 (bif (decide (s1 < (s.length:Int))) then
  (at? s s1).bind fun x1 =>
  (f x1).bind fun x2 =>
  (bif x2 then
   some (.inr (.ret s1))
  else
   some (.inl (w64 (s1 + 1))))
 else
  some (.inr (.go ())))
def ZD (s:(List (List Span))) (f:(List Span)→Option Bool):Option (Int) :=
 (loopO (ZD.s0 s f) 0).bind fun (y1:Jx (Unit) (Int)) =>
 y1.elim (fun r' =>
   some r') fun a2 =>
 some (-1)
def Zg (s:(List (List Span))) (f:(List Span)→Option Bool):Option (Bool) :=
 (ZD s f).bind fun x1 =>
 some (decide (x1 ≥ 0))
def Z5h (l:(List Span)):Bool :=
 (decide ((l.length:Int) > 0))
def Z3h (f:Form):Option (Bool) :=
 (Zg f.Core (fun z0 => some (Z5h z0))).bind fun x1 =>
 some (!x1)
def Z5F (f:Form) (i:Int):Option (Bool) :=
 (Z3G f i).bind fun x1 =>
 some (decide ((x1.1.length:Int) > 0))
def Z07.s0 (f:Form) (by':Int) (s1:Int):Option ((Int) ⊕ (Jx (Unit) (Int × Bool))) :=
 (bif ((decide (s1 ≥ 0)) && (decide (s1 < (f.Odd.length:Int)))) then
  (at? f.Odd s1).bind fun x3 =>
  (bif (decide ((x3.Ticks.length:Int) > 0)) then
   (at? f.Odd s1).bind fun x4 =>
   some (.inr (.ret (x4.Index,true)))
  else
   some (.inl (w64 (s1 + by'))))
 else
  some (.inr (.go ())))
def Z07.s1 (f:Form) (by':Int) (s2:Int):Option ((Int) ⊕ (Jx (Unit) (Int × Bool))) :=
 (bif (Z1L s2) then
  (Z5F f s2).bind fun x5 =>
  (bif x5 then
   some (.inr (.ret (s2,true)))
  else
   some (.inl (w64 (s2 + by'))))
 else
  some (.inr (.go ())))
def Z07 (f:Form) (from':Int) (by':Int):Option (Int × Bool) :=
 (Z3h f).bind fun x1 =>
 (bif x1 then
  (Z5n f from').bind fun x2 =>
  (
   (bif ((decide (by' < 0)) && (!x2.2)) then
    some (w64 (x2.1 - 1))
   else
    some x2.1)).bind fun (y1:Int) =>
  (loopO (Z07.s0 f by') y1).bind fun (y2:Jx (Unit) (Int × Bool)) =>
  y2.elim (fun r' =>
    some r') fun a2 =>
  some (0,false)
 else
  (loopO (Z07.s1 f by') from').bind fun (y3:Jx (Unit) (Int × Bool)) =>
  y3.elim (fun r' =>
    some r') fun a4 =>
  some (0,false))
def Z23 (f:Form) (i:Int):Option (Int × Bool) :=
 (bif (decide (i≤(-1099511627776))) then
  some (0,false)
 else
  (Z07 f (iMin (w64 (i - 1)) 1099511627776) (-1)).bind fun x1 =>
  some (x1.1,x1.2))
def Z1j (f:Form) (i:Int):Option (Int × Bool) :=
 (bif (decide (i ≥ 1099511627776)) then
  some (0,false)
 else
  (Z07 f (iMax (w64 (i + 1)) (-1099511627776)) 1).bind fun x1 =>
  some (x1.1,x1.2))
def Z11 (a:(List Span)) (b:(List Span)):Option (Bool) :=
 (
  (bif (((a.length:Int) == 0) || ((b.length:Int) == 0)) then
   some true
  else
   (at? a (w64 ((a.length:Int) - 1))).bind fun x1 =>
   (at? b 0).bind fun x2 =>
   some (decide (x1.To < x2.From)))).bind fun (y1:Bool) =>
 some y1
def Z2X (f:Form) (i:Int):Option (Bool) :=
 (Z0g f i).bind fun x1 =>
 (bif (x1.2 != 0) then
  some false
 else
  (Z23 f i).bind fun x2 =>
  (Z1j f i).bind fun x3 =>
  (
   (bif x2.2 then
    (Z0g f x2.1).bind fun x4 =>
    (bif (x4.2 != 0) then
     some (.ret false)
    else
     some (.go x4.1))
   else
    some (.go []))).bind fun (y1:Jx ((List Span)) (Bool)) =>
  y1.elim (fun r' =>
    some r') fun a2 =>
  (
   (bif x3.2 then
    (Z0g f x3.1).bind fun x5 =>
    (bif (x5.2 != 0) then
     some (.ret false)
    else
     some (.go x5.1))
   else
    some (.go []))).bind fun (y2:Jx ((List Span)) (Bool)) =>
  y2.elim (fun r' =>
    some r') fun a4 =>
  (Z11 a2 x1.1).bind fun x6 =>
  (
   (bif x6 then
    (Z11 x1.1 a4).bind fun x7 =>
    some x7
   else
    some false)).bind fun (y3:Bool) =>
  (
   (bif y3 then
    (Z11 a2 a4).bind fun x8 =>
    some x8
   else
    some false)).bind fun (y4:Bool) =>
  some y4)
def Zm.s0 (f:Form) (s1:Int):Option ((Int) ⊕ (Jx (Unit) (Int))) :=
 (bif (decide (s1 < (f.Odd.length:Int))) then
  (at? f.Odd s1).bind fun x4 =>
  (Z2X f x4.Index).bind fun x5 =>
  (bif (!x5) then
   some (.inr (.ret 50))
  else
   some (.inl (w64 (s1 + 1))))
 else
  some (.inr (.go ())))
def Zm (f:Form):Option (Int) :=
 (
  (bif ((decide ((f.Core.length:Int) > 6000)) || (decide ((f.Odd.length:Int) > 6000))) then
   some true
  else
   (Z0M f).bind fun x1 =>
   some (decide (x1 > 60000)))).bind fun (y1:Bool) =>
 (bif y1 then
  some 3
 else
  (Zs f).bind fun x2 =>
  (
   (bif (!x2) then
    some true
   else
    (Z0Y f).bind fun x3 =>
    some (!x3))).bind fun (y2:Bool) =>
  (bif y2 then
   some 50
  else
   (loopO (Zm.s0 f) 0).bind fun (y3:Jx (Unit) (Int)) =>
   y3.elim (fun r' =>
     some r') fun a2 =>
   some 0))
def Z5M (f:Form):Option (Bool) :=
 (Z0w f).bind fun x1 =>
 (
  (bif x1 then
   (Zm f).bind fun x2 =>
   some (x2 == 0)
  else
   some false)).bind fun (y1:Bool) =>
 some y1
def Z1G:Bool:=true
def Zd.s0 (s1':(List Span)) (s2':(List Span)) (s1:Int):Option ((Int) ⊕ (Jx (Unit) (Bool))) :=
 (bif (decide (s1 < (s1'.length:Int))) then
  (at? s1' s1).bind fun x1 =>
  (at? s2' s1).bind fun x2 =>
  (bif (!((x1.From == x2.From) && ((x1.To == x2.To) && true))) then
   some (.inr (.ret false))
  else
   some (.inl (w64 (s1 + 1))))
 else
  some (.inr (.go ())))
def Zd (s1':(List Span)) (s2':(List Span)):Option (Bool) :=
 (bif ((s1'.length:Int) != (s2'.length:Int)) then
  some false
 else
  (loopO (Zd.s0 s1' s2') 0).bind fun (y1:Jx (Unit) (Bool)) =>
  y1.elim (fun r' =>
    some r') fun a2 =>
  some true)
def Z1d (a:(List Span)) (b:(List Span)):Option (Bool) :=
 (Zd a b).bind fun x1 =>
 some x1
def epactlaw05_FormOrder (f:Form) (i:Int) (k:Int):Option (Bool) :=
 (Z5M f).bind fun x1 =>
 (bif (!x1) then
  some Z1G
 else
  (Z0g f (iMin i k)).bind fun x2 =>
  (Z0g f (iMax i k)).bind fun x3 =>
  (bif ((x2.2 != 0) || (x3.2 != 0)) then
   some ((((x2.2 == 0) || ((x2.2 == 20) && ((x2.1.length:Int) == 0))) && ((x3.2 == 0) || ((x3.2 == 20) && ((x3.1.length:Int) == 0)))) && Z1G)
  else
   (Z0Q x2.1).bind fun x4 =>
   (
    (bif x4 then
     (Z0Q x3.1).bind fun x5 =>
     some x5
    else
     some false)).bind fun (y1:Bool) =>
   (
    (bif y1 then
     (
      (bif ((iMin i k) == (iMax i k)) then
       (Z1d x2.1 x3.1).bind fun x6 =>
       some x6
      else
       some false)).bind fun (y3:Bool) =>
     (
      (bif y3 then
       some true
      else
       (
        (bif (decide ((iMin i k) < (iMax i k))) then
         (Z11 x2.1 x3.1).bind fun x7 =>
         some x7
        else
         some false)).bind fun (y5:Bool) =>
       some y5)).bind fun (y4:Bool) =>
     some y4
    else
     some false)).bind fun (y2:Bool) =>
   some (y2 && Z1G)))
def Z4v.s0 (f:Form) (i:Int) (s1:Int):Option ((Int) ⊕ (Jx (Unit) (Bool))) :=
 (bif (decide (s1 < (f.Odd.length:Int))) then
  (at? f.Odd s1).bind fun x1 =>
  (bif (x1.Index == i) then
   some (.inr (.ret true))
  else
   some (.inl (w64 (s1 + 1))))
 else
  some (.inr (.go ())))
def Z4v (f:Form) (i:Int):Option (Bool) :=
 (loopO (Z4v.s0 f i) 0).bind fun (y1:Jx (Unit) (Bool)) =>
 y1.elim (fun r' =>
   some r') fun a2 =>
 some false
def epactlaw05_FormTurns (f:Form) (i:Int):Option (Bool) :=
 (Z5M f).bind fun x1 =>
 (
  (bif ((!x1) || (f.Count == 0)) then
   some true
  else
   (Z4v f ((w64 i).tmod 1048576)).bind fun x2 =>
   some x2)).bind fun (y1:Bool) =>
 (
  (bif y1 then
   some true
  else
   (Z4v f (w64 (((w64 i).tmod 1048576) + f.Count))).bind fun x3 =>
   some x3)).bind fun (y2:Bool) =>
 (bif y2 then
  some Z1G
 else
  (Z0g f ((w64 i).tmod 1048576)).bind fun x4 =>
  (Z0g f (w64 (((w64 i).tmod 1048576) + f.Count))).bind fun x5 =>
  (bif ((x4.2 != 0) || (x5.2 != 0)) then
   some Z1G
  else
   (Z0d x4.1 f.Period).bind fun x6 =>
   (
    (bif (x6.2 == 0) then
     (Z1d x6.1 x5.1).bind fun x7 =>
     some x7
    else
     some false)).bind fun (y3:Bool) =>
   some (y3 && Z1G)))
def Z2p.s0 (f:Form) (i:Int) (x2:Int × Bool) (s1:Int):Option ((Int) ⊕ (Jx (Int) (Bool))) :=
 (bif ((x2.2 && (decide (s1 < x2.1))) && (decide (s1 < (w64 (((w64 i).fdiv (2 ^ 1)) + 40))))) then
  (Z0g f s1).bind fun x4 =>
  (bif ((x4.2 == 0) && (decide ((x4.1.length:Int) > 0))) then
   some (.inr (.ret false))
  else
   some (.inl (w64 (s1 + 1))))
 else
  some (.inr (.go ((w64 i).fdiv (2 ^ 1)))))
def Z2p.s1 (f:Form) (x3:Int × Bool) (a2:Int) (s2:Int):Option ((Int) ⊕ (Jx (Unit) (Bool))) :=
 (bif ((x3.2 && (decide (s2 > x3.1))) && (decide (s2 > (w64 (a2 - 40))))) then
  (Z0g f s2).bind fun x5 =>
  (bif ((x5.2 == 0) && (decide ((x5.1.length:Int) > 0))) then
   some (.inr (.ret false))
  else
   some (.inl (w64 (s2 - 1))))
 else
  some (.inr (.go ())))
def Z2p (f:Form) (i:Int):Option (Bool) :=
 (Z5M f).bind fun x1 =>
 (bif (!x1) then
  some Z1G
 else
  (Z1j f ((w64 i).fdiv (2 ^ 1))).bind fun x2 =>
  (Z23 f ((w64 i).fdiv (2 ^ 1))).bind fun x3 =>
  (bif ((x2.2 && (decide (x2.1≤((w64 i).fdiv (2 ^ 1))))) || (x3.2 && (decide (x3.1 ≥ ((w64 i).fdiv (2 ^ 1)))))) then
   some false
  else
   (loopO (Z2p.s0 f i x2) (w64 (((w64 i).fdiv (2 ^ 1)) + 1))).bind fun (y1:Jx (Int) (Bool)) =>
   y1.elim (fun r' =>
     some r') fun a2 =>
   (loopO (Z2p.s1 f x3 a2) (w64 (a2 - 1))).bind fun (y2:Jx (Unit) (Bool)) =>
   y2.elim (fun r' =>
     some r') fun a4 =>
   (
    (bif x2.2 then
     (Z23 f x2.1).bind fun x6 =>
     (bif ((x6.2 && (decide (x6.1 > a2))) || (x3.2 && ((!x6.2) || (decide (x6.1 < x3.1))))) then
      some (.ret false)
     else
      some (.go ()))
    else
     some (.go ()))).bind fun (y3:Jx (Unit) (Bool)) =>
   y3.elim (fun r' =>
     some r') fun a6 =>
   some Z1G))
def ZA.s0 (s1':(List Span)) (s2':(List Span)) (eq:Span→Span→Option Bool) (s1:Int):Option ((Int) ⊕ (Jx (Unit) (Bool))) :=
 (bif (decide (s1 < (s1'.length:Int))) then
  (at? s1' s1).bind fun x1 =>
  (at? s2' s1).bind fun x2 =>
  (eq x1 x2).bind fun x3 =>
  (bif (!x3) then
   some (.inr (.ret false))
  else
   some (.inl (w64 (s1 + 1))))
 else
  some (.inr (.go ())))
def ZA (s1':(List Span)) (s2':(List Span)) (eq:Span→Span→Option Bool):Option (Bool) :=
 (bif ((s1'.length:Int) != (s2'.length:Int)) then
  some false
 else
  (loopO (ZA.s0 s1' s2' eq) 0).bind fun (y1:Jx (Unit) (Bool)) =>
  y1.elim (fun r' =>
    some r') fun a2 =>
  some true)
def Z0e.s0 (s1':(List (List Span))) (s2':(List (List Span))) (eq:(List Span)→(List Span)→Option Bool) (s1:Int):Option ((Int) ⊕ (Jx (Unit) (Bool))) :=
 (bif (decide (s1 < (s1'.length:Int))) then
  (at? s1' s1).bind fun x1 =>
  (at? s2' s1).bind fun x2 =>
  (eq x1 x2).bind fun x3 =>
  (bif (!x3) then
   some (.inr (.ret false))
  else
   some (.inl (w64 (s1 + 1))))
 else
  some (.inr (.go ())))
def Z0e (s1':(List (List Span))) (s2':(List (List Span))) (eq:(List Span)→(List Span)→Option Bool):Option (Bool) :=
 (bif ((s1'.length:Int) != (s2'.length:Int)) then
  some false
 else
  (loopO (Z0e.s0 s1' s2' eq) 0).bind fun (y1:Jx (Unit) (Bool)) =>
  y1.elim (fun r' =>
    some r') fun a2 =>
  some true)
def Z0D.s0 (s1':(List Granule)) (s2':(List Granule)) (eq:Granule→Granule→Option Bool) (s1:Int):Option ((Int) ⊕ (Jx (Unit) (Bool))) :=
 (bif (decide (s1 < (s1'.length:Int))) then
  (at? s1' s1).bind fun x1 =>
  (at? s2' s1).bind fun x2 =>
  (eq x1 x2).bind fun x3 =>
  (bif (!x3) then
   some (.inr (.ret false))
  else
   some (.inl (w64 (s1 + 1))))
 else
  some (.inr (.go ())))
def Z0D (s1':(List Granule)) (s2':(List Granule)) (eq:Granule→Granule→Option Bool):Option (Bool) :=
 (bif ((s1'.length:Int) != (s2'.length:Int)) then
  some false
 else
  (loopO (Z0D.s0 s1' s2' eq) 0).bind fun (y1:Jx (Unit) (Bool)) =>
  y1.elim (fun r' =>
    some r') fun a2 =>
  some true)
def Z4l.s0 (a:(List Span)) (b:(List Span)) (s1:Int):Option ((Int) ⊕ (Jx (Unit) (Bool))) :=
 (bif (decide (s1 < (a.length:Int))) then
  (at? a s1).bind fun x1 =>
  (at? b s1).bind fun x2 =>
  (bif (!((x2.From == x1.From) && ((x2.To == x1.To) && true))) then
   some (.inr (.ret false))
  else
   some (.inl (w64 (s1 + 1))))
 else
  some (.inr (.go ())))
def Z4l (a:(List Span)) (b:(List Span)):Option (Bool) :=
 (bif ((a.length:Int) != (b.length:Int)) then
  some false
 else
  (loopO (Z4l.s0 a b) 0).bind fun (y1:Jx (Unit) (Bool)) =>
  y1.elim (fun r' =>
    some r') fun a2 =>
  some true)
def Z0R.s0 (a:Form) (b:Form) (s1:Int):Option ((Int) ⊕ (Jx (Unit) (Bool))) :=
 (bif (decide (s1 < (a.Core.length:Int))) then
  (at? a.Core s1).bind fun x1 =>
  (at? b.Core s1).bind fun x2 =>
  (Z4l x1 x2).bind fun x3 =>
  (bif (!x3) then
   some (.inr (.ret false))
  else
   some (.inl (w64 (s1 + 1))))
 else
  some (.inr (.go ())))
def Z0R.s1 (a:Form) (b:Form) (s2:Int):Option ((Int) ⊕ (Jx (Unit) (Bool))) :=
 (bif (decide (s2 < (a.Odd.length:Int))) then
  (at? a.Odd s2).bind fun x4 =>
  (at? b.Odd s2).bind fun x5 =>
  (
   (bif (x4.Index != x5.Index) then
    some true
   else
    (at? b.Odd s2).bind fun x6 =>
    (Z4l x4.Ticks x6.Ticks).bind fun x7 =>
    some (!x7))).bind fun (y3:Bool) =>
  (bif y3 then
   some (.inr (.ret false))
  else
   some (.inl (w64 (s2 + 1))))
 else
  some (.inr (.go ())))
def Z0R (a:Form) (b:Form):Option (Bool) :=
 (bif ((((a.Period != b.Period) || (a.Count != b.Count)) || ((a.Core.length:Int) != (b.Core.length:Int))) || ((a.Odd.length:Int) != (b.Odd.length:Int))) then
  some false
 else
  (loopO (Z0R.s0 a b) 0).bind fun (y1:Jx (Unit) (Bool)) =>
  y1.elim (fun r' =>
    some r') fun a2 =>
  (loopO (Z0R.s1 a b) 0).bind fun (y2:Jx (Unit) (Bool)) =>
  y2.elim (fun r' =>
    some r') fun a4 =>
  some true)
def Z3i (f:Form):Option (Bool) :=
 (Z0w f).bind fun x1 =>
 (
  (bif x1 then
   (Zm f).bind fun x2 =>
   some (x2 == 0)
  else
   some false)).bind fun (y1:Bool) =>
 some y1
def Z49.s0 (f:Form) (most:Int) (s1:Int):Option ((Int) ⊕ (Jx (Unit) (Bool))) :=
 (bif (decide (s1 < (f.Odd.length:Int))) then
  (at? f.Odd s1).bind fun x1 =>
  (bif ((decide (x1.Index < (w64 (0 - most)))) || (decide (x1.Index > most))) then
   some (.inr (.ret false))
  else
   some (.inl (w64 (s1 + 1))))
 else
  some (.inr (.go ())))
def Z49 (f:Form) (most:Int):Option (Bool) :=
 (loopO (Z49.s0 f most) 0).bind fun (y1:Jx (Unit) (Bool)) =>
 y1.elim (fun r' =>
   some r') fun a2 =>
 some true
def Z1e:Bool:=true
def Z6D (l:(List Span)):Bool :=
 (decide ((l.length:Int) > 0))
def Z4G (f:Form):Option (Bool) :=
 (Zg f.Core (fun z0 => some (Z6D z0))).bind fun x1 =>
 some (!x1)
def Z08.s0 (p1':Int) {S:Type} (yield:S→Int→Option (S × Bool)) (s1:Int × S):Option ((Int × S) ⊕ (Jx (S) (S))) :=
 (bif (decide (s1.1≤p1')) then
  (nz? s1.1).bind fun u1 =>
  (
   (bif ((p1'.tmod s1.1) == 0) then
    (yield s1.2 s1.1).bind fun x1 =>
    some ((!x1.2),x1.1)
   else
    some (false,s1.2))).bind fun (y2:Bool × S) =>
  (bif y2.1 then
   some (.inr (.ret y2.2))
  else
   some (.inl ((w64 (s1.1 + 1)),y2.2)))
 else
  some (.inr (.go s1.2)))
def Z08 {S:Type} (p1':Int) (yield:S→Int→Option (S × Bool)) (st':S):Option (S) :=
 (loopO (Z08.s0 p1' yield) (1,st')).bind fun (y1:Jx (S) (S)) =>
 y1.elim (fun r' =>
   some r') fun a2 =>
 some a2
def Z1v (x':Span) (y:Span) (p2':Int):Bool :=
 (((w64 (y.From - x'.From)) == p2') && ((w64 (y.To - x'.To)) == p2'))
def Z2j (a:(List Span)) (b:(List Span)) (by':Int):Option (Bool) :=
 (ZA a b (fun z0 z1 => some (Z1v z0 z1 by'))).bind fun x1 =>
 some x1
def Z1B.s0 (f:Form) (d:Int) (by':Int) (s1:Int):Option ((Int) ⊕ (Jx (Unit) (Bool))) :=
 (bif (decide (s1 < (f.Core.length:Int))) then
  (
   (
    (at? f.Core s1).bind fun x1 =>
    (
     (bif (decide ((w64 (s1 + d)) ≥ f.Count)) then
      some ((w64 ((w64 (s1 + d)) - f.Count)),f.Period)
     else
      some ((w64 (s1 + d)),0))).bind fun (y4:Int × Int) =>
    (at? f.Core y4.1).bind fun x2 =>
    (Z2j x1 x2 (w64 (by' - y4.2))).bind fun x3 =>
    (bif (!x3) then
     some (.ret false)
    else
     some (.go ()))).bind fun (y3:Jx (Unit) (Bool)) =>
   y3.elim (fun r' =>
     some (.ret r')) fun a4 =>
   some (.go ())).bind fun (y2:Jx (Unit) (Bool)) =>
  y2.elim (fun r' =>
    some (.inr (.ret r'))) fun a5 =>
  some (.inl (w64 (s1 + 1)))
 else
  some (.inr (.go ())))
def Z1B (f:Form) (d:Int) (by':Int):Option (Bool) :=
 (loopO (Z1B.s0 f d by') 0).bind fun (y1:Jx (Unit) (Bool)) =>
 y1.elim (fun r' =>
   some r') fun a6 =>
 some true
def Z03.s1 (x4:(List (List Span))) (s3:Int × (List (List Span))):Option ((Int × (List (List Span))) ⊕ ((List (List Span)))) :=
 (bif (decide (s3.1 < (x4.length:Int))) then
  (at? x4 s3.1).bind fun x5 =>
  (clone? 16 x5).bind fun x6 =>
  (app? 24 s3.2 [x6]).bind fun x7 =>
  some (.inl ((w64 (s3.1 + 1)),x7))
 else
  some (.inr s3.2))
def Z03.b0 (f:Form) (s2:(List (List Span)) × Int × Int) (z2:Int):Option (((List (List Span)) × Int × Int) × Nat) :=
 (nz? z2).bind fun u1 =>
 (Z19 f.Period (w64 (f.Count.tdiv z2))).bind fun x2 =>
 (
  (bif (x2.2.1 != 0) then
   some true
  else
   (Z1B f z2 x2.1).bind fun x3 =>
   some (!x3))).bind fun (y3:Bool) =>
 (bif y3 then
  some ((s2.1,s2.2.1,s2.2.2),0)
 else
  (cut? f.Core 0 z2).bind fun x4 =>
  (loopO (Z03.s1 x4) (0,s2.1)).bind fun (y4:(List (List Span))) =>
  some ((y4,x2.1,z2),1))
def Z03 (f:Form):Option (Form) :=
 (Z4G f).bind fun x1 =>
 (bif x1 then
  some (Form.mk 0 0 [] [])
 else
  (
   (Z08 f.Count (Z3K (Z03.b0 f)) (([],0,0),0)).bind fun (y2:((List (List Span)) × Int × Int) × Nat) =>
   (bif (y2.2 == 0) then
    some (y2.1.1,y2.1.2.1,y2.1.2.2)
   else
    some (y2.1.1,y2.1.2.1,y2.1.2.2))).bind fun (y1:(List (List Span)) × Int × Int) =>
  some (Form.mk y1.2.1 y1.2.2 y1.1 []))
def Z3a (f:Form) (g:Granule):Option (Bool) :=
 (Z0g f g.Index).bind fun x1 =>
 (
  (bif (x1.2 == 0) then
   (Z1d x1.1 g.Ticks).bind fun x2 =>
   some x2
  else
   some false)).bind fun (y1:Bool) =>
 some y1
def Z01.s0 (f:Form) (x1:Form) (s2:Int × (List Granule)):Option ((Int × (List Granule)) ⊕ ((List Granule))) :=
 (bif (decide (s2.1 < (f.Odd.length:Int))) then
  (
   (
    (at? f.Odd s2.1).bind fun x2 =>
    (Z3a x1 x2).bind fun x3 =>
    (bif (!x3) then
     (clone? 16 x2.Ticks).bind fun x4 =>
     (app? 32 s2.2 [(Granule.mk x2.Index x4)]).bind fun x5 =>
     some x5
    else
     some s2.2)).bind fun (y3:(List Granule)) =>
   some y3).bind fun (y2:(List Granule)) =>
  some (.inl ((w64 (s2.1 + 1)),y2))
 else
  some (.inr s2.2))
def Z01 (f:Form):Option (Form) :=
 (Z03 f).bind fun x1 =>
 (loopO (Z01.s0 f x1) (0,[])).bind fun (y1:(List Granule)) =>
 some (Form.mk x1.Period x1.Count x1.Core y1)
def canon_equal_1 (x':Granule) (y:Granule):Option (Bool) :=
 (
  (bif (x'.Index == y.Index) then
   (Z1d x'.Ticks y.Ticks).bind fun x1 =>
   some x1
  else
   some false)).bind fun (y1:Bool) =>
 some y1
def ZCo (a:Form) (b:Form):Option (Bool) :=
 (
  (bif ((a.Period == b.Period) && (a.Count == b.Count)) then
   (Z0e a.Core b.Core (fun z0 z1 => Z1d z0 z1)).bind fun x1 =>
   some x1
  else
   some false)).bind fun (y1:Bool) =>
 (
  (bif y1 then
   (Z0D a.Odd b.Odd (fun z0 z1 => canon_equal_1 z0 z1)).bind fun x2 =>
   some x2
  else
   some false)).bind fun (y2:Bool) =>
 some y2
def ZE7 (f:Form) (g:Form):Option (Bool) :=
 (Z01 f).bind fun x1 =>
 (Z01 g).bind fun x2 =>
 (ZCo x1 x2).bind fun x3 =>
 some x3
def Z5Y.s0 (f:Form) (g:Form) (s1:Int):Option ((Int) ⊕ (Jx (Bool) (Bool))) :=
 (bif (decide (s1≤2000)) then
  (Z0g f s1).bind fun x5 =>
  (Z0g g s1).bind fun x6 =>
  (bif ((x5.2 != 0) || (x6.2 != 0)) then
   some (.inr (.ret Z1e))
  else
   (Z1d x5.1 x6.1).bind fun x7 =>
   (bif (!x7) then
    some (.inr (.go false))
   else
    some (.inl (w64 (s1 + 1)))))
 else
  some (.inr (.go true)))
def Z5Y (f:Form) (g:Form):Option (Bool) :=
 (Z3i f).bind fun x1 =>
 (
  (bif (!x1) then
   some true
  else
   (Z3i g).bind fun x2 =>
   some (!x2))).bind fun (y1:Bool) =>
 (
  (bif y1 then
   some true
  else
   (Z49 f 200).bind fun x3 =>
   some (!x3))).bind fun (y2:Bool) =>
 (
  (bif y2 then
   some true
  else
   (Z49 g 200).bind fun x4 =>
   some (!x4))).bind fun (y3:Bool) =>
 (bif ((y3 || (decide (f.Period > 32768))) || (decide (g.Period > 32768))) then
  some Z1e
 else
  (loopO (Z5Y.s0 f g) (-2000)).bind fun (y4:Jx (Bool) (Bool)) =>
  y4.elim (fun r' =>
    some r') fun a2 =>
  (ZE7 f g).bind fun x8 =>
  (
   (bif (x8 == a2) then
    (Z01 f).bind fun x9 =>
    (Z01 g).bind fun x10 =>
    (Z0R x9 x10).bind fun x11 =>
    some (x11 == a2)
   else
    some false)).bind fun (y5:Bool) =>
  some (y5 && Z1e))
def canon_Is (f:Form):Option (Bool) :=
 (Z01 f).bind fun x1 =>
 (ZCo f x1).bind fun x2 =>
 some x2
def Z51.s0 (f:Form) (i:Int) (x2:Form) (s1:Int):Option ((Int) ⊕ (Jx (Unit) (Bool))) :=
 (bif (decide (s1 < ([i,0,1,(-1),(w64 ((i.tmod 50) - 25))].length:Int))) then
  (at? [i,0,1,(-1),(w64 ((i.tmod 50) - 25))] s1).bind fun x9 =>
  (Z0g f x9).bind fun x10 =>
  (Z0g x2 x9).bind fun x11 =>
  (
   (bif (x10.2 != x11.2) then
    some true
   else
    (Z1d x10.1 x11.1).bind fun x12 =>
    some (!x12))).bind fun (y5:Bool) =>
  (bif y5 then
   some (.inr (.ret false))
  else
   some (.inl (w64 (s1 + 1))))
 else
  some (.inr (.go ())))
def Z51 (f:Form) (i:Int):Option (Bool) :=
 (Z3i f).bind fun x1 =>
 (bif (!x1) then
  some Z1e
 else
  (Z01 f).bind fun x2 =>
  (Zm x2).bind fun x3 =>
  (
   (bif (x3 != 0) then
    some true
   else
    (canon_Is x2).bind fun x4 =>
    some (!x4))).bind fun (y1:Bool) =>
  (
   (bif y1 then
    some true
   else
    (Z01 x2).bind fun x5 =>
    (Z0R x5 x2).bind fun x6 =>
    some (!x6))).bind fun (y2:Bool) =>
  (
   (bif (((y2 || (decide (x2.Count > f.Count))) || (decide (x2.Period > f.Period))) || (decide ((x2.Odd.length:Int) > (f.Odd.length:Int)))) then
    some true
   else
    (Z0M x2).bind fun x7 =>
    (Z0M f).bind fun x8 =>
    some (decide (x7 > x8)))).bind fun (y3:Bool) =>
  (bif y3 then
   some false
  else
   (loopO (Z51.s0 f i x2) 0).bind fun (y4:Jx (Unit) (Bool)) =>
   y4.elim (fun r' =>
     some r') fun a2 =>
   (ZE7 f x2).bind fun x13 =>
   some (x13 && Z1e)))
def ZA4 (l:(List Span)):Option ((List Span)) :=
 (new? 16 (l.length:Int) (Span.mk 0 0)).bind fun x1 =>
 some (cpy x1 l)
def Z2T.s0 (f:Form) (s2:Int × (List (List Span))):Option ((Int × (List (List Span))) ⊕ ((List (List Span)))) :=
 (bif (decide (s2.1 < (f.Core.length:Int))) then
  (at? f.Core s2.1).bind fun x1 =>
  (ZA4 x1).bind fun x2 =>
  (app? 24 s2.2 [x2]).bind fun x3 =>
  some (.inl ((w64 (s2.1 + 1)),x3))
 else
  some (.inr s2.2))
def Z2T.s1 (f:Form) (s4:Int × (List Granule)):Option ((Int × (List Granule)) ⊕ ((List Granule))) :=
 (bif (decide (s4.1 < (f.Odd.length:Int))) then
  (at? f.Odd s4.1).bind fun x4 =>
  (ZA4 x4.Ticks).bind fun x5 =>
  (app? 32 s4.2 [(Granule.mk x4.Index x5)]).bind fun x6 =>
  some (.inl ((w64 (s4.1 + 1)),x6))
 else
  some (.inr s4.2))
def Z2T (f:Form):Option (Form) :=
 (loopO (Z2T.s0 f) (0,[])).bind fun (y1:(List (List Span))) =>
 (loopO (Z2T.s1 f) (0,[])).bind fun (y2:(List Granule)) =>
 some (Form.mk f.Period f.Count y1 y2)
def Z5s.s0 (f:Form) (s1:Int):Option ((Int) ⊕ (Jx (Unit) (Bool))) :=
 (bif (decide (s1 < (f.Core.length:Int))) then
  (at? f.Core s1).bind fun x1 =>
  (bif (decide ((x1.length:Int) > 0)) then
   some (.inr (.ret false))
  else
   some (.inl (w64 (s1 + 1))))
 else
  some (.inr (.go ())))
def Z5s (f:Form):Option (Bool) :=
 (loopO (Z5s.s0 f) 0).bind fun (y1:Jx (Unit) (Bool)) =>
 y1.elim (fun r' =>
   some r') fun a2 =>
 some true
def Z8g (a:Int) (b:Int):Option (Int × Int) :=
 (nz? b).bind fun u1 =>
 (nz? b).bind fun u2 =>
 (
  (bif (decide ((a.tmod b) < 0)) then
   some ((w64 ((w64 (a.tdiv b)) - 1)),(w64 ((a.tmod b) + b)))
  else
   some ((w64 (a.tdiv b)),(a.tmod b)))).bind fun (y1:Int × Int) =>
 some (y1.1,y1.2)
def Z6u (f:Form) (i:Int):Option ((List Span) × Int) :=
 (Z8g i f.Count).bind fun x1 =>
 (at? f.Core x1.2).bind fun x2 =>
 some (x2,(w64 (x1.1 * f.Period)))
def Z46.s0 (a:(List Span)) (x':Int) (b:(List Span)) (y:Int) (s1:Int):Option ((Int) ⊕ (Jx (Unit) (Bool))) :=
 (bif (decide (s1 < (a.length:Int))) then
  (at? a s1).bind fun x1 =>
  (at? b s1).bind fun x2 =>
  (
   (bif ((w64 (x1.From + x')) != (w64 (x2.From + y))) then
    some true
   else
    (at? a s1).bind fun x3 =>
    (at? b s1).bind fun x4 =>
    some ((w64 (x3.To + x')) != (w64 (x4.To + y))))).bind fun (y2:Bool) =>
  (bif y2 then
   some (.inr (.ret false))
  else
   some (.inl (w64 (s1 + 1))))
 else
  some (.inr (.go ())))
def Z46 (a:(List Span)) (x':Int) (b:(List Span)) (y:Int):Option (Bool) :=
 (bif ((a.length:Int) != (b.length:Int)) then
  some false
 else
  (loopO (Z46.s0 a x' b y) 0).bind fun (y1:Jx (Unit) (Bool)) =>
  y1.elim (fun r' =>
    some r') fun a2 =>
  some true)
def Z57.s0 (f:Form) (d:Int) (s1:Int):Option ((Int) ⊕ (Jx (Unit) (Bool))) :=
 (bif (decide (s1 < f.Count)) then
  (Z6u f s1).bind fun x1 =>
  (Z6u f (w64 (s1 + d))).bind fun x2 =>
  (nz? f.Count).bind fun u3 =>
  (Z46 x1.1 (w64 (x1.2 + (w64 ((w64 (f.Period * d)).tdiv f.Count)))) x2.1 x2.2).bind fun x3 =>
  (bif (!x3) then
   some (.inr (.ret false))
  else
   some (.inl (w64 (s1 + 1))))
 else
  some (.inr (.go ())))
def Z57 (f:Form) (d:Int):Option (Bool) :=
 (nz? d).bind fun u1 =>
 (
  (bif ((f.Count.tmod d) != 0) then
   some true
  else
   (nz? f.Count).bind fun u2 =>
   some (((w64 (f.Period * d)).tmod f.Count) != 0))).bind fun (y1:Bool) =>
 (bif y1 then
  some false
 else
  (loopO (Z57.s0 f d) 0).bind fun (y2:Jx (Unit) (Bool)) =>
  y2.elim (fun r' =>
    some r') fun a2 =>
  some true)
def Z1w.s0 (f:Form) (s1:Int):Option ((Int) ⊕ (Int)) :=
 (Z57 f s1).bind fun x2 =>
 (bif (!x2) then
  some (.inl (w64 (s1 + 1)))
 else
  some (.inr s1))
def Z1w.s1 (f:Form) (y2:Int) (s2:Int × (List (List Span))):Option ((Int × (List (List Span))) ⊕ ((List (List Span)) × Int)) :=
 (bif (decide (s2.1 < y2)) then
  (at? f.Core s2.1).bind fun x3 =>
  (app? 16 [] x3).bind fun x4 =>
  (app? 24 s2.2 [x4]).bind fun x5 =>
  some (.inl ((w64 (s2.1 + 1)),x5))
 else
  some (.inr (s2.2,(w64 ((w64 (f.Period * y2)).tdiv f.Count)))))
def Z1w.s2 (f:Form) (y1:(List (List Span)) × Int × Int) (s3:Int × (List Granule)):Option ((Int × (List Granule)) ⊕ ((List Granule))) :=
 (bif (decide (s3.1 < (f.Odd.length:Int))) then
  (
   (
    (
     (bif (decide (y1.2.2 > 0)) then
      (at? f.Odd s3.1).bind fun x6 =>
      (Z6u (Form.mk y1.2.1 y1.2.2 y1.1 []) x6.Index).bind fun x7 =>
      some (x7.1,x7.2)
     else
      some ([],0))).bind fun (y7:(List Span) × Int) =>
    (at? f.Odd s3.1).bind fun x8 =>
    (Z46 y7.1 y7.2 x8.Ticks 0).bind fun x9 =>
    (bif (!x9) then
     (at? f.Odd s3.1).bind fun x10 =>
     (at? f.Odd s3.1).bind fun x11 =>
     (app? 16 [] x11.Ticks).bind fun x12 =>
     (app? 32 s3.2 [(Granule.mk x10.Index x12)]).bind fun x13 =>
     some x13
    else
     some s3.2)).bind fun (y6:(List Granule)) =>
   some y6).bind fun (y5:(List Granule)) =>
  some (.inl ((w64 (s3.1 + 1)),y5))
 else
  some (.inr s3.2))
def Z1w (f:Form):Option (Form) :=
 (
  (Z5s f).bind fun x1 =>
  (bif (!x1) then
   (loopO (Z1w.s0 f) 1).bind fun (y2:Int) =>
   (nz? f.Count).bind fun u1 =>
   (loopO (Z1w.s1 f y2) (0,[])).bind fun (y3:(List (List Span)) × Int) =>
   some (y3.1,y3.2,y2)
  else
   some ([],0,0))).bind fun (y1:(List (List Span)) × Int × Int) =>
 (loopO (Z1w.s2 f y1) (0,[])).bind fun (y4:(List Granule)) =>
 some (Form.mk y1.2.1 y1.2.2 y1.1 y4)
def epactlaw06_CanonTells (f:Form):Option (Bool) :=
 (Z3i f).bind fun x1 =>
 (bif (!x1) then
  some Z1e
 else
  (Z2T f).bind fun x2 =>
  (Z01 x2).bind fun x3 =>
  (Z1w f).bind fun x4 =>
  (Z0R x3 x4).bind fun x5 =>
  (
   (bif x5 then
    (canon_Is x2).bind fun x6 =>
    (Z0R f x4).bind fun x7 =>
    some (x6 == x7)
   else
    some false)).bind fun (y1:Bool) =>
  (
   (bif y1 then
    (Z0R x2 f).bind fun x8 =>
    some x8
   else
    some false)).bind fun (y2:Bool) =>
  some (y2 && Z1e))
def Z5H (f:Form):Option (Bool) :=
 (Z0w f).bind fun x1 =>
 (
  (bif x1 then
   (Zm f).bind fun x2 =>
   some (x2 == 0)
  else
   some false)).bind fun (y1:Bool) =>
 some y1
def Z0h:Bool:=true
def ZF (a:Bound):Bool :=
 ((a.Inf == 0) || (((a.Inf == 1) || (a.Inf == (-1))) && (a.N == 0)))
def Z3o (k:Int):Bool :=
 ((decide (k ≥ (-1099511627776))) && (decide (k≤1099511627776)))
def Z1P (l:(List Span)):Option (Span × Bool) :=
 (bif ((l.length:Int) == 0) then
  some ((Span.mk 0 0),false)
 else
  (at? l 0).bind fun x1 =>
  (at? l (w64 ((l.length:Int) - 1))).bind fun x2 =>
  some ((Span.mk x1.From x2.To),true))
def Z29.s0 (x1:Form) (s2:Int × (List size_spot)):Option ((Int × (List size_spot)) ⊕ ((List size_spot))) :=
 (bif (decide (s2.1 < (x1.Core.length:Int))) then
  (
   (
    (at? x1.Core s2.1).bind fun x2 =>
    (Z1P x2).bind fun x3 =>
    (bif x3.2 then
     (app? 24 s2.2 [(size_spot.mk s2.1 (size_place.mk x3.1.From x3.1.To))]).bind fun x4 =>
     some x4
    else
     some s2.2)).bind fun (y3:(List size_spot)) =>
   some y3).bind fun (y2:(List size_spot)) =>
  some (.inl ((w64 (s2.1 + 1)),y2))
 else
  some (.inr s2.2))
def Z29 (f:Form):Option (size_form) :=
 (Z01 f).bind fun x1 =>
 (loopO (Z29.s0 x1) (0,[])).bind fun (y1:(List size_spot)) =>
 some (size_form.mk x1 y1)
def Z0j.s0 (f:Int→Option Bool) (s1:Int × Int):Option ((Int × Int) ⊕ (Int)) :=
 (bif (decide (s1.1 < s1.2)) then
  (
   (f (w64 ((IntKind.u64.wrap (w64 (s1.1 + s1.2))).fdiv (2 ^ 1)))).bind fun x1 =>
   (bif (!x1) then
    some ((w64 ((w64 ((IntKind.u64.wrap (w64 (s1.1 + s1.2))).fdiv (2 ^ 1))) + 1)),s1.2)
   else
    some (s1.1,(w64 ((IntKind.u64.wrap (w64 (s1.1 + s1.2))).fdiv (2 ^ 1)))))).bind fun (y2:Int × Int) =>
  some (.inl (y2.1,y2.2))
 else
  some (.inr s1.1))
def Z0j (n:Int) (f:Int→Option Bool):Option (Int) :=
 (loopO (Z0j.s0 f) (0,n)).bind fun (y1:Int) =>
 some y1
def Z28 (n:Int) (p1':size_form) (p2':Int) (p3':Int):Option (Bool) :=
 (at? p1'.spots n).bind fun x1 =>
 some (decide ((w64 (x1.place.last - (w64 (p2' * p1'.Form.Period)))) ≥ p3'))
def Z2B (n:Int) (p1':size_form) (p2':Int) (p3':Int):Option (Bool) :=
 (at? p1'.spots n).bind fun x1 =>
 some (decide ((w64 (x1.place.first + (w64 (p2' * p1'.Form.Period)))) > p3'))
def Z0X (f:size_form) (t:Int) (up:Bool):Option (Int) :=
 (bif up then
  (at? f.spots (w64 ((f.spots.length:Int) - 1))).bind fun x1 =>
  (Z19 (w64 (x1.place.last - t)) f.Form.Period).bind fun x2 =>
  (Z0j (f.spots.length:Int) (fun z0 => Z28 z0 f x2.1 t)).bind fun x3 =>
  (at? f.spots x3).bind fun x4 =>
  some (w64 (x4.index - (w64 (x2.1 * f.Form.Count))))
 else
  (at? f.spots 0).bind fun x5 =>
  (Z19 (w64 (t - x5.place.first)) f.Form.Period).bind fun x6 =>
  (Z0j (f.spots.length:Int) (fun z0 => Z2B z0 f x6.1 t)).bind fun x7 =>
  (at? f.spots (w64 (x7 - 1))).bind fun x8 =>
  some (w64 (x8.index + (w64 (x6.1 * f.Form.Count)))))
def Z37 (g:Granule) (i:Int):Int :=
 (Z2O g.Index i)
def Z2o (f:size_form) (i:Int):Option (Int) :=
 (Z1 f.Form.Odd i (fun z0 z1 => some (Z37 z0 z1))).bind fun x1 =>
 (bif (!x1.2) then
  some (-1)
 else
  some x1.1)
def Z3D (f:size_form) (i:Int):Option (Bool) :=
 (Z19 i f.Form.Count).bind fun x1 =>
 (at? f.Form.Core x1.2.1).bind fun x2 =>
 some (decide ((x2.length:Int) > 0))
def Z3.s0 (f:size_form) (y1:Int) (s1:Int):Option ((Int) ⊕ (Int)) :=
 (Z2o f s1).bind fun x2 =>
 (
  (bif (decide (x2 ≥ 0)) then
   some true
  else
   (Z3D f s1).bind fun x3 =>
   some (!x3))).bind fun (y4:Bool) =>
 (bif y4 then
  some (.inl (w64 (s1 + y1)))
 else
  some (.inr s1))
def Z3.s1 (s2:Int × Int × (List Int) × Int × Bool):Option ((Int × Int × (List Int) × Int × Bool) ⊕ ((List Int) × Int × Bool)) :=
 (bif (decide (s2.2.1 < s2.1)) then
  (
   (
    (at? s2.2.2.1 s2.2.1).bind fun x4 =>
    (bif ((!s2.2.2.2.2) || (decide (x4 > s2.2.2.2.1))) then
     some (x4,true)
    else
     some (s2.2.2.2.1,s2.2.2.2.2))).bind fun (y8:Int × Bool) =>
   some (y8.1,y8.2)).bind fun (y7:Int × Bool) =>
  some (.inl (s2.1,(w64 (s2.2.1 + 1)),s2.2.2.1,y7.1,y7.2))
 else
  some (.inr (s2.2.2.1,s2.2.2.2.1,s2.2.2.2.2)))
def Z3.s3 (s4:Int × Int × (List Int) × Int × Bool):Option ((Int × Int × (List Int) × Int × Bool) ⊕ ((List Int) × Int × Bool)) :=
 (bif (decide (s4.2.1 < s4.1)) then
  (
   (
    (at? s4.2.2.1 s4.2.1).bind fun x7 =>
    (bif ((!s4.2.2.2.2) || (decide (x7 > s4.2.2.2.1))) then
     some (x7,true)
    else
     some (s4.2.2.2.1,s4.2.2.2.2))).bind fun (y15:Int × Bool) =>
   some (y15.1,y15.2)).bind fun (y14:Int × Bool) =>
  some (.inl (s4.1,(w64 (s4.2.1 + 1)),s4.2.2.1,y14.1,y14.2))
 else
  some (.inr (s4.2.2.1,s4.2.2.2.1,s4.2.2.2.2)))
def Z3.s2 (f:size_form) (t:Int) (up:Bool) (y1:Int) (s3:Int × Int × Bool):Option ((Int × Int × Bool) ⊕ (Int × Bool)) :=
 (bif (decide (s3.1 < (f.Form.Odd.length:Int))) then
  (
   (
    (at? f.Form.Odd s3.1).bind fun x5 =>
    (Z1P x5.Ticks).bind fun x6 =>
    (bif (x6.2 && ((up && (decide (x6.1.To ≥ t))) || ((!up) && (decide (x6.1.From≤t))))) then
     (
      (loopO (Z3.s3) (([(w64 ((w64 (0 - y1)) * x5.Index))].length:Int),0,[(w64 ((w64 (0 - y1)) * x5.Index))],s3.2.1,s3.2.2)).bind fun (y13:(List Int) × Int × Bool) =>
      some (y13.1,y13.2.1,y13.2.2)).bind fun (y12:(List Int) × Int × Bool) =>
     some (y12.2.1,y12.2.2)
    else
     some (s3.2.1,s3.2.2))).bind fun (y11:Int × Bool) =>
   some (y11.1,y11.2)).bind fun (y10:Int × Bool) =>
  some (.inl ((w64 (s3.1 + 1)),y10.1,y10.2))
 else
  some (.inr (s3.2.1,s3.2.2)))
def Z3 (f:size_form) (t:Int) (up:Bool):Option (Int × Bool) :=
 (
  (bif up then
   some 1
  else
   some (-1))).bind fun (y1:Int) =>
 (
  (bif (decide (f.Form.Count > 0)) then
   (Z0X f t up).bind fun x1 =>
   (loopO (Z3.s0 f y1) x1).bind fun (y3:Int) =>
   (
    (loopO (Z3.s1) (([(w64 ((w64 (0 - y1)) * y3))].length:Int),0,[(w64 ((w64 (0 - y1)) * y3))],0,false)).bind fun (y6:(List Int) × Int × Bool) =>
    some (y6.1,y6.2.1,y6.2.2)).bind fun (y5:(List Int) × Int × Bool) =>
   some (y5.2.1,y5.2.2)
  else
   some (0,false))).bind fun (y2:Int × Bool) =>
 (loopO (Z3.s2 f t up y1) (0,y2.1,y2.2)).bind fun (y9:Int × Bool) =>
 some ((w64 ((w64 (0 - y1)) * y9.1)),y9.2)
def ZX.s1 (s2:Int × Int × (List Int) × Int × Bool):Option ((Int × Int × (List Int) × Int × Bool) ⊕ ((List Int) × Int × Bool)) :=
 (bif (decide (s2.2.1 < s2.1)) then
  (
   (
    (at? s2.2.2.1 s2.2.1).bind fun x4 =>
    (bif ((!s2.2.2.2.2) || (decide (x4 > s2.2.2.2.1))) then
     some (x4,true)
    else
     some (s2.2.2.2.1,s2.2.2.2.2))).bind fun (y9:Int × Bool) =>
   some (y9.1,y9.2)).bind fun (y8:Int × Bool) =>
  some (.inl (s2.1,(w64 (s2.2.1 + 1)),s2.2.2.1,y8.1,y8.2))
 else
  some (.inr (s2.2.2.1,s2.2.2.2.1,s2.2.2.2.2)))
def ZX.s0 (d:Int) (up:Bool) (x1:size_form) (y1:Int) (s1:Int × Int × Bool):Option ((Int × Int × Bool) ⊕ (Int × Bool)) :=
 (bif (decide (s1.1 < (x1.spots.length:Int))) then
  (
   (
    (at? x1.spots s1.1).bind fun x2 =>
    (
     (bif up then
      some x2.place.first
     else
      some x2.place.last)).bind fun (y5:Int) =>
    (Z0X x1 (w64 (y5 + d)) up).bind fun x3 =>
    (
     (loopO (ZX.s1) (([(w64 (y1 * (w64 (x3 - x2.index))))].length:Int),0,[(w64 (y1 * (w64 (x3 - x2.index))))],s1.2.1,s1.2.2)).bind fun (y7:(List Int) × Int × Bool) =>
     some (y7.1,y7.2.1,y7.2.2)).bind fun (y6:(List Int) × Int × Bool) =>
    some (y6.2.1,y6.2.2)).bind fun (y4:Int × Bool) =>
   some (y4.1,y4.2)).bind fun (y3:Int × Bool) =>
  some (.inl ((w64 (s1.1 + 1)),y3.1,y3.2))
 else
  some (.inr (s1.2.1,s1.2.2)))
def ZX.s3 (s4:Int × Int × (List Int) × Int × Bool):Option ((Int × Int × (List Int) × Int × Bool) ⊕ ((List Int) × Int × Bool)) :=
 (bif (decide (s4.2.1 < s4.1)) then
  (
   (
    (at? s4.2.2.1 s4.2.1).bind fun x8 =>
    (bif ((!s4.2.2.2.2) || (decide (x8 > s4.2.2.2.1))) then
     some (x8,true)
    else
     some (s4.2.2.2.1,s4.2.2.2.2))).bind fun (y18:Int × Bool) =>
   some (y18.1,y18.2)).bind fun (y17:Int × Bool) =>
  some (.inl (s4.1,(w64 (s4.2.1 + 1)),s4.2.2.1,y17.1,y17.2))
 else
  some (.inr (s4.2.2.1,s4.2.2.2.1,s4.2.2.2.2)))
def ZX.s4 (s5:Int × Int × (List Int) × Int × Bool):Option ((Int × Int × (List Int) × Int × Bool) ⊕ ((List Int) × Int × Bool)) :=
 (bif (decide (s5.2.1 < s5.1)) then
  (
   (
    (at? s5.2.2.1 s5.2.1).bind fun x10 =>
    (bif ((!s5.2.2.2.2) || (decide (x10 > s5.2.2.2.1))) then
     some (x10,true)
    else
     some (s5.2.2.2.1,s5.2.2.2.2))).bind fun (y22:Int × Bool) =>
   some (y22.1,y22.2)).bind fun (y21:Int × Bool) =>
  some (.inl (s5.1,(w64 (s5.2.1 + 1)),s5.2.2.1,y21.1,y21.2))
 else
  some (.inr (s5.2.2.1,s5.2.2.2.1,s5.2.2.2.2)))
def ZX.s2 (d:Int) (up:Bool) (x1:size_form) (y1:Int) (s3:Int × Int × Bool):Option ((Int × Int × Bool) ⊕ (Int × Bool)) :=
 (bif (decide (s3.1 < (x1.Form.Odd.length:Int))) then
  (
   (
    (at? x1.Form.Odd s3.1).bind fun x5 =>
    (Z1P x5.Ticks).bind fun x6 =>
    (bif (!x6.2) then
     some (.ret ())
    else
     (
      (bif up then
       some (x6.1.To,x6.1.From)
      else
       some (x6.1.From,x6.1.To))).bind fun (y13:Int × Int) =>
     (
      (Z3 x1 (w64 (y13.2 + d)) up).bind fun x7 =>
      (bif x7.2 then
       (
        (loopO (ZX.s3) (([(w64 (y1 * (w64 (x7.1 - x5.Index))))].length:Int),0,[(w64 (y1 * (w64 (x7.1 - x5.Index))))],s3.2.1,s3.2.2)).bind fun (y16:(List Int) × Int × Bool) =>
        some (y16.1,y16.2.1,y16.2.2)).bind fun (y15:(List Int) × Int × Bool) =>
       some (y15.2.1,y15.2.2)
      else
       some (s3.2.1,s3.2.2))).bind fun (y14:Int × Bool) =>
     (Z3 x1 (w64 (y13.1 - d)) (!up)).bind fun x9 =>
     (bif x9.2 then
      (
       (loopO (ZX.s4) (([(w64 (y1 * (w64 (x5.Index - x9.1))))].length:Int),0,[(w64 (y1 * (w64 (x5.Index - x9.1))))],y14.1,y14.2)).bind fun (y20:(List Int) × Int × Bool) =>
       some (y20.1,y20.2.1,y20.2.2)).bind fun (y19:(List Int) × Int × Bool) =>
      some (.go (y19.2.1,y19.2.2))
     else
      some (.go (y14.1,y14.2))))).bind fun (y12:Jx (Int × Bool) (Unit)) =>
   y12.elim (fun a4 =>
     some (s3.2.1,s3.2.2)) fun a3 =>
   some (a3.1,a3.2)).bind fun (y11:Int × Bool) =>
  some (.inl ((w64 (s3.1 + 1)),y11.1,y11.2))
 else
  some (.inr (s3.2.1,s3.2.2)))
def ZX (g:Form) (d:Int) (up:Bool):Option (Int × Bool × Int) :=
 (bif (!(Z3o d)) then
  some (0,false,2)
 else
  (Z29 g).bind fun x1 =>
  (
   (bif up then
    some (-1)
   else
    some 1)).bind fun (y1:Int) =>
  (loopO (ZX.s0 d up x1 y1) (0,0,false)).bind fun (y2:Int × Bool) =>
  (loopO (ZX.s2 d up x1 y1) (0,y2.1,y2.2)).bind fun (y10:Int × Bool) =>
  some ((w64 (y1 * y10.1)),y10.2,0))
def Z4S (f:Form) (d:Int):Option (Int × Bool × Int) :=
 (ZX f d false).bind fun x1 =>
 some (x1.1,x1.2.1,x1.2.2)
def Z8X (f:Form) (d:Int):Option (Int × Bool × Int) :=
 (ZX f d true).bind fun x1 =>
 some (x1.1,x1.2.1,x1.2.2)
def Z0l (f:Form) (low:Bound) (high:Bound):Option (Range × Bool × Int) :=
 (bif ((((!(ZF low)) || (!(ZF high))) || (low.Inf == 1)) || (high.Inf == (-1))) then
  some ((Range.mk 0 0 false false),false,2)
 else
  (
   (bif ((high.Inf == 0) && (decide (high.N≤1099511627776))) then
    (Z4S f (iMax high.N (-1099511627776))).bind fun x1 =>
    (bif (!x1.2.1) then
     some (.ret ((Range.mk 0 0 false false),false,0))
    else
     some (.go (x1.1,true)))
   else
    some (.go (0,false)))).bind fun (y1:Jx (Int × Bool) (Range × Bool × Int)) =>
  y1.elim (fun r' =>
    some r') fun a2 =>
  (
   (bif ((low.Inf == 0) && (decide (low.N ≥ (-1099511627776)))) then
    (Z8X f (iMin low.N 1099511627776)).bind fun x2 =>
    (bif (!x2.2.1) then
     some (.ret ((Range.mk 0 0 false false),false,0))
    else
     some (.go (x2.1,true)))
   else
    some (.go (0,false)))).bind fun (y2:Jx (Int × Bool) (Range × Bool × Int)) =>
  y2.elim (fun r' =>
    some r') fun a4 =>
  some ((Range.mk a4.1 a2.1 a4.2 a2.2),true,0))
def epactlaw25_CarryArgs (f:Form) (low:Bound) (high:Bound):Option (Bool) :=
 (Z5H f).bind fun x1 =>
 (bif (!x1) then
  some Z0h
 else
  (Z0l f low high).bind fun x2 =>
  (bif ((((!(ZF low)) || (!(ZF high))) || (low.Inf == 1)) || (high.Inf == (-1))) then
   some ((((x2.2.2 == 2) && (!x2.2.1)) && ((x2.1.Low == 0) && ((x2.1.High == 0) && ((x2.1.HasLow == false) && ((x2.1.HasHigh == false) && true))))) && Z0h)
  else
   (bif (((x2.2.2 != 0) || ((low.Inf == (-1)) && x2.1.HasLow)) || ((high.Inf == 1) && x2.1.HasHigh)) then
    some false
   else
    (Z0l f (Bound.mk (-1) 0) (Bound.mk 1 0)).bind fun x3 =>
    some ((((x3.2.2 == 0) && x3.2.1) && ((x3.1.Low == 0) && ((x3.1.High == 0) && ((x3.1.HasLow == false) && ((x3.1.HasHigh == false) && true))))) && Z0h))))
def Z10 (a:carry_asked) (gap:Int):Option (Bool) :=
 (Z4S a.f (w64 (gap - 1099511627776))).bind fun x1 =>
 some ((x1.2.1 && (x1.2.2 == 0)) && (decide (x1.1 ≥ a.m)))
def Z2q (f:Form) (m:Int):Option (Bound) :=
 (Z0j 2199023255553 (fun z0 => Z10 (carry_asked.mk f (iMin (iMax m (-4611686018427387904)) 4611686018427387904)) z0)).bind fun x1 =>
 (bif ((w64 ((iMin x1 2199023255552) - 1099511627776)) == (-1099511627776)) then
  some (Bound.mk (-1) 0)
 else
  some (Bound.mk 0 (w64 ((iMin x1 2199023255552) - 1099511627776))))
def Z0U (a:Int) (b:Int):Int × Int :=
 (bif (((decide ((w64 (a - b)) < a)) != (decide (b > 0))) && (b != 0)) then
  (0,10)
 else
  ((w64 (a - b)),0))
def Z8 (a:Bound):Bound × Int :=
 (bif (!(ZF a)) then
  ((Bound.mk 0 0),2)
 else
  (bif (((Z0U 0 a.N).2) != 0) then
   ((Bound.mk 0 0),(Z0U 0 a.N).2)
  else
   ((Bound.mk (IntKind.i8.wrap (0 - a.Inf)) ((Z0U 0 a.N).1)),0)))
def Z2m (f:Form) (n:Int):Option (Bound) :=
 (Z2q f (w64 (0 - (iMax n (-4611686018427387904))))).bind fun x1 =>
 some ((Z8 x1).1)
def Z0O (a:Bound) (b:Bound):Bool :=
 (bif ((!(ZF a)) || (!(ZF b))) then
  false
 else
  (bif (a.Inf != b.Inf) then
   (decide (a.Inf < b.Inf))
  else
   (decide (a.N < b.N))))
def Z54.s0 (x2:Bound) (x3:Bound) (x4:Bound) (x5:Bound) (s1:Int):Option ((Int) ⊕ (Jx (Unit) (Bool))) :=
 (bif (decide (s1 < ([x2,x3,x4,x5].length:Int))) then
  (at? [x2,x3,x4,x5] s1).bind fun x6 =>
  (bif (((!(ZF x6)) || (decide (x6.N > 1099511627776))) || (decide (x6.N < (-1099511627776)))) then
   some (.inr (.ret false))
  else
   some (.inl (w64 (s1 + 1))))
 else
  some (.inr (.go ())))
def Z54 (f:Form) (m:Int) (n:Int) (low:Int) (high:Int) (wide:Int):Option (Bool) :=
 (Z5H f).bind fun x1 =>
 (bif (!x1) then
  some Z0h
 else
  (Z2q f (iMin m n)).bind fun x2 =>
  (Z2q f (iMax m n)).bind fun x3 =>
  (Z2m f (iMin m n)).bind fun x4 =>
  (Z2m f (iMax m n)).bind fun x5 =>
  (loopO (Z54.s0 x2 x3 x4 x5) 0).bind fun (y1:Jx (Unit) (Bool)) =>
  y1.elim (fun r' =>
    some r') fun a2 =>
  (bif ((((Z0O x3 x2) || (Z0O x5 x4)) || (x2.Inf == 1)) || (x4.Inf == (-1))) then
   some false
  else
   (Z0l f (Bound.mk 0 (low.tmod 4398046511104)) (Bound.mk 0 (high.tmod 4398046511104))).bind fun x7 =>
   (Z0l f (Bound.mk 0 (w64 ((low.tmod 4398046511104) - (iAnd .i64 wide 65535)))) (Bound.mk 0 (w64 ((high.tmod 4398046511104) + (iAnd .i64 wide 65535))))).bind fun x8 =>
   (bif (((((x7.2.2 != 0) || (x8.2.2 != 0)) || ((!x7.1.HasLow) && (x7.1.Low != 0))) || ((!x7.1.HasHigh) && (x7.1.High != 0))) || ((!x7.2.1) && (!((x7.1.Low == 0) && ((x7.1.High == 0) && ((x7.1.HasLow == false) && ((x7.1.HasHigh == false) && true))))))) then
    some false
   else
    (bif (((x7.2.1 && (!x8.2.1)) && (decide ((high.tmod 4398046511104) ≥ (-1099511627776)))) && (decide ((low.tmod 4398046511104)≤1099511627776))) then
     some false
    else
     (bif ((x7.2.1 && x8.2.1) && ((x8.1.HasLow && ((!x7.1.HasLow) || (decide (x8.1.Low > x7.1.Low)))) || (x8.1.HasHigh && ((!x7.1.HasHigh) || (decide (x8.1.High < x7.1.High)))))) then
      some false
     else
      some Z0h)))))
def ZZ.s0 (f:Form) (s1:Int):Option ((Int) ⊕ (Jx (Unit) (Bool))) :=
 (bif (decide (s1 < (f.Core.length:Int))) then
  (at? f.Core s1).bind fun x3 =>
  (Z1P x3).bind fun x4 =>
  (bif (x4.2 && ((decide (x4.1.From < (-100))) || (decide (x4.1.To > 100)))) then
   some (.inr (.ret false))
  else
   some (.inl (w64 (s1 + 1))))
 else
  some (.inr (.go ())))
def ZZ.s1 (f:Form) (s2:Int):Option ((Int) ⊕ (Jx (Unit) (Bool))) :=
 (bif (decide (s2 < (f.Odd.length:Int))) then
  (at? f.Odd s2).bind fun x5 =>
  (bif ((decide (x5.Index < (-100))) || (decide (x5.Index > 100))) then
   some (.inr (.ret false))
  else
   some (.inl (w64 (s2 + 1))))
 else
  some (.inr (.go ())))
def ZZ (f:Form):Option (Bool) :=
 (Z0w f).bind fun x1 =>
 (
  (bif (!x1) then
   some true
  else
   (Zm f).bind fun x2 =>
   some (x2 != 0))).bind fun (y1:Bool) =>
 (bif (y1 || (decide (f.Period > 200))) then
  some false
 else
  (loopO (ZZ.s0 f) 0).bind fun (y2:Jx (Unit) (Bool)) =>
  y2.elim (fun r' =>
    some r') fun a2 =>
  (loopO (ZZ.s1 f) 0).bind fun (y3:Jx (Unit) (Bool)) =>
  y3.elim (fun r' =>
    some r') fun a4 =>
  some true)
def Z6Q.s0 (f:Form) (i:Int) (s1:Int):Option ((Int) ⊕ (Jx (Unit) ((List Span) × Int))) :=
 (bif (decide (s1 < (f.Odd.length:Int))) then
  (at? f.Odd s1).bind fun x1 =>
  (bif (x1.Index == i) then
   (at? f.Odd s1).bind fun x2 =>
   some (.inr (.ret (x2.Ticks,0)))
  else
   some (.inl (w64 (s1 + 1))))
 else
  some (.inr (.go ())))
def Z6Q (f:Form) (i:Int):Option ((List Span) × Int) :=
 (loopO (Z6Q.s0 f i) 0).bind fun (y1:Jx (Unit) ((List Span) × Int)) =>
 y1.elim (fun r' =>
   some r') fun a2 =>
 (bif (f.Count == 0) then
  some ([],0)
 else
  (Z8g i f.Count).bind fun x3 =>
  (at? f.Core x3.2).bind fun x4 =>
  some (x4,x3.1))
def Z5q.s0 (l:(List Span)) (by':Int) (s2:Int × (List Span)):Option ((Int × (List Span)) ⊕ (Jx ((List Span)) ((List Span) × Int))) :=
 (bif (decide (s2.1 < (l.length:Int))) then
  (at? l s2.1).bind fun x1 =>
  (
   (bif (decide (by' > (w64 (1099511627776 - x1.To)))) then
    some true
   else
    (at? l s2.1).bind fun x2 =>
    some (decide (by' < (w64 ((-1099511627776) - x2.From)))))).bind fun (y2:Bool) =>
  (bif y2 then
   some (.inr (.ret ([],20)))
  else
   (at? l s2.1).bind fun x3 =>
   (at? l s2.1).bind fun x4 =>
   (app? 16 s2.2 [(Span.mk (w64 (x3.From + by')) (w64 (x4.To + by')))]).bind fun x5 =>
   some (.inl ((w64 (s2.1 + 1)),x5)))
 else
  some (.inr (.go s2.2)))
def Z5q (l:(List Span)) (by':Int):Option ((List Span) × Int) :=
 (loopO (Z5q.s0 l by') (0,[])).bind fun (y1:Jx ((List Span)) ((List Span) × Int)) =>
 y1.elim (fun r' =>
   some r') fun a2 =>
 some (a2,0)
def Z9E (f:Form) (i:Int):Option ((List Span) × Int) :=
 (bif ((decide (i < (-1099511627776))) || (decide (i > 1099511627776))) then
  some ([],20)
 else
  (Z6Q f i).bind fun x1 =>
  (bif (((x1.1.length:Int) == 0) || (x1.2 == 0)) then
   (app? 16 [] x1.1).bind fun x2 =>
   some (x2,0)
  else
   (nz? f.Period).bind fun u1 =>
   (
    (bif (decide (x1.2 > (w64 ((w64 ((2199023255552:Int).tdiv f.Period)) + 1)))) then
     some true
    else
     (nz? f.Period).bind fun u2 =>
     some (decide (x1.2 < (w64 ((w64 ((-2199023255552).tdiv f.Period)) - 1)))))).bind fun (y1:Bool) =>
   (bif y1 then
    some ([],20)
   else
    (Z5q x1.1 (w64 (x1.2 * f.Period))).bind fun x3 =>
    some (x3.1,x3.2))))
def Z4o.s0 (f:Form) (to':Int) (s1:Int):Option ((Int) ⊕ (Jx (Unit) ((List Span) × Bool))) :=
 (bif (decide (s1≤to')) then
  (Z9E f s1).bind fun x1 =>
  (bif ((x1.2 == 0) && (decide ((x1.1.length:Int) > 0))) then
   some (.inr (.ret (x1.1,true)))
  else
   some (.inl (w64 (s1 + 1))))
 else
  some (.inr (.go ())))
def Z4o (f:Form) (i:Int) (to':Int):Option ((List Span) × Bool) :=
 (loopO (Z4o.s0 f to') i).bind fun (y1:Jx (Unit) ((List Span) × Bool)) =>
 y1.elim (fun r' =>
   some r') fun a2 =>
 some ([],false)
def Z6k.s0 (f:Form) (m:Int) (s1:Int × Bool × Int):Option ((Int × Bool × Int) ⊕ (Int × Bool)) :=
 (bif (decide (s1.2.2≤600)) then
  (
   (
    (Z9E f s1.2.2).bind fun x1 =>
    (bif ((x1.2 != 0) || ((x1.1.length:Int) == 0)) then
     some (.ret ())
    else
     (Z4o f (w64 (s1.2.2 + m)) (iMax (w64 ((w64 (s1.2.2 + m)) + 30)) 130)).bind fun x2 =>
     (bif (!x2.2) then
      some (.ret ())
     else
      (at? x2.1 0).bind fun x3 =>
      (at? x1.1 (w64 ((x1.1.length:Int) - 1))).bind fun x4 =>
      (bif ((!s1.2.1) || (decide ((w64 (x3.From - x4.To)) < s1.1))) then
       some (.go ((w64 (x3.From - x4.To)),true))
      else
       some (.go (s1.1,s1.2.1)))))).bind fun (y3:Jx (Int × Bool) (Unit)) =>
   y3.elim (fun a4 =>
     some (s1.1,s1.2.1)) fun a3 =>
   some (a3.1,a3.2)).bind fun (y2:Int × Bool) =>
  some (.inl (y2.1,y2.2,(w64 (s1.2.2 + 1))))
 else
  some (.inr (s1.1,s1.2.1)))
def Z6k (f:Form) (m:Int):Option (Int × Bool) :=
 (loopO (Z6k.s0 f m) (0,false,(-600))).bind fun (y1:Int × Bool) =>
 some (y1.1,y1.2)
def Z6s (f:Form) (m:Int):Option (Bound) :=
 (Z6k f m).bind fun x1 =>
 (bif ((!x1.2) || (decide (x1.1 > 1099511627776))) then
  some (Bound.mk 0 1099511627776)
 else
  (bif (decide (x1.1≤(-1099511627776))) then
   some (Bound.mk (-1) 0)
  else
   some (Bound.mk 0 x1.1)))
def Z8e (f:Form) (n:Int):Option (Bound) :=
 (Z6s f (w64 (0 - n))).bind fun x1 =>
 some (Bound.mk (IntKind.i8.wrap (0 - x1.Inf)) (w64 (0 - x1.N)))
def Z1g (f:Form) (r':Range):Option (Bound × Bound) :=
 (
  (bif r'.HasLow then
   (Z2q f r'.Low).bind fun x1 =>
   some (x1.Inf,x1.N)
  else
   some ((-1),0))).bind fun (y1:Int × Int) =>
 (
  (bif r'.HasHigh then
   (Z2m f r'.High).bind fun x2 =>
   some (x2.Inf,x2.N)
  else
   some (1,0))).bind fun (y2:Int × Int) =>
 some ((Bound.mk y1.1 y1.2),(Bound.mk y2.1 y2.2))
def epactlaw25_CarryTells (f:Form) (r':Range):Option (Bool) :=
 (ZZ f).bind fun x1 =>
 (bif (!x1) then
  some Z0h
 else
  (
   (bif r'.HasLow then
    (Z6s f (r'.Low.tmod 200)).bind fun x2 =>
    some (x2.Inf,x2.N)
   else
    some ((-1),0))).bind fun (y1:Int × Int) =>
  (
   (bif r'.HasHigh then
    (Z8e f (r'.High.tmod 200)).bind fun x3 =>
    some (x3.Inf,x3.N)
   else
    some (1,0))).bind fun (y2:Int × Int) =>
  (Z1g f (Range.mk (r'.Low.tmod 200) (r'.High.tmod 200) r'.HasLow r'.HasHigh)).bind fun x4 =>
  (
   (bif (((x4.1.Inf == y1.1) && ((x4.1.N == y1.2) && true)) && ((x4.2.Inf == y2.1) && ((x4.2.N == y2.2) && true))) then
    (Z2q f (r'.Low.tmod 200)).bind fun x5 =>
    (Z6s f (r'.Low.tmod 200)).bind fun x6 =>
    some ((x5.Inf == x6.Inf) && ((x5.N == x6.N) && true))
   else
    some false)).bind fun (y3:Bool) =>
  (
   (bif y3 then
    (Z2m f (r'.High.tmod 200)).bind fun x7 =>
    (Z8e f (r'.High.tmod 200)).bind fun x8 =>
    some ((x7.Inf == x8.Inf) && ((x7.N == x8.N) && true))
   else
    some false)).bind fun (y4:Bool) =>
  some (y4 && Z0h))
def Z0L (a:Bound) (b:Bound):Bound × Int :=
 (bif ((!(ZF a)) || (!(ZF b))) then
  ((Bound.mk 0 0),2)
 else
  (bif (((a.Inf != 0) && (b.Inf != 0)) && (a.Inf != b.Inf)) then
   ((Bound.mk 0 0),10)
  else
   (bif (a.Inf != 0) then
    (a,0)
   else
    (bif (b.Inf != 0) then
     (b,0)
    else
     ((Bound.mk 0 ((Zf a.N b.N).1)),(Zf a.N b.N).2)))))
def ZBc (low:Int) (high:Int):Range :=
 (Range.mk low high true true)
def find_up:Unit :=
 ()
def Z9a (h':Span) (t:Int) (period:Int):Option (Int) :=
 (Z19 (w64 (h'.To - t)) period).bind fun x1 =>
 some (w64 (0 - x1.1))
def ZO.s0 (f:Form) (t:Int) (s1:Int × Bool × Int):Option ((Int × Bool × Int) ⊕ (Int × Bool)) :=
 (bif (decide (s1.2.2 < (f.Core.length:Int))) then
  (
   (
    (at? f.Core s1.2.2).bind fun x1 =>
    (Z1P x1).bind fun x2 =>
    (bif (!x2.2) then
     some (.ret ())
    else
     (Z9a x2.1 t f.Period).bind fun x3 =>
     (bif ((!s1.2.1) || (decide ((w64 ((w64 ((w64 ((w64 (x3 * f.Count)) + s1.2.2)) - s1.1)) * 1)) < 0))) then
      some (.go ((w64 ((w64 (x3 * f.Count)) + s1.2.2)),true))
     else
      some (.go (s1.1,s1.2.1))))).bind fun (y3:Jx (Int × Bool) (Unit)) =>
   y3.elim (fun a4 =>
     some (s1.1,s1.2.1)) fun a3 =>
   some (a3.1,a3.2)).bind fun (y2:Int × Bool) =>
  some (.inl (y2.1,y2.2,(w64 (s1.2.2 + 1))))
 else
  some (.inr (s1.1,s1.2.1)))
def ZO (f:Form) (t:Int):Option (Int × Bool) :=
 (loopO (ZO.s0 f t) (0,false,0)).bind fun (y1:Int × Bool) =>
 some (y1.1,y1.2)
def Z4.s0 (f:Form) (s1:Int × (List (Int × Int))):Option ((Int × (List (Int × Int))) ⊕ ((List (Int × Int)))) :=
 (bif (decide (s1.1 < (f.Odd.length:Int))) then
  (at? f.Odd s1.1).bind fun x2 =>
  some (.inl ((w64 (s1.1 + 1)),(mput s1.2 x2.Index (w64 ((mget s1.2 x2.Index) + 1)))))
 else
  some (.inr s1.2))
def Z4.s1 (f:Form) (y1:(List (Int × Int))) (s2:Int × Bool × Int):Option ((Int × Bool × Int) ⊕ (Jx (Unit) (Int × Bool))) :=
 (bif (s2.2.1 && (decide (s2.2.2 < 2))) then
  (
   (
    (Z0g (Form.mk f.Period f.Count f.Core []) s2.1).bind fun x4 =>
    (bif (x4.2 != 0) then
     some (.go (w64 (s2.2.2 + 1)))
    else
     (bif ((mget y1 s2.1) == 0) then
      some (.ret (s2.1,true))
     else
      some (.go s2.2.2)))).bind fun (y4:Jx (Int) (Int × Bool)) =>
   y4.elim (fun r' =>
     some (.ret r')) fun a4 =>
   some (.go a4)).bind fun (y3:Jx (Int) (Int × Bool)) =>
  y3.elim (fun r' =>
    some (.inr (.ret r'))) fun a5 =>
  (Z1j (Form.mk f.Period f.Count f.Core []) s2.1).bind fun x5 =>
  some (.inl (x5.1,x5.2,a5))
 else
  some (.inr (.go ())))
def Z4 (f:Form) (t:Int):Option (Int × Bool) :=
 (ZO f t).bind fun x1 =>
 (bif (!x1.2) then
  some (0,false)
 else
  (loopO (Z4.s0 f) (0,[])).bind fun (y1:(List (Int × Int))) =>
  (Z1j (Form.mk f.Period f.Count f.Core []) (w64 (x1.1 - 1))).bind fun x3 =>
  (loopO (Z4.s1 f y1) (x3.1,x3.2,0)).bind fun (y2:Jx (Unit) (Int × Bool)) =>
  y2.elim (fun r' =>
    some r') fun a6 =>
  some (0,false))
def Z5N (h':Span) (t:Int):Bool :=
 (decide (h'.To ≥ t))
def ZI.s0 (f:Form) (t:Int) (s1:Int × Bool × Int):Option ((Int × Bool × Int) ⊕ (Int × Bool)) :=
 (bif (decide (s1.2.2 < (f.Odd.length:Int))) then
  (
   (
    (at? f.Odd s1.2.2).bind fun x2 =>
    (Z1P x2.Ticks).bind fun x3 =>
    (bif ((x3.2 && (Z5N x3.1 (iMax (iMin t 1099511627777) (-1099511627777)))) && ((!s1.2.1) || (decide ((w64 ((w64 (x2.Index - s1.1)) * 1)) < 0)))) then
     some (x2.Index,true)
    else
     some (s1.1,s1.2.1))).bind fun (y3:Int × Bool) =>
   some (y3.1,y3.2)).bind fun (y2:Int × Bool) =>
  some (.inl (y2.1,y2.2,(w64 (s1.2.2 + 1))))
 else
  some (.inr (s1.1,s1.2.1)))
def ZI (f:Form) (t:Int):Option (Int × Bool) :=
 (Z4 f (iMax (iMin t 1099511627777) (-1099511627777))).bind fun x1 =>
 (loopO (ZI.s0 f t) (x1.1,x1.2,0)).bind fun (y1:Int × Bool) =>
 some (y1.1,y1.2)
def Z9g (f:Form) (t:Int):Option (Int × Bool) :=
 (ZI f t).bind fun x1 =>
 some (x1.1,x1.2)
def ZR.s0 (x':(List Span)) (target:Int) (cmp:Span→Int→Option Int) (s1:Int × Int):Option ((Int × Int) ⊕ (Int)) :=
 (bif (decide (s1.1 < s1.2)) then
  (
   (at? x' (w64 ((IntKind.u64.wrap (w64 (s1.1 + s1.2))).fdiv (2 ^ 1)))).bind fun x1 =>
   (cmp x1 target).bind fun x2 =>
   (bif (decide (x2 < 0)) then
    some ((w64 ((w64 ((IntKind.u64.wrap (w64 (s1.1 + s1.2))).fdiv (2 ^ 1))) + 1)),s1.2)
   else
    some (s1.1,(w64 ((IntKind.u64.wrap (w64 (s1.1 + s1.2))).fdiv (2 ^ 1)))))).bind fun (y2:Int × Int) =>
  some (.inl (y2.1,y2.2))
 else
  some (.inr s1.1))
def ZR (x':(List Span)) (target:Int) (cmp:Span→Int→Option Int):Option (Int × Bool) :=
 (loopO (ZR.s0 x' target cmp) (0,(x'.length:Int))).bind fun (y1:Int) =>
 (
  (bif (decide (y1 < (x'.length:Int))) then
   (at? x' y1).bind fun x3 =>
   (cmp x3 target).bind fun x4 =>
   some (x4 == 0)
  else
   some false)).bind fun (y3:Bool) =>
 some (y1,y3)
def Z4a (s:Span) (t:Int):Int :=
 (bif (decide (s.To < t)) then
  (-1)
 else
  (bif (decide (s.From > t)) then
   1
  else
   0))
def Z7k (l:(List Span)) (t:Int):Option (Bool) :=
 (ZR l t (fun z0 z1 => some (Z4a z0 z1))).bind fun x1 =>
 some (x1.2 && (decide (x1.1 < (l.length:Int))))
def Z7E (f:Form) (t:Int):Option (Int × Bool) :=
 (Z9g f t).bind fun x1 =>
 (bif (!x1.2) then
  some (0,false)
 else
  (Z0g f x1.1).bind fun x2 =>
  (Z7k x2.1 t).bind fun x3 =>
  (bif (!x3) then
   some (0,false)
  else
   some (x1.1,true)))
def Z0n (f:Form) (a:Int) (b:Int):Option (Int × Bool) :=
 (Z7E f a).bind fun x1 =>
 (bif (!x1.2) then
  some (0,false)
 else
  (Z7E f b).bind fun x2 =>
  (bif (!x2.2) then
   some (0,false)
  else
   some ((w64 (x2.1 - x1.1)),true)))
def Z1m (r':Range) (n:Int):Bool :=
 (((!r'.HasLow) || (decide (n ≥ r'.Low))) && ((!r'.HasHigh) || (decide (n≤r'.High))))
def Z4r (low:Bound) (n:Int) (high:Bound):Bool :=
 ((!(Z0O (Bound.mk 0 n) low)) && (!(Z0O high (Bound.mk 0 n))))
def epactlaw25_CarrySound (f:Form) (a:Int) (b:Int) (r':Range) (low:Int) (high:Int):Option (Bool) :=
 (Z5H f).bind fun x1 =>
 (bif (!x1) then
  some Z0h
 else
  (Z0n f (a.tmod 1099511627776) (b.tmod 1099511627776)).bind fun x2 =>
  (bif (!x2.2) then
   some Z0h
  else
   (Z1g f r').bind fun x3 =>
   (bif ((Z1m r' x2.1) && (!(Z4r x3.1 (w64 ((b.tmod 1099511627776) - (a.tmod 1099511627776))) x3.2))) then
    some false
   else
    (
     (bif (!r'.HasLow) then
      some ((-1),0)
     else
      some (0,low))).bind fun (y1:Int × Int) =>
    (
     (bif (!r'.HasHigh) then
      some (1,0)
     else
      some (0,high))).bind fun (y2:Int × Int) =>
    (Z0l f (Bound.mk y1.1 y1.2) (Bound.mk y2.1 y2.2)).bind fun x4 =>
    (bif (x4.2.2 != 0) then
     some false
    else
     (bif ((Z4r (Bound.mk y1.1 y1.2) (w64 ((b.tmod 1099511627776) - (a.tmod 1099511627776))) (Bound.mk y2.1 y2.2)) && ((!x4.2.1) || (!(Z1m x4.1 x2.1)))) then
      some false
     else
      (Z0l f (Bound.mk 0 (w64 ((b.tmod 1099511627776) - (a.tmod 1099511627776)))) (Bound.mk 0 (w64 ((b.tmod 1099511627776) - (a.tmod 1099511627776))))).bind fun x5 =>
      (Z1g f (ZBc x2.1 x2.1)).bind fun x6 =>
      some (((((x5.2.2 == 0) && x5.2.1) && (Z1m x5.1 x2.1)) && (Z4r x6.1 (w64 ((b.tmod 1099511627776) - (a.tmod 1099511627776))) x6.2)) && Z0h))))))
def Zk.s0 (s:(List Int)) (f:Int→Option Bool) (s1:Int):Option ((Int) ⊕ (Jx (Unit) (Int))) :=
 (bif (decide (s1 < (s.length:Int))) then
  (at? s s1).bind fun x1 =>
  (f x1).bind fun x2 =>
  (bif x2 then
   some (.inr (.ret s1))
  else
   some (.inl (w64 (s1 + 1))))
 else
  some (.inr (.go ())))
def Zk (s:(List Int)) (f:Int→Option Bool):Option (Int) :=
 (loopO (Zk.s0 s f) 0).bind fun (y1:Jx (Unit) (Int)) =>
 y1.elim (fun r' =>
   some r') fun a2 =>
 some (-1)
def Z0f (s:(List Int)) (f:Int→Option Bool):Option (Bool) :=
 (Zk s f).bind fun x1 =>
 some (decide (x1 ≥ 0))
def Z6M (t:Int):Bool :=
 ((decide (t < (-1099511627776))) || (decide (t > 1099511627776)))
def Z83 (n:Net) (ticks:(List Int)):Option (Bool) :=
 (
  (bif ((ticks.length:Int) == n.Vars) then
   (Z0f ticks (fun z0 => some (Z6M z0))).bind fun x1 =>
   some (!x1)
  else
   some false)).bind fun (y1:Bool) =>
 some y1
def Z5U (n:Net) (c:Con) (ticks:(List Int)):Option (Bool) :=
 (at? n.Forms c.Form).bind fun x1 =>
 (at? ticks c.X).bind fun x2 =>
 (at? ticks c.Y).bind fun x3 =>
 (Z0n x1 x2 x3).bind fun x4 =>
 (
  (
   (
    (bif (!x4.2) then
     some (!x4.2)
    else
     (bif (c.Range.HasLow && (decide (x4.1 < c.Range.Low))) then
      some (c.Range.HasLow && (decide (x4.1 < c.Range.Low)))
     else
      some (c.Range.HasHigh && (decide (x4.1 > c.Range.High)))))).bind fun (y3:Bool) =>
   (bif y3 then
    some (.ret false)
   else
    some (.go ()))).bind fun (y2:Jx (Unit) (Bool)) =>
  y2.elim (fun r' =>
    some (.ret r')) fun a3 =>
  some (.go ())).bind fun (y1:Jx (Unit) (Bool)) =>
 y1.elim (fun r' =>
   some r') fun a4 =>
 some true
def Z14.s0 (p1':Net) (p2':(List Int)) {S:Type} (yield:S→Int→Option (S × Bool)) (s1:Int × S):Option ((Int × S) ⊕ (Jx (S) (S))) :=
 (bif (decide (s1.1 < (p1'.Cons.length:Int))) then
  (at? p1'.Cons s1.1).bind fun x1 =>
  (Z5U p1' x1 p2').bind fun x2 =>
  (
   (bif (!x2) then
    (yield s1.2 s1.1).bind fun x3 =>
    some ((!x3.2),x3.1)
   else
    some (false,s1.2))).bind fun (y2:Bool × S) =>
  (bif y2.1 then
   some (.inr (.ret y2.2))
  else
   some (.inl ((w64 (s1.1 + 1)),y2.2)))
 else
  some (.inr (.go s1.2)))
def Z14 {S:Type} (p1':Net) (p2':(List Int)) (yield:S→Int→Option (S × Bool)) (st':S):Option (S) :=
 (loopO (Z14.s0 p1' p2' yield) (0,st')).bind fun (y1:Jx (S) (S)) =>
 y1.elim (fun r' =>
   some r') fun a2 =>
 some a2
def Z2r.b0 (s2:(List Int)) (z2:Int):Option (((List Int)) × Nat) :=
 (app? 8 s2 [z2]).bind fun x2 =>
 some (x2,0)
def Z2r (n:Net) (ticks:(List Int)):Option ((List Int) × Int) :=
 (Z83 n ticks).bind fun x1 =>
 (bif (!x1) then
  some ([],230)
 else
  (Z14 n ticks (Z3K Z2r.b0) ([],0)).bind fun (y1:((List Int)) × Nat) =>
  some (y1.1,0))
def Z0c (i:Int) (many:Int):Bool :=
 ((decide (i ≥ 0)) && (decide (i < many)))
def ZN.s0 (s:(List Form)) (f:Form→Option Bool) (s1:Int):Option ((Int) ⊕ (Jx (Unit) (Int))) :=
 (bif (decide (s1 < (s.length:Int))) then
  (at? s s1).bind fun x1 =>
  (f x1).bind fun x2 =>
  (bif x2 then
   some (.inr (.ret s1))
  else
   some (.inl (w64 (s1 + 1))))
 else
  some (.inr (.go ())))
def ZN (s:(List Form)) (f:Form→Option Bool):Option (Int) :=
 (loopO (ZN.s0 s f) 0).bind fun (y1:Jx (Unit) (Int)) =>
 y1.elim (fun r' =>
   some r') fun a2 =>
 some (-1)
def Zt (s:(List Form)) (f:Form→Option Bool):Option (Bool) :=
 (ZN s f).bind fun x1 =>
 some (decide (x1 ≥ 0))
def Z1D (f:Form):Option (Bool) :=
 (Zm f).bind fun x1 =>
 some (x1 != 0)
def ZT.s0 (s:(List Con)) (f:Con→Option Bool) (s1:Int):Option ((Int) ⊕ (Jx (Unit) (Int))) :=
 (bif (decide (s1 < (s.length:Int))) then
  (at? s s1).bind fun x1 =>
  (f x1).bind fun x2 =>
  (bif x2 then
   some (.inr (.ret s1))
  else
   some (.inl (w64 (s1 + 1))))
 else
  some (.inr (.go ())))
def ZT (s:(List Con)) (f:Con→Option Bool):Option (Int) :=
 (loopO (ZT.s0 s f) 0).bind fun (y1:Jx (Unit) (Int)) =>
 y1.elim (fun r' =>
   some r') fun a2 =>
 some (-1)
def Z02 (s:(List Con)) (f:Con→Option Bool):Option (Bool) :=
 (ZT s f).bind fun x1 =>
 some (decide (x1 ≥ 0))
def Z4M (r':Range):Bool :=
 ((r'.HasLow || (r'.Low == 0)) && (r'.HasHigh || (r'.High == 0)))
def Z3g (n:Net) (c:Con):Bool :=
 ((((Z0c c.X n.Vars) && (Z0c c.Y n.Vars)) && (Z0c c.Form (n.Forms.length:Int))) && (Z4M c.Range))
def Z0t (c:Con) (p1':Net):Bool :=
 (!(Z3g p1' c))
def Z1a (n:Net):Option (Int) :=
 (
  (
   (
    (bif (!(Z0c n.Vars 25)) then
     some (!(Z0c n.Vars 25))
    else
     (bif (decide ((n.Forms.length:Int) > 20)) then
      some (decide ((n.Forms.length:Int) > 20))
     else
      some (decide ((n.Cons.length:Int) > 200))))).bind fun (y3:Bool) =>
   (bif y3 then
    some (.ret 230)
   else
    (
     (Zt n.Forms (fun z0 => Z1D z0)).bind fun x1 =>
     (bif x1 then
      some x1
     else
      (Z02 n.Cons (fun z0 => some (Z0t z0 n))).bind fun x2 =>
      some x2)).bind fun (y4:Bool) =>
    (bif y4 then
     some (.ret 230)
    else
     some (.go ())))).bind fun (y2:Jx (Unit) (Int)) =>
  y2.elim (fun r' =>
    some (.ret r')) fun a3 =>
  some (.go ())).bind fun (y1:Jx (Unit) (Int)) =>
 y1.elim (fun r' =>
   some r') fun a4 =>
 some 0
def Zq.s0 (n:Net) (s1:Int):Option ((Int) ⊕ (Jx (Unit) (Bool))) :=
 (bif (decide (s1 < (n.Forms.length:Int))) then
  (at? n.Forms s1).bind fun x1 =>
  (ZZ x1).bind fun x2 =>
  (bif (!x2) then
   some (.inr (.ret false))
  else
   some (.inl (w64 (s1 + 1))))
 else
  some (.inr (.go ())))
def Zq (n:Net):Option (Bool) :=
 (bif (((decide ((n.Forms.length:Int) > 4)) || (decide ((n.Cons.length:Int) > 8))) || (decide (n.Vars > 8))) then
  some false
 else
  (loopO (Zq.s0 n) 0).bind fun (y1:Jx (Unit) (Bool)) =>
  y1.elim (fun r' =>
    some r') fun a2 =>
  (Z1a n).bind fun x3 =>
  some (x3 == 0))
def Z09.b0 (s1:Unit) (z1:Int):Option ((Unit) × Nat) :=
 some ((),1)
def Z09 (n:Net) (ticks:(List Int)):Option (Bool) :=
 (Z83 n ticks).bind fun x1 =>
 (bif (!x1) then
  some false
 else
  (Z14 n ticks (Z3K Z09.b0) ((),0)).bind fun (y1:(Unit) × Nat) =>
  (bif (y1.2 == 0) then
   some true
  else
   some false))
def Z3A.s0 (a:(List Int)) (b:(List Int)) (s1:Int):Option ((Int) ⊕ (Jx (Unit) (Bool))) :=
 (bif (decide (s1 < (a.length:Int))) then
  (at? a s1).bind fun x1 =>
  (at? b s1).bind fun x2 =>
  (bif (x1 != x2) then
   some (.inr (.ret false))
  else
   some (.inl (w64 (s1 + 1))))
 else
  some (.inr (.go ())))
def Z3A (a:(List Int)) (b:(List Int)):Option (Bool) :=
 (bif ((a.length:Int) != (b.length:Int)) then
  some false
 else
  (loopO (Z3A.s0 a b) 0).bind fun (y1:Jx (Unit) (Bool)) =>
  y1.elim (fun r' =>
    some r') fun a2 =>
  some true)
def Z2A:Bool:=true
def epactlaw23_TagAdds (f:Form) (a:Int) (b:Int) (c:Int):Option (Bool) :=
 (Z0w f).bind fun x1 =>
 (
  (bif (!x1) then
   some true
  else
   (Zm f).bind fun x2 =>
   some (x2 != 0))).bind fun (y1:Bool) =>
 (bif y1 then
  some Z2A
 else
  (Z0n f a b).bind fun x3 =>
  (Z0n f b a).bind fun x4 =>
  (Z0n f b c).bind fun x5 =>
  (Z0n f a c).bind fun x6 =>
  (Z0n f a a).bind fun x7 =>
  (Z0n f b b).bind fun x8 =>
  (bif (((((x3.2 != x4.2) || (x3.2 != (x7.2 && x8.2))) || ((!x3.2) && (x3.1 != 0))) || (x7.1 != 0)) || (x8.1 != 0)) then
   some false
  else
   (bif ((x3.2 && (x3.1 != (w64 (0 - x4.1)))) || ((x3.2 && x5.2) && ((!x6.2) || (x6.1 != (w64 (x3.1 + x5.1)))))) then
    some false
   else
    (bif (((x3.2 && (decide (a≤b))) && (decide (x3.1 < 0))) || ((x3.2 && (decide (a ≥ b))) && (decide (x3.1 > 0)))) then
     some false
    else
     some Z2A))))
def Z0z.s0 (n:Net) (cut:Int) (s1:(List Int)):Option (((List Int)) ⊕ ((List Int))) :=
 (bif (decide ((s1.length:Int) < n.Vars)) then
  (cut? s1 0 (s1.length:Int)).bind fun x4 =>
  (app? 8 x4 [0]).bind fun x5 =>
  some (.inl x5)
 else
  some (.inr s1))
def Z0z.s1 (n:Net) (cut:Int) (x10:(List Int) × Int) (s2:Int × (List Int)):Option ((Int × (List Int)) ⊕ ((List Int))) :=
 (bif (decide (s2.1 < (x10.1.length:Int))) then
  (at? x10.1 s2.1).bind fun x12 =>
  (app? 8 s2.2 [(w64 (x12 + ((w64 cut).tmod (w64 ((n.Cons.length:Int) + 1)))))]).bind fun x13 =>
  some (.inl ((w64 (s2.1 + 1)),x13))
 else
  some (.inr s2.2))
def Z0z.s2 (n:Net) (cut:Int) (x23:(List Int) × Int) (s3:Int × (List Int)):Option ((Int × (List Int)) ⊕ ((List Int))) :=
 (bif (decide (s3.1 < (x23.1.length:Int))) then
  (at? x23.1 s3.1).bind fun x25 =>
  (app? 8 s3.2 [(w64 (x25 + ((w64 cut).tmod (w64 ((n.Cons.length:Int) + 1)))))]).bind fun x26 =>
  some (.inl ((w64 (s3.1 + 1)),x26))
 else
  some (.inr s3.2))
def Z0z (n:Net) (ticks:(List Int)) (cut:Int):Option (Bool) :=
 (Zq n).bind fun x1 =>
 (bif (!x1) then
  some Z2A
 else
  (bif (decide ((ticks.length:Int) < n.Vars)) then
   (cut? ticks 0 (ticks.length:Int)).bind fun x2 =>
   (app? 8 x2 [0]).bind fun x3 =>
   (loopO (Z0z.s0 n cut) x3).bind fun (y1:(List Int)) =>
   (cut? y1 0 n.Vars).bind fun x6 =>
   (nz? (w64 ((n.Cons.length:Int) + 1))).bind fun u1 =>
   (cut? n.Cons 0 ((w64 cut).tmod (w64 ((n.Cons.length:Int) + 1)))).bind fun x7 =>
   (cut? n.Cons ((w64 cut).tmod (w64 ((n.Cons.length:Int) + 1))) (n.Cons.length:Int)).bind fun x8 =>
   (Z2r (Net.mk n.Vars n.Forms x7) x6).bind fun x9 =>
   (Z2r (Net.mk n.Vars n.Forms x8) x6).bind fun x10 =>
   (Z2r n x6).bind fun x11 =>
   (bif ((x9.2 != x10.2) || (x9.2 != x11.2)) then
    some false
   else
    (loopO (Z0z.s1 n cut x10) (0,x9.1)).bind fun (y2:(List Int)) =>
    (Z3A y2 x11.1).bind fun x14 =>
    (
     (bif x14 then
      (Z09 n x6).bind fun x15 =>
      some (x15 == ((x9.2 == 0) && ((x11.1.length:Int) == 0)))
     else
      some false)).bind fun (y3:Bool) =>
    (
     (bif y3 then
      (Z09 n x6).bind fun x16 =>
      (Z09 (Net.mk n.Vars n.Forms x7) x6).bind fun x17 =>
      (
       (bif x17 then
        (Z09 (Net.mk n.Vars n.Forms x8) x6).bind fun x18 =>
        some x18
       else
        some false)).bind fun (y5:Bool) =>
      some (x16 == y5)
     else
      some false)).bind fun (y4:Bool) =>
    some (y4 && Z2A))
  else
   (cut? ticks 0 n.Vars).bind fun x19 =>
   (nz? (w64 ((n.Cons.length:Int) + 1))).bind fun u2 =>
   (cut? n.Cons 0 ((w64 cut).tmod (w64 ((n.Cons.length:Int) + 1)))).bind fun x20 =>
   (cut? n.Cons ((w64 cut).tmod (w64 ((n.Cons.length:Int) + 1))) (n.Cons.length:Int)).bind fun x21 =>
   (Z2r (Net.mk n.Vars n.Forms x20) x19).bind fun x22 =>
   (Z2r (Net.mk n.Vars n.Forms x21) x19).bind fun x23 =>
   (Z2r n x19).bind fun x24 =>
   (bif ((x22.2 != x23.2) || (x22.2 != x24.2)) then
    some false
   else
    (loopO (Z0z.s2 n cut x23) (0,x22.1)).bind fun (y6:(List Int)) =>
    (Z3A y6 x24.1).bind fun x27 =>
    (
     (bif x27 then
      (Z09 n x19).bind fun x28 =>
      some (x28 == ((x22.2 == 0) && ((x24.1.length:Int) == 0)))
     else
      some false)).bind fun (y7:Bool) =>
    (
     (bif y7 then
      (Z09 n x19).bind fun x29 =>
      (Z09 (Net.mk n.Vars n.Forms x20) x19).bind fun x30 =>
      (
       (bif x30 then
        (Z09 (Net.mk n.Vars n.Forms x21) x19).bind fun x31 =>
        some x31
       else
        some false)).bind fun (y9:Bool) =>
      some (x29 == y9)
     else
      some false)).bind fun (y8:Bool) =>
    some (y8 && Z2A))))
def Za (x':Int) (y:Int):Int × Int :=
 ((Z0I x' y).1,(Z0I x' y).2)
def ZS.s0 (x':(List Bound)) (count:Int) (s1:Int × (List Bound)):Option ((Int × (List Bound)) ⊕ ((List Bound))) :=
 (bif (decide (s1.1 < (s1.2.length:Int))) then
  (winA s1.1 ((w64 ((Za (IntKind.u64.wrap (x'.length:Int)) (IntKind.u64.wrap count)).2))).toNat).bind fun u1 =>
  (winB s1.1 ((w64 ((Za (IntKind.u64.wrap (x'.length:Int)) (IntKind.u64.wrap count)).2))).toNat).bind fun u2 =>
  some (.inl ((w64 (s1.1 + ((min (s1.1).toNat (((w64 ((Za (IntKind.u64.wrap (x'.length:Int)) (IntKind.u64.wrap count)).2))).toNat - (s1.1).toNat):Nat):Int))),(dbl s1.2 (s1.1).toNat)))
 else
  some (.inr s1.2))
def ZS (x':(List Bound)) (count:Int):Option ((List Bound)) :=
 (bif (decide (count < 0)) then
  none
 else
  (bif ((decide (((Za (IntKind.u64.wrap (x'.length:Int)) (IntKind.u64.wrap count)).1) > 0)) || (decide (((Za (IntKind.u64.wrap (x'.length:Int)) (IntKind.u64.wrap count)).2) > 9223372036854775807))) then
   none
  else
   (new? 16 (w64 ((Za (IntKind.u64.wrap (x'.length:Int)) (IntKind.u64.wrap count)).2)) (Bound.mk 0 0)).bind fun x1 =>
   (loopO (ZS.s0 x' count) (((min x'.length x1.length:Nat):Int),(cpy x1 x'))).bind fun (y1:(List Bound)) =>
   some y1))
def Z4C.s0 (n:Int) (s1:Int × (List (List Bound))):Option ((Int × (List (List Bound))) ⊕ ((List (List Bound)))) :=
 (bif (decide (s1.1 < n)) then
  (ZS [(Bound.mk 1 0)] n).bind fun x2 =>
  (at? s1.2 s1.1).bind fun x3 =>
  (at? (s1.2.set (s1.1).toNat x2) s1.1).bind fun x4 =>
  (at? x4 s1.1).bind fun x5 =>
  some (.inl ((w64 (s1.1 + 1)),((s1.2.set (s1.1).toNat x2).set (s1.1).toNat (x4.set (s1.1).toNat (Bound.mk 0 0)))))
 else
  some (.inr s1.2))
def Z4C (n:Int):Option ((List (List Bound)) × Int) :=
 (bif ((decide (n < 0)) || (decide (n > 24))) then
  some ([],2)
 else
  (new? 24 n []).bind fun x1 =>
  (loopO (Z4C.s0 n) (0,x1)).bind fun (y1:(List (List Bound))) =>
  some (y1,0))
def ZG.s0 (s:(List (List Bound))) (f:(List Bound)→Option Bool) (s1:Int):Option ((Int) ⊕ (Jx (Unit) (Int))) :=
 (bif (decide (s1 < (s.length:Int))) then
  (at? s s1).bind fun x1 =>
  (f x1).bind fun x2 =>
  (bif x2 then
   some (.inr (.ret s1))
  else
   some (.inl (w64 (s1 + 1))))
 else
  some (.inr (.go ())))
def ZG (s:(List (List Bound))) (f:(List Bound)→Option Bool):Option (Int) :=
 (loopO (ZG.s0 s f) 0).bind fun (y1:Jx (Unit) (Int)) =>
 y1.elim (fun r' =>
   some r') fun a2 =>
 some (-1)
def Zj (s:(List (List Bound))) (f:(List Bound)→Option Bool):Option (Bool) :=
 (ZG s f).bind fun x1 =>
 some (decide (x1 ≥ 0))
def ZM.s0 (s:(List Bound)) (f:Bound→Option Bool) (s1:Int):Option ((Int) ⊕ (Jx (Unit) (Int))) :=
 (bif (decide (s1 < (s.length:Int))) then
  (at? s s1).bind fun x1 =>
  (f x1).bind fun x2 =>
  (bif x2 then
   some (.inr (.ret s1))
  else
   some (.inl (w64 (s1 + 1))))
 else
  some (.inr (.go ())))
def ZM (s:(List Bound)) (f:Bound→Option Bool):Option (Int) :=
 (loopO (ZM.s0 s f) 0).bind fun (y1:Jx (Unit) (Int)) =>
 y1.elim (fun r' =>
   some r') fun a2 =>
 some (-1)
def Zn (s:(List Bound)) (f:Bound→Option Bool):Option (Bool) :=
 (ZM s f).bind fun x1 =>
 some (decide (x1 ≥ 0))
def Z8c (b:Bound):Bool :=
 ((((ZF b) && (decide (b.Inf ≥ 0))) && (decide (b.N ≥ (-1125899906842624)))) && (decide (b.N≤1125899906842624)))
def Z5f (b:Bound):Bool :=
 (!(Z8c b))
def Z4V (row:(List Bound)) (p1':Int):Option (Bool) :=
 (
  (bif ((row.length:Int) != p1') then
   some true
  else
   (Zn row (fun z0 => some (Z5f z0))).bind fun x1 =>
   some x1)).bind fun (y1:Bool) =>
 some y1
def Z3p (d:(List (List Bound))):Option (Bool) :=
 (
  (bif (decide ((d.length:Int)≤24)) then
   (Zj d (fun z0 => Z4V z0 (d.length:Int))).bind fun x1 =>
   some (!x1)
  else
   some false)).bind fun (y1:Bool) =>
 some y1
def Z1z (s:(List (List Bound))):Option ((List (List Bound))) :=
 (some? s).bind fun u1 =>
 (app? 24 [] s).bind fun x1 =>
 some x1
def Z2M (s:(List Bound)):Option ((List Bound)) :=
 (some? s).bind fun u1 =>
 (app? 16 [] s).bind fun x1 =>
 some x1
def Z7B (d:(List (List Bound))):Option ((List (List Bound))) :=
 (bif (!d.isEmpty && decide (d.length * 24≤room) && d.all fun q => !q.isEmpty && decide (q.length * 16≤room)) then
  some d
 else
  none)
def stp_Set (d:(List (List Bound))) (i:Int) (j:Int) (most:Bound):Option ((List (List Bound)) × Int) :=
 (Z3p d).bind fun x1 =>
 (bif ((((((!x1) || (decide (i < 0))) || (decide (j < 0))) || (decide (i ≥ (d.length:Int)))) || (decide (j ≥ (d.length:Int)))) || (!(Z8c most))) then
  some ([],2)
 else
  (Z7B d).bind fun x2 =>
  (
   (at? x2 i).bind fun x3 =>
   (at? x3 j).bind fun x4 =>
   (bif (Z0O most x4) then
    (at? x2 i).bind fun x5 =>
    (at? x5 j).bind fun x6 =>
    some (x2.set (i).toNat (x5.set (j).toNat most))
   else
    some x2)).bind fun (y1:(List (List Bound))) =>
  some (y1,0))
def Z5B.s0 (l:(List epactlaw24_Set)) (s1:(List (List Bound)) × Int × Int):Option (((List (List Bound)) × Int × Int) ⊕ ((List (List Bound)) × Int)) :=
 (bif (decide (s1.2.2 < (l.length:Int))) then
  (
   (
    (at? l s1.2.2).bind fun x2 =>
    (bif (s1.2.1 == 0) then
     (stp_Set s1.1 x2.I x2.J x2.Most).bind fun x3 =>
     some (x3.1,x3.2)
    else
     some (s1.1,s1.2.1))).bind fun (y3:(List (List Bound)) × Int) =>
   some (y3.1,y3.2)).bind fun (y2:(List (List Bound)) × Int) =>
  some (.inl (y2.1,y2.2,(w64 (s1.2.2 + 1))))
 else
  some (.inr (s1.1,s1.2.1)))
def Z5B (n:Int) (l:(List epactlaw24_Set)):Option ((List (List Bound)) × Bool) :=
 (Z4C n).bind fun x1 =>
 (loopO (Z5B.s0 l) (x1.1,x1.2,0)).bind fun (y1:(List (List Bound)) × Int) =>
 some (y1.1,(y1.2 == 0))
def Z59.s0 (x1:(List epactlaw24_Set)) (s2:Int × Int × (List epactlaw24_Set)):Option ((Int × Int × (List epactlaw24_Set)) ⊕ (Int × (List epactlaw24_Set))) :=
 (bif (decide (s2.2.1 < (x1.length:Int))) then
  (
   (
    (at? x1 s2.2.1).bind fun x2 =>
    (nz? s2.1).bind fun u1 =>
    (nz? s2.1).bind fun u2 =>
    (
     (bif (x2.Most.Inf == 0) then
      some (0,(x2.Most.N.tmod 1001))
     else
      some (1,0))).bind fun (y4:Int × Int) =>
    (bif (((iAnd .i64 x2.I 255).tmod s2.1) != ((iAnd .i64 x2.J 255).tmod s2.1)) then
     (app? 32 s2.2.2 [(epactlaw24_Set.mk ((iAnd .i64 x2.I 255).tmod s2.1) ((iAnd .i64 x2.J 255).tmod s2.1) (Bound.mk y4.1 y4.2))]).bind fun x3 =>
     some x3
    else
     some s2.2.2)).bind fun (y3:(List epactlaw24_Set)) =>
   some y3).bind fun (y2:(List epactlaw24_Set)) =>
  some (.inl (s2.1,(w64 (s2.2.1 + 1)),y2))
 else
  some (.inr (s2.1,s2.2.2)))
def Z59 (n:Int) (l:(List epactlaw24_Set)):Option ((List (List Bound))) :=
 (cut? l 0 (iMin (l.length:Int) 60)).bind fun x1 =>
 (loopO (Z59.s0 x1) ((w64 (1 + (w64 (n.tmod 24)))),0,[])).bind fun (y1:Int × (List epactlaw24_Set)) =>
 (Z5B y1.1 y1.2).bind fun x4 =>
 some x4.1
def ZU.s0 (d:(List (List Bound))) (s1:Int × (List (List Bound))):Option ((Int × (List (List Bound))) ⊕ (Jx ((List (List Bound))) ((List (List Bound)) × Bool × Int))) :=
 (bif (decide (s1.1 < ((d.length:Nat):Int))) then
  (at? s1.2 s1.1).bind fun x3 =>
  (at? x3 s1.1).bind fun x4 =>
  (bif (Z0O x4 (Bound.mk 0 0)) then
   some (.inr (.ret ([],false,0)))
  else
   (at? s1.2 s1.1).bind fun x5 =>
   (at? x5 s1.1).bind fun x6 =>
   some (.inl ((w64 (s1.1 + 1)),(s1.2.set (s1.1).toNat (x5.set (s1.1).toNat (Bound.mk 0 0))))))
 else
  some (.inr (.go s1.2)))
def ZU.s3 (d:(List (List Bound))) (s2:Int × (List (List Bound))) (s3:Int × (List (List Bound))) (s4:Int × (List (List Bound))):Option ((Int × (List (List Bound))) ⊕ ((List (List Bound)))) :=
 (bif (decide (s4.1 < ((d.length:Nat):Int))) then
  (
   (
    (at? s4.2 s3.1).bind fun x7 =>
    (at? x7 s2.1).bind fun x8 =>
    (at? s4.2 s2.1).bind fun x9 =>
    (at? x9 s4.1).bind fun x10 =>
    (
     (bif (((Z0L x8 x10).2) == 0) then
      (at? s4.2 s3.1).bind fun x11 =>
      (at? x11 s4.1).bind fun x12 =>
      some (Z0O ((Z0L x8 x10).1) x12)
     else
      some false)).bind fun (y8:Bool) =>
    (bif y8 then
     (at? s4.2 s3.1).bind fun x13 =>
     (at? x13 s4.1).bind fun x14 =>
     some (s4.2.set (s3.1).toNat (x13.set (s4.1).toNat ((Z0L x8 x10).1)))
    else
     some s4.2)).bind fun (y7:(List (List Bound))) =>
   some y7).bind fun (y6:(List (List Bound))) =>
  some (.inl ((w64 (s4.1 + 1)),y6))
 else
  some (.inr s4.2))
def ZU.s2 (d:(List (List Bound))) (s2:Int × (List (List Bound))) (s3:Int × (List (List Bound))):Option ((Int × (List (List Bound))) ⊕ ((List (List Bound)))) :=
 (bif (decide (s3.1 < ((d.length:Nat):Int))) then
  (loopO (ZU.s3 d s2 s3) (0,s3.2)).bind fun (y5:(List (List Bound))) =>
  some (.inl ((w64 (s3.1 + 1)),y5))
 else
  some (.inr s3.2))
def ZU.s4 (d:(List (List Bound))) (y4:(List (List Bound))) (s5:Int):Option ((Int) ⊕ (Jx (Unit) (Unit))) :=
 (bif (decide (s5 < ((d.length:Nat):Int))) then
  (at? y4 s5).bind fun x15 =>
  (at? x15 s5).bind fun x16 =>
  (bif (Z0O x16 (Bound.mk 0 0)) then
   some (.inr (.ret ()))
  else
   some (.inl (w64 (s5 + 1))))
 else
  some (.inr (.go ())))
def ZU.s1 (d:(List (List Bound))) (s2:Int × (List (List Bound))):Option ((Int × (List (List Bound))) ⊕ (Jx ((List (List Bound))) ((List (List Bound)) × Bool × Int))) :=
 (bif (decide (s2.1 < ((d.length:Nat):Int))) then
  (
   (loopO (ZU.s2 d s2) (0,s2.2)).bind fun (y4:(List (List Bound))) =>
   (loopO (ZU.s4 d y4) 0).bind fun (y9:Jx (Unit) (Unit)) =>
   y9.elim (fun a7 =>
     some (false,y4)) fun a6 =>
   some (true,y4)).bind fun (y3:Bool × (List (List Bound))) =>
  (bif (!y3.1) then
   some (.inr (.ret ([],false,0)))
  else
   some (.inl ((w64 (s2.1 + 1)),y3.2)))
 else
  some (.inr (.go s2.2)))
def ZU (d:(List (List Bound))):Option ((List (List Bound)) × Bool × Int) :=
 (Z3p d).bind fun x1 =>
 (bif (!x1) then
  some ([],false,2)
 else
  (Z7B d).bind fun x2 =>
  (loopO (ZU.s0 d) (0,x2)).bind fun (y1:Jx ((List (List Bound))) ((List (List Bound)) × Bool × Int)) =>
  y1.elim (fun r' =>
    some r') fun a2 =>
  (loopO (ZU.s1 d) (0,a2)).bind fun (y2:Jx ((List (List Bound))) ((List (List Bound)) × Bool × Int)) =>
  y2.elim (fun r' =>
    some r') fun a8 =>
  some (a8,true,0))
def Zp.s1 (ticks:(List Int)) (s1:Int) (x2:(List Bound)) (s2:Int):Option ((Int) ⊕ (Jx (Unit) (Bool))) :=
 (bif (decide (s2 < (x2.length:Int))) then
  (
   (
    (at? x2 s2).bind fun x3 =>
    (at? ticks s2).bind fun x4 =>
    (at? ticks s1).bind fun x5 =>
    (
     (bif (x3.Inf == 1) then
      some (.go ())
     else
      (
       (
        (bif (((Z0U x4 x5).2) != 0) then
         (at? ticks s2).bind fun x6 =>
         (at? ticks s1).bind fun x7 =>
         some (decide (x6 > x7))
        else
         some false)).bind fun (y7:Bool) =>
       (bif y7 then
        some y7
       else
        some ((((Z0U x4 x5).2) == 0) && (decide (((Z0U x4 x5).1) > x3.N))))).bind fun (y6:Bool) =>
      (bif y6 then
       some (.ret false)
      else
       some (.go ())))).bind fun (y5:Jx (Unit) (Bool)) =>
    y5.elim (fun r' =>
      some (.ret r')) fun a6 =>
    some (.go ())).bind fun (y4:Jx (Unit) (Bool)) =>
   y4.elim (fun r' =>
     some (.ret r')) fun a7 =>
   some (.go ())).bind fun (y3:Jx (Unit) (Bool)) =>
  y3.elim (fun r' =>
    some (.inr (.ret r'))) fun a8 =>
  some (.inl (w64 (s2 + 1)))
 else
  some (.inr (.go ())))
def Zp.s0 (d:(List (List Bound))) (ticks:(List Int)) (s1:Int):Option ((Int) ⊕ (Jx (Unit) (Bool))) :=
 (bif (decide (s1 < (d.length:Int))) then
  (at? d s1).bind fun x2 =>
  (loopO (Zp.s1 ticks s1 x2) 0).bind fun (y2:Jx (Unit) (Bool)) =>
  y2.elim (fun r' =>
    some (.inr (.ret r'))) fun a9 =>
  some (.inl (w64 (s1 + 1)))
 else
  some (.inr (.go ())))
def Zp (d:(List (List Bound))) (ticks:(List Int)):Option (Bool) :=
 (Z3p d).bind fun x1 =>
 (bif ((!x1) || ((ticks.length:Int) != (d.length:Int))) then
  some false
 else
  (loopO (Zp.s0 d ticks) 0).bind fun (y1:Jx (Unit) (Bool)) =>
  y1.elim (fun r' =>
    some r') fun a10 =>
  some true)
def Z2P.s0 (m:(List (List Bound))) (n:Int) (s1:Int):Option ((Int) ⊕ (Jx (Unit) (Bool))) :=
 (bif (decide (s1 < (m.length:Int))) then
  (at? m s1).bind fun x1 =>
  (bif ((x1.length:Int) != n) then
   some (.inr (.ret false))
  else
   some (.inl (w64 (s1 + 1))))
 else
  some (.inr (.go ())))
def Z2P (m:(List (List Bound))) (n:Int):Option (Bool) :=
 (loopO (Z2P.s0 m n) 0).bind fun (y1:Jx (Unit) (Bool)) =>
 y1.elim (fun r' =>
   some r') fun a2 =>
 some ((m.length:Int) == n)
def Z39.s1 (a:(List (List Bound))) (b:(List (List Bound))) (s1:Int) (s2:Int):Option ((Int) ⊕ (Jx (Unit) (Bool))) :=
 (at? a s1).bind fun x3 =>
 (bif (decide (s2 < (x3.length:Int))) then
  (at? a s1).bind fun x4 =>
  (at? x4 s2).bind fun x5 =>
  (at? b s1).bind fun x6 =>
  (at? x6 s2).bind fun x7 =>
  (bif (!((x5.Inf == x7.Inf) && ((x5.N == x7.N) && true))) then
   some (.inr (.ret false))
  else
   some (.inl (w64 (s2 + 1))))
 else
  some (.inr (.go ())))
def Z39.s0 (a:(List (List Bound))) (b:(List (List Bound))) (s1:Int):Option ((Int) ⊕ (Jx (Unit) (Bool))) :=
 (bif (decide (s1 < (a.length:Int))) then
  (at? a s1).bind fun x1 =>
  (at? b s1).bind fun x2 =>
  (bif ((x1.length:Int) != (x2.length:Int)) then
   some (.inr (.ret false))
  else
   (loopO (Z39.s1 a b s1) 0).bind fun (y2:Jx (Unit) (Bool)) =>
   y2.elim (fun r' =>
     some (.inr (.ret r'))) fun a3 =>
   some (.inl (w64 (s1 + 1))))
 else
  some (.inr (.go ())))
def Z39 (a:(List (List Bound))) (b:(List (List Bound))):Option (Bool) :=
 (bif ((a.length:Int) != (b.length:Int)) then
  some false
 else
  (loopO (Z39.s0 a b) 0).bind fun (y1:Jx (Unit) (Bool)) =>
  y1.elim (fun r' =>
    some r') fun a4 =>
  some true)
def Z27:Bool:=true
def Z0C.s0 (x1:(List (List Bound))) (s1:(List Int)):Option (((List Int)) ⊕ ((List Int))) :=
 (bif (decide ((s1.length:Int) < (x1.length:Int))) then
  (cut? s1 0 (s1.length:Int)).bind fun x5 =>
  (app? 8 x5 [0]).bind fun x6 =>
  some (.inl x6)
 else
  some (.inr s1))
def Z0C.s2 (x1:(List (List Bound))) (x2:(List (List Bound)) × Bool × Int) (s2:Int × (List Int)) (s3:Int × (List Int)):Option ((Int × (List Int)) ⊕ ((List Int))) :=
 (bif (decide (s3.1 < (x1.length:Int))) then
  (
   (
    (at? x2.1 s3.1).bind fun x13 =>
    (at? x13 s2.1).bind fun x14 =>
    (bif (x14.Inf == 0) then
     (at? s3.2 s2.1).bind fun x15 =>
     (at? x2.1 s3.1).bind fun x16 =>
     (at? x16 s2.1).bind fun x17 =>
     (at? s3.2 s2.1).bind fun x18 =>
     some (s3.2.set (s2.1).toNat (iMin x15 x17.N))
    else
     some s3.2)).bind fun (y5:(List Int)) =>
   some y5).bind fun (y4:(List Int)) =>
  some (.inl ((w64 (s3.1 + 1)),y4))
 else
  some (.inr s3.2))
def Z0C.s1 (x1:(List (List Bound))) (x2:(List (List Bound)) × Bool × Int) (s2:Int × (List Int)):Option ((Int × (List Int)) ⊕ ((List Int))) :=
 (bif (decide (s2.1 < (x1.length:Int))) then
  (loopO (Z0C.s2 x1 x2 s2) (0,s2.2)).bind fun (y3:(List Int)) =>
  some (.inl ((w64 (s2.1 + 1)),y3))
 else
  some (.inr s2.2))
def Z0C.s4 (x1:(List (List Bound))) (x2:(List (List Bound)) × Bool × Int) (s4:Int × (List Int)) (s5:Int × (List Int)):Option ((Int × (List Int)) ⊕ ((List Int))) :=
 (bif (decide (s5.1 < (x1.length:Int))) then
  (
   (
    (at? x2.1 s5.1).bind fun x27 =>
    (at? x27 s4.1).bind fun x28 =>
    (bif (x28.Inf == 0) then
     (at? s5.2 s4.1).bind fun x29 =>
     (at? x2.1 s5.1).bind fun x30 =>
     (at? x30 s4.1).bind fun x31 =>
     (at? s5.2 s4.1).bind fun x32 =>
     some (s5.2.set (s4.1).toNat (iMin x29 x31.N))
    else
     some s5.2)).bind fun (y10:(List Int)) =>
   some y10).bind fun (y9:(List Int)) =>
  some (.inl ((w64 (s5.1 + 1)),y9))
 else
  some (.inr s5.2))
def Z0C.s3 (x1:(List (List Bound))) (x2:(List (List Bound)) × Bool × Int) (s4:Int × (List Int)):Option ((Int × (List Int)) ⊕ ((List Int))) :=
 (bif (decide (s4.1 < (x1.length:Int))) then
  (loopO (Z0C.s4 x1 x2 s4) (0,s4.2)).bind fun (y8:(List Int)) =>
  some (.inl ((w64 (s4.1 + 1)),y8))
 else
  some (.inr s4.2))
def Z0C (n:Int) (l:(List epactlaw24_Set)) (ticks:(List Int)):Option (Bool) :=
 (Z59 n l).bind fun x1 =>
 (bif ((x1.length:Int) == 0) then
  some false
 else
  (ZU x1).bind fun x2 =>
  (bif (decide ((ticks.length:Int) < (x1.length:Int))) then
   (cut? ticks 0 (ticks.length:Int)).bind fun x3 =>
   (app? 8 x3 [0]).bind fun x4 =>
   (loopO (Z0C.s0 x1) x4).bind fun (y1:(List Int)) =>
   (cut? y1 0 (x1.length:Int)).bind fun x7 =>
   (Zp x1 x7).bind fun x8 =>
   (bif ((x2.2.2 != 0) || (!x2.2.1)) then
    some ((((x2.2.2 == 0) && (!x8)) && ((x2.1.length:Int) == 0)) && Z27)
   else
    (cut? y1 0 (x1.length:Int)).bind fun x9 =>
    (Zp x2.1 x9).bind fun x10 =>
    (bif (x10 != x8) then
     some false
    else
     (Z2P x2.1 (x1.length:Int)).bind fun x11 =>
     (bif (!x11) then
      some false
     else
      (new? 8 (x1.length:Int) 0).bind fun x12 =>
      (loopO (Z0C.s1 x1 x2) (0,x12)).bind fun (y2:(List Int)) =>
      (Zp x1 y2).bind fun x19 =>
      (
       (bif x19 then
        (Zp x2.1 y2).bind fun x20 =>
        some x20
       else
        some false)).bind fun (y6:Bool) =>
      some (y6 && Z27))))
  else
   (cut? ticks 0 (x1.length:Int)).bind fun x21 =>
   (Zp x1 x21).bind fun x22 =>
   (bif ((x2.2.2 != 0) || (!x2.2.1)) then
    some ((((x2.2.2 == 0) && (!x22)) && ((x2.1.length:Int) == 0)) && Z27)
   else
    (cut? ticks 0 (x1.length:Int)).bind fun x23 =>
    (Zp x2.1 x23).bind fun x24 =>
    (bif (x24 != x22) then
     some false
    else
     (Z2P x2.1 (x1.length:Int)).bind fun x25 =>
     (bif (!x25) then
      some false
     else
      (new? 8 (x1.length:Int) 0).bind fun x26 =>
      (loopO (Z0C.s3 x1 x2) (0,x26)).bind fun (y7:(List Int)) =>
      (Zp x1 y7).bind fun x33 =>
      (
       (bif x33 then
        (Zp x2.1 y7).bind fun x34 =>
        some x34
       else
        some false)).bind fun (y11:Bool) =>
      some (y11 && Z27))))))
def Z4D (d:(List (List Bound))):Option ((List (List Bound)) × Bool × Int) :=
 (bif d.isEmpty then
  some ([],true,0)
 else
  ZU d)
def Zv (a:prop_end) (b:prop_end) (there:prop_end→Option Bool) (more:prop_end→prop_end→Option Bool):Option (prop_end) :=
 (there b).bind fun x1 =>
 (
  (bif x1 then
   (there a).bind fun x2 =>
   (
    (bif (!x2) then
     some true
    else
     (more b a).bind fun x3 =>
     some x3)).bind fun (y2:Bool) =>
   some y2
  else
   some false)).bind fun (y1:Bool) =>
 (bif y1 then
  some b
 else
  some a)
def Z25 (e':prop_end):Bool :=
 e'.there
def Z4U (a:prop_end) (b:prop_end):Bool :=
 (decide (a.n > b.n))
def Z4O (a:prop_end) (b:prop_end):Bool :=
 (decide (a.n < b.n))
def Z3J (a:Range) (b:Range):Option (Range × Bool) :=
 (Zv (prop_end.mk a.Low a.HasLow) (prop_end.mk b.Low b.HasLow) (fun z0 => some (Z25 z0)) (fun z0 z1 => some (Z4U z0 z1))).bind fun x1 =>
 (Zv (prop_end.mk a.High a.HasHigh) (prop_end.mk b.High b.HasHigh) (fun z0 => some (Z25 z0)) (fun z0 z1 => some (Z4O z0 z1))).bind fun x2 =>
 (bif ((x1.there && x2.there) && (decide (x1.n > x2.n))) then
  some ((Range.mk 0 0 false false),false)
 else
  some ((Range.mk x1.n x2.n x1.there x2.there),true))
def Z2s.s0 (n:Int) (s1:Int × (List (List Bound))):Option ((Int × (List (List Bound))) ⊕ ((List (List Bound)))) :=
 (bif (decide (s1.1 < n)) then
  (ZS [(Bound.mk 1 0)] n).bind fun x2 =>
  (at? s1.2 s1.1).bind fun x3 =>
  (at? (s1.2.set (s1.1).toNat x2) s1.1).bind fun x4 =>
  (at? x4 s1.1).bind fun x5 =>
  some (.inl ((w64 (s1.1 + 1)),((s1.2.set (s1.1).toNat x2).set (s1.1).toNat (x4.set (s1.1).toNat (Bound.mk 0 0)))))
 else
  some (.inr s1.2))
def Z2s (n:Int):Option ((List (List Bound)) × Int) :=
 (bif ((decide (n < 0)) || (decide (n > 24))) then
  none
 else
  (new? 24 n []).bind fun x1 =>
  (loopO (Z2s.s0 n) (0,x1)).bind fun (y1:(List (List Bound))) =>
  some (y1,0))
def Z1N.s0 (n:Net) (s1:Int × (List (List Bound))):Option ((Int × (List (List Bound))) ⊕ ((List (List Bound)))) :=
 (bif (decide (s1.1 < (n.Cons.length:Int))) then
  (
   (
    (at? n.Cons s1.1).bind fun x2 =>
    (at? n.Forms x2.Form).bind fun x3 =>
    (Z1g x3 x2.Range).bind fun x4 =>
    (
     (at? s1.2 x2.X).bind fun x5 =>
     (at? x5 x2.Y).bind fun x6 =>
     (bif (Z0O x4.2 x6) then
      (at? s1.2 x2.X).bind fun x7 =>
      (at? x7 x2.Y).bind fun x8 =>
      some (s1.2.set (x2.X).toNat (x7.set (x2.Y).toNat x4.2))
     else
      some s1.2)).bind fun (y4:(List (List Bound))) =>
    (at? y4 x2.Y).bind fun x9 =>
    (at? x9 x2.X).bind fun x10 =>
    (bif (Z0O ((Z8 x4.1).1) x10) then
     (at? y4 x2.Y).bind fun x11 =>
     (at? x11 x2.X).bind fun x12 =>
     some (y4.set (x2.Y).toNat (x11.set (x2.X).toNat ((Z8 x4.1).1)))
    else
     some y4)).bind fun (y3:(List (List Bound))) =>
   some y3).bind fun (y2:(List (List Bound))) =>
  some (.inl ((w64 (s1.1 + 1)),y2))
 else
  some (.inr s1.2))
def Z1N (n:Net):Option ((List (List Bound))) :=
 (Z2s n.Vars).bind fun x1 =>
 (loopO (Z1N.s0 n) (0,x1.1)).bind fun (y1:(List (List Bound))) =>
 some y1
def Z0m (s:(List Con)):Option ((List Con)) :=
 (some? s).bind fun u1 =>
 (app? 48 [] s).bind fun x1 =>
 some x1
def Z4X (n:Net) (c:Con) (d:(List (List Bound))):Option (Range × Bool) :=
 (at? d c.Y).bind fun x1 =>
 (at? x1 c.X).bind fun x2 =>
 (at? n.Forms c.Form).bind fun x3 =>
 (at? d c.X).bind fun x4 =>
 (at? x4 c.Y).bind fun x5 =>
 (Z0l x3 ((Z8 x2).1) x5).bind fun x6 =>
 (bif ((!x6.2.1) || (x6.2.2 != 0)) then
  some ((Range.mk 0 0 false false),false)
 else
  (Z3J c.Range x6.1).bind fun x7 =>
  some (x7.1,x7.2))
def Z04.s0 (n:Net) (s1:Unit):Option ((Unit) ⊕ (Unit)) :=
 (bif (decide (0 < (n.Cons.length:Int))) then
  (at? n.Cons 0).bind fun x3 =>
  none
 else
  some (.inr ()))
def Z04.s1 (n:Net) (x2:(List (List Bound)) × Bool × Int) (x4:(List Con)) (s2:Int × (List Con)):Option ((Int × (List Con)) ⊕ (Jx ((List Con)) (Net × (List (List Bound)) × Bool))) :=
 (bif (decide (s2.1 < (x4.length:Int))) then
  (at? s2.2 s2.1).bind fun x5 =>
  (Z4X (Net.mk n.Vars n.Forms s2.2) x5 x2.1).bind fun x6 =>
  (bif (!x6.2) then
   some (.inr (.ret ((Net.mk 0 [] []),[],false)))
  else
   (at? s2.2 s2.1).bind fun x7 =>
   some (.inl ((w64 (s2.1 + 1)),(s2.2.set (s2.1).toNat (Con.mk x7.X x7.Y x7.Form x6.1)))))
 else
  some (.inr (.go s2.2)))
def Z04 (n:Net):Option (Net × (List (List Bound)) × Bool) :=
 (Z1N n).bind fun x1 =>
 (Z4D x1).bind fun x2 =>
 (bif (!x2.2.1) then
  some ((Net.mk 0 [] []),[],false)
 else
  (bif (n.Cons.isEmpty) then
   (loopO (Z04.s0 n) ()).bind fun (y1:Unit) =>
   some (n,x2.1,true)
  else
   (Z0m n.Cons).bind fun x4 =>
   (loopO (Z04.s1 n x2 x4) (0,x4)).bind fun (y2:Jx ((List Con)) (Net × (List (List Bound)) × Bool)) =>
   y2.elim (fun r' =>
     some r') fun a2 =>
   some ((Net.mk n.Vars n.Forms a2),x2.1,true)))
def Ze.s0 (s1':(List Con)) (s2':(List Con)) (s1:Int):Option ((Int) ⊕ (Jx (Unit) (Bool))) :=
 (bif (decide (s1 < (s1'.length:Int))) then
  (at? s1' s1).bind fun x1 =>
  (at? s2' s1).bind fun x2 =>
  (bif (!((x1.X == x2.X) && ((x1.Y == x2.Y) && ((x1.Form == x2.Form) && (((x1.Range.Low == x2.Range.Low) && ((x1.Range.High == x2.Range.High) && ((x1.Range.HasLow == x2.Range.HasLow) && ((x1.Range.HasHigh == x2.Range.HasHigh) && true)))) && true))))) then
   some (.inr (.ret false))
  else
   some (.inl (w64 (s1 + 1))))
 else
  some (.inr (.go ())))
def Ze (s1':(List Con)) (s2':(List Con)):Option (Bool) :=
 (bif ((s1'.length:Int) != (s2'.length:Int)) then
  some false
 else
  (loopO (Ze.s0 s1' s2') 0).bind fun (y1:Jx (Unit) (Bool)) =>
  y1.elim (fun r' =>
    some r') fun a2 =>
  some true)
def Z0W.s0 (rounds:Int) (s1:Int × Int × (List Form) × (List Con) × (List (List Bound)) × Int):Option ((Int × Int × (List Form) × (List Con) × (List (List Bound)) × Int) ⊕ (Jx (Int × Int × (List Form) × (List Con) × (List (List Bound)) × Int) (Spread × Int))) :=
 (bif ((decide (s1.2.2.2.2.2 < rounds)) && (s1.1 == 3)) then
  (
   (Z04 (Net.mk s1.2.1 s1.2.2.1 s1.2.2.2.1)).bind fun x2 =>
   (bif (!x2.2.2) then
    some (.ret ((Spread.mk 2 (Net.mk 0 [] []) [] (w64 (s1.2.2.2.2.2 + 1))),0))
   else
    (
     (Ze x2.1.Cons s1.2.2.2.1).bind fun x3 =>
     (bif x3 then
      some (1,(w64 (s1.2.2.2.2.2 + 1)))
     else
      some (s1.1,(w64 (s1.2.2.2.2.2 + 1))))).bind fun (y3:Int × Int) =>
    some (.go (y3.1,x2.1.Vars,x2.1.Forms,x2.1.Cons,x2.2.1,y3.2)))).bind fun (y2:Jx (Int × Int × (List Form) × (List Con) × (List (List Bound)) × Int) (Spread × Int)) =>
  y2.elim (fun r' =>
    some (.inr (.ret r'))) fun a3 =>
  some (.inl (a3.1,a3.2.1,a3.2.2.1,a3.2.2.2.1,a3.2.2.2.2.1,a3.2.2.2.2.2))
 else
  some (.inr (.go (s1.1,s1.2.1,s1.2.2.1,s1.2.2.2.1,s1.2.2.2.2.1,s1.2.2.2.2.2))))
def Z0W (n:Net) (rounds:Int):Option (Spread × Int) :=
 (Z1a n).bind fun x1 =>
 (bif (x1 != 0) then
  some ((Spread.mk 0 (Net.mk 0 [] []) [] 0),230)
 else
  (bif ((decide (rounds < 1)) || (decide (rounds > 1000))) then
   some ((Spread.mk 0 (Net.mk 0 [] []) [] 0),2)
  else
   (loopO (Z0W.s0 rounds) (3,n.Vars,n.Forms,n.Cons,[],0)).bind fun (y1:Jx (Int × Int × (List Form) × (List Con) × (List (List Bound)) × Int) (Spread × Int)) =>
   y1.elim (fun r' =>
     some r') fun a4 =>
   some ((Spread.mk a4.1 (Net.mk a4.2.1 a4.2.2.1 a4.2.2.2.1) a4.2.2.2.2.1 a4.2.2.2.2.2),0)))
def prop_Round (n:Net):Option (Net × (List (List Bound)) × Bool × Int) :=
 (Z1a n).bind fun x1 =>
 (bif (x1 != 0) then
  some ((Net.mk 0 [] []),[],false,230)
 else
  (Z04 n).bind fun x2 =>
  some (x2.1,x2.2.1,x2.2.2,0))
def ZL (more:Con):Net :=
 Net.mk 3 [Form.mk 1 1 [[Span.mk 0 0]] [],Form.mk 7 1 [[Span.mk 0 4]] []] [Con.mk 0 1 1 (Range.mk 1 1 true true),Con.mk 1 2 0 (Range.mk 2 3 true true),more]
def ZV (low:Int) (high:Int):Range :=
 (Range.mk low high true true)
def Z2R:Option (Bool) :=
 (Z0W (ZL (Con.mk 0 0 0 (Range.mk 0 0 false false))) 10).bind fun x1 =>
 (Z0W (ZL (Con.mk 0 2 0 (Range.mk 20 0 true false))) 10).bind fun x2 =>
 (at? ((ZL (Con.mk 0 2 1 (Range.mk 0 0 false false))).Cons) 2).bind fun x3 =>
 (Z0W (Net.mk ((ZL (Con.mk 0 2 1 (Range.mk 0 0 false false))).Vars) ((ZL (Con.mk 0 2 1 (Range.mk 0 0 false false))).Forms) [(Con.mk 0 2 0 (ZV 3 10)),x3]) 10).bind fun x4 =>
 (
  (bif (((((((x1.2 != 0) || (x1.1.Kind != 1)) || ((x1.1.Ticks.length:Int) != 3)) || (x2.2 != 0)) || (x2.1.Kind != 2)) || (x4.2 != 0)) || ((x4.1.Net.Cons.length:Int) != 2)) then
   some true
  else
   (at? x1.1.Ticks 0).bind fun x5 =>
   some ((x5.length:Int) != 3))).bind fun (y1:Bool) =>
 (
  (bif y1 then
   some true
  else
   (at? x1.1.Ticks 2).bind fun x6 =>
   some ((x6.length:Int) != 3))).bind fun (y2:Bool) =>
 (bif y2 then
  some false
 else
  (at? x1.1.Ticks 0).bind fun x7 =>
  (at? x7 2).bind fun x8 =>
  (
   (bif ((x8.Inf == 0) && ((x8.N == 14) && true)) then
    (at? x1.1.Ticks 2).bind fun x9 =>
    (at? x9 0).bind fun x10 =>
    some ((x10.Inf == 0) && ((x10.N == (-5)) && true))
   else
    some false)).bind fun (y3:Bool) =>
  (
   (bif y3 then
    (at? x4.1.Net.Cons 1).bind fun x11 =>
    some ((x11.Range.Low == ((ZV 0 2).Low)) && ((x11.Range.High == ((ZV 0 2).High)) && ((x11.Range.HasLow == ((ZV 0 2).HasLow)) && ((x11.Range.HasHigh == ((ZV 0 2).HasHigh)) && true))))
   else
    some false)).bind fun (y4:Bool) =>
  some y4)
def Zz:Bool:=true
def Z6i.s0 (n:Net) (x7:(List Con)) (s1:Int):Option ((Int) ⊕ (Jx (Unit) (Bool))) :=
 (bif (decide (s1 < (x7.length:Int))) then
  (at? n.Cons s1).bind fun x10 =>
  (at? x7 s1).bind fun x11 =>
  (bif (!((x10.X == x11.X) && ((x10.Y == x11.Y) && ((x10.Form == x11.Form) && (((x10.Range.Low == x11.Range.Low) && ((x10.Range.High == x11.Range.High) && ((x10.Range.HasLow == x11.Range.HasLow) && ((x10.Range.HasHigh == x11.Range.HasHigh) && true)))) && true))))) then
   some (.inr (.ret false))
  else
   some (.inl (w64 (s1 + 1))))
 else
  some (.inr (.go ())))
def Z6i (n:Net) (rounds:Int) (a:Range) (b:Range):Option (Bool) :=
 (Z3J a b).bind fun x1 =>
 (Z3J b a).bind fun x2 =>
 (bif (((((a.HasLow || (a.Low == 0)) && (b.HasLow || (b.Low == 0))) && (a.HasHigh || (a.High == 0))) && (b.HasHigh || (b.High == 0))) && ((!((x1.1.Low == x2.1.Low) && ((x1.1.High == x2.1.High) && ((x1.1.HasLow == x2.1.HasLow) && ((x1.1.HasHigh == x2.1.HasHigh) && true))))) || (x1.2 != x2.2))) then
  some false
 else
  (Z1a n).bind fun x3 =>
  (bif ((((x3 != 0) && (decide (n.Vars≤30))) && (decide ((n.Cons.length:Int)≤300))) && (decide ((n.Forms.length:Int)≤30))) then
   (Z0W n 1).bind fun x4 =>
   (prop_Round n).bind fun x5 =>
   some (((x4.2 == 230) && (x5.2.2.2 == 230)) && Zz)
  else
   (Zq n).bind fun x6 =>
   (bif (!x6) then
    some Zz
   else
    (app? 48 [] n.Cons).bind fun x7 =>
    (Z0W n (iMin rounds 30)).bind fun x8 =>
    (Z0W n (iMax rounds 1001)).bind fun x9 =>
    (loopO (Z6i.s0 n x7) 0).bind fun (y1:Jx (Unit) (Bool)) =>
    y1.elim (fun r' =>
      some r') fun a2 =>
    some ((((x8.2 == 0) == (decide (rounds ≥ 1))) && (x9.2 == 2)) && Zz))))
def Z9n (a:Range) (b:Range):Bool :=
 (((!b.HasLow) || (a.HasLow && (decide (a.Low ≥ b.Low)))) && ((!b.HasHigh) || (a.HasHigh && (decide (a.High≤b.High)))))
def Z33.s0 (a:Spread) (b:Spread) (s1:Int):Option ((Int) ⊕ (Jx (Unit) (Bool))) :=
 (bif (decide (s1 < (a.Net.Cons.length:Int))) then
  (at? a.Net.Cons s1).bind fun x2 =>
  (at? b.Net.Cons s1).bind fun x3 =>
  (bif (!((x2.X == x3.X) && ((x2.Y == x3.Y) && ((x2.Form == x3.Form) && (((x2.Range.Low == x3.Range.Low) && ((x2.Range.High == x3.Range.High) && ((x2.Range.HasLow == x3.Range.HasLow) && ((x2.Range.HasHigh == x3.Range.HasHigh) && true)))) && true))))) then
   some (.inr (.ret false))
  else
   some (.inl (w64 (s1 + 1))))
 else
  some (.inr (.go ())))
def Z33 (a:Spread) (b:Spread):Option (Bool) :=
 (
  (bif ((a.Net.Cons.length:Int) != (b.Net.Cons.length:Int)) then
   some true
  else
   (Z39 a.Ticks b.Ticks).bind fun x1 =>
   some (!x1))).bind fun (y1:Bool) =>
 (bif y1 then
  some false
 else
  (loopO (Z33.s0 a b) 0).bind fun (y2:Jx (Unit) (Bool)) =>
  y2.elim (fun r' =>
    some r') fun a2 =>
  some true)
def Z4u.s0 (n:Net) (first:Int) (more:Int) (x2:Spread × Int) (s1:Int):Option ((Int) ⊕ (Jx (Int × Int) (Bool))) :=
 (bif (decide (s1 < (x2.1.Net.Cons.length:Int))) then
  (at? x2.1.Net.Cons s1).bind fun x4 =>
  (
   (bif (decide (s1 ≥ (n.Cons.length:Int))) then
    some true
   else
    (at? n.Cons s1).bind fun x5 =>
    some (!(Z9n x4.Range x5.Range)))).bind fun (y2:Bool) =>
  (bif y2 then
   some (.inr (.ret false))
  else
   some (.inl (w64 (s1 + 1))))
 else
  some (.inr (.go ((w64 (1 + (w64 (first.tmod 8)))),(w64 (1 + (w64 (more.tmod 8))))))))
def Z4u (n:Net) (first:Int) (more:Int):Option (Bool) :=
 (Zq n).bind fun x1 =>
 (bif (!x1) then
  some Zz
 else
  (Z0W n (w64 (1 + (w64 (first.tmod 8))))).bind fun x2 =>
  (Z0W n (w64 ((w64 (1 + (w64 (first.tmod 8)))) + (w64 (1 + (w64 (more.tmod 8))))))).bind fun x3 =>
  (bif ((x2.2 != 0) || (x3.2 != 0)) then
   some false
  else
   (bif (x2.1.Kind == 2) then
    some (((x3.1.Kind == 2) && (x3.1.Rounds == x2.1.Rounds)) && Zz)
   else
    (loopO (Z4u.s0 n first more x2) 0).bind fun (y1:Jx (Int × Int) (Bool)) =>
    y1.elim (fun r' =>
      some r') fun a2 =>
    (Z0W x2.1.Net a2.2).bind fun x6 =>
    (bif ((x6.2 != 0) || ((x2.1.Net.Cons.length:Int) != (n.Cons.length:Int))) then
     some false
    else
     (bif (x2.1.Kind == 1) then
      (
       (bif ((x6.1.Kind == 1) && (x6.1.Rounds == 1)) then
        (Z33 x6.1 x2.1).bind fun x7 =>
        some x7
       else
        some false)).bind fun (y3:Bool) =>
      (
       (bif y3 then
        (Z33 x3.1 x2.1).bind fun x8 =>
        some x8
       else
        some false)).bind fun (y4:Bool) =>
      some ((y4 && (x3.1.Rounds == x2.1.Rounds)) && Zz)
     else
      (bif ((x6.1.Kind != x3.1.Kind) || ((w64 (x6.1.Rounds + a2.1)) != x3.1.Rounds)) then
       some false
      else
       (
        (bif (x6.1.Kind == 2) then
         some true
        else
         (Z33 x6.1 x3.1).bind fun x9 =>
         some x9)).bind fun (y5:Bool) =>
       some (y5 && Zz)))))))
def Z2t (n:Net) (ticks:(List Int)):Option ((List Int)) :=
 (new? 8 n.Vars 0).bind fun x1 =>
 some (cpy x1 ticks)
def Z2S (n:Net) (ticks:(List Int)) (rounds:Int):Option (Bool) :=
 (Zq n).bind fun x1 =>
 (bif (!x1) then
  some Zz
 else
  (Z2t n ticks).bind fun x2 =>
  (Z09 n x2).bind fun x3 =>
  (Z0W n (w64 (1 + (w64 (rounds.tmod 20))))).bind fun x4 =>
  (bif (((x4.2 != 0) || (decide (x4.1.Rounds < 1))) || (decide (x4.1.Rounds > (w64 (1 + (w64 (rounds.tmod 20))))))) then
   some false
  else
   (bif (x4.1.Kind == 2) then
    some (((!x3) && ((x4.1.Ticks.length:Int) == 0)) && Zz)
   else
    (Z1a x4.1.Net).bind fun x5 =>
    (
     (bif (x5 != 0) then
      some true
     else
      (Z09 x4.1.Net x2).bind fun x6 =>
      some (x6 != x3))).bind fun (y1:Bool) =>
    (bif y1 then
     some false
    else
     (
      (bif (!x3) then
       some true
      else
       (Zp x4.1.Ticks x2).bind fun x7 =>
       some x7)).bind fun (y2:Bool) =>
     some ((y2 && ((x4.1.Kind == 1) || ((x4.1.Kind == 3) && (x4.1.Rounds == (w64 (1 + (w64 (rounds.tmod 20)))))))) && Zz)))))
end
end Go.Dn

namespace Go.Dn
open Go
noncomputable section
def Le {α:Type} (a b:Option α):Prop:=∀ r,a = some r→b = some r
theorem Le.refl {α:Type} (a:Option α):Le a a:=fun _ h => h
theorem Le.bind {α β:Type} {a b:Option α} {f g:α→Option β} (h:Le a b) (hf:∀ x,Le (f x) (g x)):Le (a.bind f) (b.bind g):=fun r hr => by
 cases ha:a with
 | none => rw [ha] at hr;cases hr
 | some x => rw [ha] at hr;rw [h x ha];exact hf x r hr
theorem Le.cond {α:Type} {c:Bool} {a b a' b':Option α} (h:Le a a') (h':Le b b'):Le (bif c then a else b) (bif c then a' else b'):=by
 cases c
 ·exact h'
 ·exact h
theorem Le.elim {A B C:Type} {y:Jx A B} {f f':B→Option C} {g g':A→Option C} (h:∀ r,Le (f r) (f' r)) (h':∀ a,Le (g a) (g' a)):Le (y.elim f g) (y.elim f' g'):=by
 cases y
 ·exact h' _
 ·exact h _
theorem Le.Z3K {S T:Type} {f g:S→T→Option (S × Nat)} (h:∀ s t,Le (f s t) (g s t)) (s:S × Nat) (t:T):Le (Z3K f s t) (Z3K g s t):=fun r hr => by
 unfold Go.Dn.Z3K at hr ⊢
 split at hr
 ·rename_i h0;rw [if_pos h0];cases ha:f s.1 t with
  | none => rw [ha] at hr;cases hr
  | some x => rw [ha] at hr;rw [h _ _ x ha];exact hr
 ·cases hr
def Z0q {S R:Type} (step:S→Option (S ⊕ R)) (s:S):Option R:=Z53 step 1000000 s
theorem iterO_le {S R:Type} {step step':S→Option (S ⊕ R)} (h:∀ s,Le (step s) (step' s)):∀ (n:Nat) (s:S),Le (Z53 step n s) (Z53 step' n s)
 | 0,s => fun r hr => by cases hr
 | n + 1,s => fun r hr => by
  simp only [Z53] at hr ⊢;cases hs:step s with
  | none => rw [hs] at hr;cases hr
  | some x =>
   rw [hs] at hr;rw [h s x hs];cases x with
   | inl s' => exact iterO_le h n s' r hr
   | inr r' => exact hr
theorem Le.loop {S R:Type} {step step':S→Option (S ⊕ R)} {s:S} (h:∀ s,Le (step s) (step' s)):Le (Z0q step s) (loopO step' s):=fun r hr => ZW.2 ⟨1000000,iterO_le h _ s r hr⟩
def Z8L (f:Form):Option (Int) :=
 (Z0q (Z0M.s0 f) (0,0)).bind fun (y1:Int) =>
 (Z0q (Z0M.s1 f) (y1,0)).bind fun (y2:Int) =>
 some y2
theorem ZER {f:Form}:Le (Z8L f) (Z0M f):=by
 unfold Z8L Z0M
 repeat' (with_reducible (first | exact Le.refl _ | apply Le.bind | apply Le.loop | intro _))
def Z4x (l:(List Span)):Option (Bool) :=
 (Z0q (Z0Q.s0 l) 0).bind fun (y1:Jx (Unit) (Bool)) =>
 y1.elim (fun r' =>
   some r') fun a2 =>
 some true
theorem Z7c {l:(List Span)}:Le (Z4x l) (Z0Q l):=by
 unfold Z4x Z0Q
 repeat' (with_reducible (first | exact Le.refl _ | apply Le.bind | apply Le.elim | apply Le.loop | intro _))
def Z16.s0 (f:Form) (s1:Int):Option ((Int) ⊕ (Jx (Unit) (Bool))) :=
 (bif (decide (s1 < (f.Core.length:Int))) then
  (at? f.Core s1).bind fun x1 =>
  (Z4x x1).bind fun x2 =>
  (bif (!x2) then
   some (.inr (.ret false))
  else
   some (.inl (w64 (s1 + 1))))
 else
  some (.inr (.go ())))
theorem ZAG {f:Form} {s1:Int}:Le (Z16.s0 f s1) (Zs.s0 f s1):=by
 unfold Z16.s0 Zs.s0
 repeat' (with_reducible (first | exact Le.refl _ | apply Le.bind | apply Le.cond | apply Z7c | intro _))
def Z16.s1 (f:Form) (s2:Int):Option ((Int) ⊕ (Jx (Unit) (Bool))) :=
 (bif (decide (s2 < (f.Odd.length:Int))) then
  (at? f.Odd s2).bind fun x3 =>
  (Z4x x3.Ticks).bind fun x4 =>
  (
   (bif ((!x4) || (!(Z1L x3.Index))) then
    some true
   else
    (
     (bif (decide (s2 > 0)) then
      (at? f.Odd (w64 (s2 - 1))).bind fun x5 =>
      some (decide (x3.Index≤x5.Index))
     else
      some false)).bind fun (y4:Bool) =>
    some y4)).bind fun (y3:Bool) =>
  (bif y3 then
   some (.inr (.ret false))
  else
   some (.inl (w64 (s2 + 1))))
 else
  some (.inr (.go ())))
theorem ZAg {f:Form} {s2:Int}:Le (Z16.s1 f s2) (Zs.s1 f s2):=by
 unfold Z16.s1 Zs.s1
 repeat' (with_reducible (first | exact Le.refl _ | apply Le.bind | apply Le.cond | apply Z7c | intro _))
def Z16 (f:Form):Option (Bool) :=
 (bif ((((f.Count != (f.Core.length:Int)) || ((f.Count == 0) != (f.Period == 0))) || (decide (f.Period < 0))) || (decide (f.Period > 1099511627776))) then
  some false
 else
  (Z0q (Z16.s0 f) 0).bind fun (y1:Jx (Unit) (Bool)) =>
  y1.elim (fun r' =>
    some r') fun a2 =>
  (Z0q (Z16.s1 f) 0).bind fun (y2:Jx (Unit) (Bool)) =>
  y2.elim (fun r' =>
    some r') fun a4 =>
  some true)
theorem ZDB {f:Form}:Le (Z16 f) (Zs f):=by
 unfold Z16 Zs
 repeat' (with_reducible (first | exact Le.refl _ | apply Le.bind | apply Le.cond | apply Le.elim | apply Le.loop | apply ZAG | apply ZAg | intro _))
def Z7Y (f:Form):Option (Bool) :=
 (Z0q (Z0Y.s0 f) (0,[])).bind fun (y1:(List (List Span))) =>
 (Z0q (Z0Y.s1 f y1) 0).bind fun (y4:Jx (Unit) (Bool)) =>
 y4.elim (fun r' =>
   some r') fun a6 =>
 some true
theorem ZCx {f:Form}:Le (Z7Y f) (Z0Y f):=by
 unfold Z7Y Z0Y
 repeat' (with_reducible (first | exact Le.refl _ | apply Le.bind | apply Le.elim | apply Le.loop | intro _))
def ZH.s0 (x':(List Granule)) (target:Int) (cmp:Granule→Int→Option Int) (s1:Int × Int):Option ((Int × Int) ⊕ (Int)) :=
 (bif (decide (s1.1 < s1.2)) then
  (
   (at? x' (w64 ((IntKind.u64.wrap (w64 (s1.1 + s1.2))).fdiv (2 ^ 1)))).bind fun x1 =>
   (cmp x1 target).bind fun x2 =>
   (bif (decide (x2 < 0)) then
    some ((w64 ((w64 ((IntKind.u64.wrap (w64 (s1.1 + s1.2))).fdiv (2 ^ 1))) + 1)),s1.2)
   else
    some (s1.1,(w64 ((IntKind.u64.wrap (w64 (s1.1 + s1.2))).fdiv (2 ^ 1)))))).bind fun (y2:Int × Int) =>
  some (.inl (y2.1,y2.2))
 else
  some (.inr s1.1))
theorem Z20 {x':(List Granule)} {target:Int} {cmp cmp_:Granule→Int→Option Int} {s1:Int × Int} (h_cmp:∀ z0 z1,Le (cmp z0 z1) (cmp_ z0 z1)):Le (ZH.s0 x' target cmp s1) (Z1.s0 x' target cmp_ s1):=by
 unfold ZH.s0 Z1.s0
 repeat' (with_reducible (first | exact Le.refl _ | exact h_cmp _ _ | exact h_cmp | apply Le.bind | apply Le.cond | intro _))
def ZH (x':(List Granule)) (target:Int) (cmp:Granule→Int→Option Int):Option (Int × Bool) :=
 (Z0q (ZH.s0 x' target cmp) (0,(x'.length:Int))).bind fun (y1:Int) =>
 (
  (bif (decide (y1 < (x'.length:Int))) then
   (at? x' y1).bind fun x3 =>
   (cmp x3 target).bind fun x4 =>
   some (x4 == 0)
  else
   some false)).bind fun (y3:Bool) =>
 some (y1,y3)
theorem Z0u {x':(List Granule)} {target:Int} {cmp cmp_:Granule→Int→Option Int} (h_cmp:∀ z0 z1,Le (cmp z0 z1) (cmp_ z0 z1)):Le (ZH x' target cmp) (Z1 x' target cmp_):=by
 unfold ZH Z1
 repeat' (with_reducible (first | exact Le.refl _ | exact h_cmp _ _ | exact h_cmp | apply Le.bind | apply Le.cond | apply Le.loop | apply Z20 | intro _))
def Z77 (f:Form) (i:Int):Option (Int × Bool) :=
 (ZH f.Odd i (fun z0 z1 => some (Z4E z0 z1))).bind fun x1 =>
 some (x1.1,x1.2)
theorem ZA0 {f:Form} {i:Int}:Le (Z77 f i) (Z5n f i):=by
 unfold Z77 Z5n
 repeat' (with_reducible (first | exact Le.refl _ | apply Le.bind | apply Z0u | intro _))
def Z64 (f:Form) (i:Int):Option ((List Span) × Int × Int) :=
 (Z77 f i).bind fun x1 =>
 (bif x1.2 then
  (at? f.Odd x1.1).bind fun x2 =>
  some (x2.Ticks,0,0)
 else
  (bif (f.Count == 0) then
   some ([],0,0)
  else
   (Z19 i f.Count).bind fun x3 =>
   (at? f.Core x3.2.1).bind fun x4 =>
   some (x4,(Z42 x3.1 f.Period).1,(Z42 x3.1 f.Period).2)))
theorem Z8z {f:Form} {i:Int}:Le (Z64 f i) (Z3G f i):=by
 unfold Z64 Z3G
 repeat' (with_reducible (first | exact Le.refl _ | apply Le.bind | apply Le.cond | apply ZA0 | intro _))
def Z7R (l:(List Span)) (by':Int):Option ((List Span) × Int) :=
 (Z0q (Z0d.s0 l by') (0,[])).bind fun (y1:Jx ((List Span)) ((List Span) × Int)) =>
 y1.elim (fun r' =>
   some r') fun a2 =>
 some (a2,0)
theorem ZCt {l:(List Span)} {by':Int}:Le (Z7R l by') (Z0d l by'):=by
 unfold Z7R Z0d
 repeat' (with_reducible (first | exact Le.refl _ | apply Le.bind | apply Le.elim | apply Le.loop | intro _))
def Z4W (f:Form) (i:Int):Option ((List Span) × Int) :=
 (bif (!(Z1L i)) then
  some ([],20)
 else
  (Z64 f i).bind fun x1 =>
  (bif ((x1.1.length:Int) == 0) then
   some ([],0)
  else
   (bif (x1.2.2 != 0) then
    some ([],20)
   else
    (Z7R x1.1 x1.2.1).bind fun x2 =>
    some (x2.1,x2.2))))
theorem Z9v {f:Form} {i:Int}:Le (Z4W f i) (Z0g f i):=by
 unfold Z4W Z0g
 repeat' (with_reducible (first | exact Le.refl _ | apply Le.bind | apply Le.cond | apply Z8z | apply ZCt | intro _))
def Zl.s0 (s:(List (List Span))) (f:(List Span)→Option Bool) (s1:Int):Option ((Int) ⊕ (Jx (Unit) (Int))) :=
 (bif (decide (s1 < (s.length:Int))) then
  (at? s s1).bind fun x1 =>
  (f x1).bind fun x2 =>
  (bif x2 then
   some (.inr (.ret s1))
  else
   some (.inl (w64 (s1 + 1))))
 else
  some (.inr (.go ())))
theorem Z3k {s:(List (List Span))} {f f_:(List Span)→Option Bool} {s1:Int} (h_f:∀ z0,Le (f z0) (f_ z0)):Le (Zl.s0 s f s1) (ZD.s0 s f_ s1):=by
 unfold Zl.s0 ZD.s0
 repeat' (with_reducible (first | exact Le.refl _ | exact h_f _ | exact h_f | apply Le.bind | apply Le.cond | intro _))
def Zl (s:(List (List Span))) (f:(List Span)→Option Bool):Option (Int) :=
 (Z0q (Zl.s0 s f) 0).bind fun (y1:Jx (Unit) (Int)) =>
 y1.elim (fun r' =>
   some r') fun a2 =>
 some (-1)
theorem Z4J {s:(List (List Span))} {f f_:(List Span)→Option Bool} (h_f:∀ z0,Le (f z0) (f_ z0)):Le (Zl s f) (ZD s f_):=by
 unfold Zl ZD
 repeat' (with_reducible (first | exact Le.refl _ | exact h_f _ | exact h_f | apply Le.bind | apply Le.elim | apply Le.loop | apply Z3k | intro _))
def Z0Z (s:(List (List Span))) (f:(List Span)→Option Bool):Option (Bool) :=
 (Zl s f).bind fun x1 =>
 some (decide (x1 ≥ 0))
theorem Z1l {s:(List (List Span))} {f f_:(List Span)→Option Bool} (h_f:∀ z0,Le (f z0) (f_ z0)):Le (Z0Z s f) (Zg s f_):=by
 unfold Z0Z Zg
 repeat' (with_reducible (first | exact Le.refl _ | exact h_f _ | exact h_f | apply Le.bind | apply Z4J | intro _))
def Z8a (f:Form):Option (Bool) :=
 (Z0Z f.Core (fun z0 => some (Z5h z0))).bind fun x1 =>
 some (!x1)
theorem ZDY {f:Form}:Le (Z8a f) (Z3h f):=by
 unfold Z8a Z3h
 repeat' (with_reducible (first | exact Le.refl _ | apply Le.bind | apply Z1l | intro _))
def Z84 (f:Form) (i:Int):Option (Bool) :=
 (Z64 f i).bind fun x1 =>
 some (decide ((x1.1.length:Int) > 0))
theorem ZED {f:Form} {i:Int}:Le (Z84 f i) (Z5F f i):=by
 unfold Z84 Z5F
 repeat' (with_reducible (first | exact Le.refl _ | apply Le.bind | apply Z8z | intro _))
def Z2V.s1 (f:Form) (by':Int) (s2:Int):Option ((Int) ⊕ (Jx (Unit) (Int × Bool))) :=
 (bif (Z1L s2) then
  (Z84 f s2).bind fun x5 =>
  (bif x5 then
   some (.inr (.ret (s2,true)))
  else
   some (.inl (w64 (s2 + by'))))
 else
  some (.inr (.go ())))
theorem ZAt {f:Form} {by':Int} {s2:Int}:Le (Z2V.s1 f by' s2) (Z07.s1 f by' s2):=by
 unfold Z2V.s1 Z07.s1
 repeat' (with_reducible (first | exact Le.refl _ | apply Le.bind | apply Le.cond | apply ZED | intro _))
def Z2V (f:Form) (from':Int) (by':Int):Option (Int × Bool) :=
 (Z8a f).bind fun x1 =>
 (bif x1 then
  (Z77 f from').bind fun x2 =>
  (
   (bif ((decide (by' < 0)) && (!x2.2)) then
    some (w64 (x2.1 - 1))
   else
    some x2.1)).bind fun (y1:Int) =>
  (Z0q (Z07.s0 f by') y1).bind fun (y2:Jx (Unit) (Int × Bool)) =>
  y2.elim (fun r' =>
    some r') fun a2 =>
  some (0,false)
 else
  (Z0q (Z2V.s1 f by') from').bind fun (y3:Jx (Unit) (Int × Bool)) =>
  y3.elim (fun r' =>
    some r') fun a4 =>
  some (0,false))
theorem Z97 {f:Form} {from':Int} {by':Int}:Le (Z2V f from' by') (Z07 f from' by'):=by
 unfold Z2V Z07
 repeat' (with_reducible (first | exact Le.refl _ | apply Le.bind | apply Le.cond | apply Le.elim | apply Le.loop | apply ZDY | apply ZA0 | apply ZAt | intro _))
def Z6R (f:Form) (i:Int):Option (Int × Bool) :=
 (bif (decide (i≤(-1099511627776))) then
  some (0,false)
 else
  (Z2V f (iMin (w64 (i - 1)) 1099511627776) (-1)).bind fun x1 =>
  some (x1.1,x1.2))
theorem ZBe {f:Form} {i:Int}:Le (Z6R f i) (Z23 f i):=by
 unfold Z6R Z23
 repeat' (with_reducible (first | exact Le.refl _ | apply Le.bind | apply Le.cond | apply Z97 | intro _))
def Z6f (f:Form) (i:Int):Option (Int × Bool) :=
 (bif (decide (i ≥ 1099511627776)) then
  some (0,false)
 else
  (Z2V f (iMax (w64 (i + 1)) (-1099511627776)) 1).bind fun x1 =>
  some (x1.1,x1.2))
theorem ZBy {f:Form} {i:Int}:Le (Z6f f i) (Z1j f i):=by
 unfold Z6f Z1j
 repeat' (with_reducible (first | exact Le.refl _ | apply Le.bind | apply Le.cond | apply Z97 | intro _))
def Z6d (f:Form) (i:Int):Option (Bool) :=
 (Z4W f i).bind fun x1 =>
 (bif (x1.2 != 0) then
  some false
 else
  (Z6R f i).bind fun x2 =>
  (Z6f f i).bind fun x3 =>
  (
   (bif x2.2 then
    (Z4W f x2.1).bind fun x4 =>
    (bif (x4.2 != 0) then
     some (.ret false)
    else
     some (.go x4.1))
   else
    some (.go []))).bind fun (y1:Jx ((List Span)) (Bool)) =>
  y1.elim (fun r' =>
    some r') fun a2 =>
  (
   (bif x3.2 then
    (Z4W f x3.1).bind fun x5 =>
    (bif (x5.2 != 0) then
     some (.ret false)
    else
     some (.go x5.1))
   else
    some (.go []))).bind fun (y2:Jx ((List Span)) (Bool)) =>
  y2.elim (fun r' =>
    some r') fun a4 =>
  (Z11 a2 x1.1).bind fun x6 =>
  (
   (bif x6 then
    (Z11 x1.1 a4).bind fun x7 =>
    some x7
   else
    some false)).bind fun (y3:Bool) =>
  (
   (bif y3 then
    (Z11 a2 a4).bind fun x8 =>
    some x8
   else
    some false)).bind fun (y4:Bool) =>
  some y4)
theorem ZC3 {f:Form} {i:Int}:Le (Z6d f i) (Z2X f i):=by
 unfold Z6d Z2X
 repeat' (with_reducible (first | exact Le.refl _ | apply Le.bind | apply Le.cond | apply Le.elim | apply Z9v | apply ZBe | apply ZBy | intro _))
def Z2b.s0 (f:Form) (s1:Int):Option ((Int) ⊕ (Jx (Unit) (Int))) :=
 (bif (decide (s1 < (f.Odd.length:Int))) then
  (at? f.Odd s1).bind fun x4 =>
  (Z6d f x4.Index).bind fun x5 =>
  (bif (!x5) then
   some (.inr (.ret 50))
  else
   some (.inl (w64 (s1 + 1))))
 else
  some (.inr (.go ())))
theorem ZAQ {f:Form} {s1:Int}:Le (Z2b.s0 f s1) (Zm.s0 f s1):=by
 unfold Z2b.s0 Zm.s0
 repeat' (with_reducible (first | exact Le.refl _ | apply Le.bind | apply Le.cond | apply ZC3 | intro _))
def Z2b (f:Form):Option (Int) :=
 (
  (bif ((decide ((f.Core.length:Int) > 6000)) || (decide ((f.Odd.length:Int) > 6000))) then
   some true
  else
   (Z8L f).bind fun x1 =>
   some (decide (x1 > 60000)))).bind fun (y1:Bool) =>
 (bif y1 then
  some 3
 else
  (Z16 f).bind fun x2 =>
  (
   (bif (!x2) then
    some true
   else
    (Z7Y f).bind fun x3 =>
    some (!x3))).bind fun (y2:Bool) =>
  (bif y2 then
   some 50
  else
   (Z0q (Z2b.s0 f) 0).bind fun (y3:Jx (Unit) (Int)) =>
   y3.elim (fun r' =>
     some r') fun a2 =>
   some 0))
theorem ZCr {f:Form}:Le (Z2b f) (Zm f):=by
 unfold Z2b Zm
 repeat' (with_reducible (first | exact Le.refl _ | apply Le.bind | apply Le.cond | apply Le.elim | apply Le.loop | apply ZER | apply ZDB | apply ZCx | apply ZAQ | intro _))
def Z2D (s1':(List Span)) (s2':(List Span)):Option (Bool) :=
 (bif ((s1'.length:Int) != (s2'.length:Int)) then
  some false
 else
  (Z0q (Zd.s0 s1' s2') 0).bind fun (y1:Jx (Unit) (Bool)) =>
  y1.elim (fun r' =>
    some r') fun a2 =>
  some true)
theorem Z5w {s1':(List Span)} {s2':(List Span)}:Le (Z2D s1' s2') (Zd s1' s2'):=by
 unfold Z2D Zd
 repeat' (with_reducible (first | exact Le.refl _ | apply Le.bind | apply Le.cond | apply Le.elim | apply Le.loop | intro _))
def Z7K (a:(List Span)) (b:(List Span)):Option (Bool) :=
 (Z2D a b).bind fun x1 =>
 some x1
theorem ZCy {a:(List Span)} {b:(List Span)}:Le (Z7K a b) (Z1d a b):=by
 unfold Z7K Z1d
 repeat' (with_reducible (first | exact Le.refl _ | apply Le.bind | apply Z5w | intro _))
def ZY.s0 (s1':(List Span)) (s2':(List Span)) (eq:Span→Span→Option Bool) (s1:Int):Option ((Int) ⊕ (Jx (Unit) (Bool))) :=
 (bif (decide (s1 < (s1'.length:Int))) then
  (at? s1' s1).bind fun x1 =>
  (at? s2' s1).bind fun x2 =>
  (eq x1 x2).bind fun x3 =>
  (bif (!x3) then
   some (.inr (.ret false))
  else
   some (.inl (w64 (s1 + 1))))
 else
  some (.inr (.go ())))
theorem Z2i {s1':(List Span)} {s2':(List Span)} {eq eq_:Span→Span→Option Bool} {s1:Int} (h_eq:∀ z0 z1,Le (eq z0 z1) (eq_ z0 z1)):Le (ZY.s0 s1' s2' eq s1) (ZA.s0 s1' s2' eq_ s1):=by
 unfold ZY.s0 ZA.s0
 repeat' (with_reducible (first | exact Le.refl _ | exact h_eq _ _ | exact h_eq | apply Le.bind | apply Le.cond | intro _))
def ZY (s1':(List Span)) (s2':(List Span)) (eq:Span→Span→Option Bool):Option (Bool) :=
 (bif ((s1'.length:Int) != (s2'.length:Int)) then
  some false
 else
  (Z0q (ZY.s0 s1' s2' eq) 0).bind fun (y1:Jx (Unit) (Bool)) =>
  y1.elim (fun r' =>
    some r') fun a2 =>
  some true)
theorem Z2w {s1':(List Span)} {s2':(List Span)} {eq eq_:Span→Span→Option Bool} (h_eq:∀ z0 z1,Le (eq z0 z1) (eq_ z0 z1)):Le (ZY s1' s2' eq) (ZA s1' s2' eq_):=by
 unfold ZY ZA
 repeat' (with_reducible (first | exact Le.refl _ | exact h_eq _ _ | exact h_eq | apply Le.bind | apply Le.cond | apply Le.elim | apply Le.loop | apply Z2i | intro _))
def Z7I (f:Form):Option (Bool) :=
 (Z0Z f.Core (fun z0 => some (Z6D z0))).bind fun x1 =>
 some (!x1)
theorem ZCq {f:Form}:Le (Z7I f) (Z4G f):=by
 unfold Z7I Z4G
 repeat' (with_reducible (first | exact Le.refl _ | apply Le.bind | apply Z1l | intro _))
def Z0y.s0 (p1':Int) {S:Type} (yield:S→Int→Option (S × Bool)) (s1:Int × S):Option ((Int × S) ⊕ (Jx (S) (S))) :=
 (bif (decide (s1.1≤p1')) then
  (nz? s1.1).bind fun u1 =>
  (
   (bif ((p1'.tmod s1.1) == 0) then
    (yield s1.2 s1.1).bind fun x1 =>
    some ((!x1.2),x1.1)
   else
    some (false,s1.2))).bind fun (y2:Bool × S) =>
  (bif y2.1 then
   some (.inr (.ret y2.2))
  else
   some (.inl ((w64 (s1.1 + 1)),y2.2)))
 else
  some (.inr (.go s1.2)))
theorem Z7N {p1':Int} {S:Type} {yield yield_:S→Int→Option (S × Bool)} {s1:Int × S} (h_yield:∀ z0 z1,Le (yield z0 z1) (yield_ z0 z1)):Le (Z0y.s0 p1' yield s1) (Z08.s0 p1' yield_ s1):=by
 unfold Z0y.s0 Z08.s0
 repeat' (with_reducible (first | exact Le.refl _ | exact h_yield _ _ | exact h_yield | apply Le.bind | apply Le.cond | intro _))
def Z0y {S:Type} (p1':Int) (yield:S→Int→Option (S × Bool)) (st':S):Option (S) :=
 (Z0q (Z0y.s0 p1' yield) (1,st')).bind fun (y1:Jx (S) (S)) =>
 y1.elim (fun r' =>
   some r') fun a2 =>
 some a2
theorem Z8i {S:Type} {p1':Int} {yield yield_:S→Int→Option (S × Bool)} {st':S} (h_yield:∀ z0 z1,Le (yield z0 z1) (yield_ z0 z1)):Le (Z0y p1' yield st') (Z08 p1' yield_ st'):=by
 unfold Z0y Z08
 repeat' (with_reducible (first | exact Le.refl _ | exact h_yield _ _ | exact h_yield | apply Le.bind | apply Le.elim | apply Le.loop | apply Z7N | intro _))
def Z5I (a:(List Span)) (b:(List Span)) (by':Int):Option (Bool) :=
 (ZY a b (fun z0 z1 => some (Z1v z0 z1 by'))).bind fun x1 =>
 some x1
theorem ZAC {a:(List Span)} {b:(List Span)} {by':Int}:Le (Z5I a b by') (Z2j a b by'):=by
 unfold Z5I Z2j
 repeat' (with_reducible (first | exact Le.refl _ | apply Le.bind | apply Z2w | intro _))
def Z2d.s0 (f:Form) (d:Int) (by':Int) (s1:Int):Option ((Int) ⊕ (Jx (Unit) (Bool))) :=
 (bif (decide (s1 < (f.Core.length:Int))) then
  (
   (
    (at? f.Core s1).bind fun x1 =>
    (
     (bif (decide ((w64 (s1 + d)) ≥ f.Count)) then
      some ((w64 ((w64 (s1 + d)) - f.Count)),f.Period)
     else
      some ((w64 (s1 + d)),0))).bind fun (y4:Int × Int) =>
    (at? f.Core y4.1).bind fun x2 =>
    (Z5I x1 x2 (w64 (by' - y4.2))).bind fun x3 =>
    (bif (!x3) then
     some (.ret false)
    else
     some (.go ()))).bind fun (y3:Jx (Unit) (Bool)) =>
   y3.elim (fun r' =>
     some (.ret r')) fun a4 =>
   some (.go ())).bind fun (y2:Jx (Unit) (Bool)) =>
  y2.elim (fun r' =>
    some (.inr (.ret r'))) fun a5 =>
  some (.inl (w64 (s1 + 1)))
 else
  some (.inr (.go ())))
theorem ZAP {f:Form} {d:Int} {by':Int} {s1:Int}:Le (Z2d.s0 f d by' s1) (Z1B.s0 f d by' s1):=by
 unfold Z2d.s0 Z1B.s0
 repeat' (with_reducible (first | exact Le.refl _ | apply Le.bind | apply Le.cond | apply Le.elim | apply ZAC | intro _))
def Z2d (f:Form) (d:Int) (by':Int):Option (Bool) :=
 (Z0q (Z2d.s0 f d by') 0).bind fun (y1:Jx (Unit) (Bool)) =>
 y1.elim (fun r' =>
   some r') fun a6 =>
 some true
theorem ZD1 {f:Form} {d:Int} {by':Int}:Le (Z2d f d by') (Z1B f d by'):=by
 unfold Z2d Z1B
 repeat' (with_reducible (first | exact Le.refl _ | apply Le.bind | apply Le.elim | apply Le.loop | apply ZAP | intro _))
def Z2h.b0 (f:Form) (s2:(List (List Span)) × Int × Int) (z2:Int):Option (((List (List Span)) × Int × Int) × Nat) :=
 (nz? z2).bind fun u1 =>
 (Z19 f.Period (w64 (f.Count.tdiv z2))).bind fun x2 =>
 (
  (bif (x2.2.1 != 0) then
   some true
  else
   (Z2d f z2 x2.1).bind fun x3 =>
   some (!x3))).bind fun (y3:Bool) =>
 (bif y3 then
  some ((s2.1,s2.2.1,s2.2.2),0)
 else
  (cut? f.Core 0 z2).bind fun x4 =>
  (Z0q (Z03.s1 x4) (0,s2.1)).bind fun (y4:(List (List Span))) =>
  some ((y4,x2.1,z2),1))
theorem ZAa {f:Form} {s2:(List (List Span)) × Int × Int} {z2:Int}:Le (Z2h.b0 f s2 z2) (Z03.b0 f s2 z2):=by
 unfold Z2h.b0 Z03.b0
 repeat' (with_reducible (first | exact Le.refl _ | apply Le.bind | apply Le.cond | apply Le.loop | apply ZD1 | intro _))
def Z2h (f:Form):Option (Form) :=
 (Z7I f).bind fun x1 =>
 (bif x1 then
  some (Form.mk 0 0 [] [])
 else
  (
   (Z0y f.Count (Z3K (Z2h.b0 f)) (([],0,0),0)).bind fun (y2:((List (List Span)) × Int × Int) × Nat) =>
   (bif (y2.2 == 0) then
    some (y2.1.1,y2.1.2.1,y2.1.2.2)
   else
    some (y2.1.1,y2.1.2.1,y2.1.2.2))).bind fun (y1:(List (List Span)) × Int × Int) =>
  some (Form.mk y1.2.1 y1.2.2 y1.1 []))
theorem ZD0 {f:Form}:Le (Z2h f) (Z03 f):=by
 unfold Z2h Z03
 repeat' (with_reducible (first | exact Le.refl _ | apply Le.bind | apply Le.cond | refine Le.Z3K ?_ _ _ | apply ZCq | apply Z8i | apply ZAa | intro _))
def Z6r (f:Form) (g:Granule):Option (Bool) :=
 (Z4W f g.Index).bind fun x1 =>
 (
  (bif (x1.2 == 0) then
   (Z7K x1.1 g.Ticks).bind fun x2 =>
   some x2
  else
   some false)).bind fun (y1:Bool) =>
 some y1
theorem ZBk {f:Form} {g:Granule}:Le (Z6r f g) (Z3a f g):=by
 unfold Z6r Z3a
 repeat' (with_reducible (first | exact Le.refl _ | apply Le.bind | apply Le.cond | apply Z9v | apply ZCy | intro _))
def Z2e.s0 (f:Form) (x1:Form) (s2:Int × (List Granule)):Option ((Int × (List Granule)) ⊕ ((List Granule))) :=
 (bif (decide (s2.1 < (f.Odd.length:Int))) then
  (
   (
    (at? f.Odd s2.1).bind fun x2 =>
    (Z6r x1 x2).bind fun x3 =>
    (bif (!x3) then
     (clone? 16 x2.Ticks).bind fun x4 =>
     (app? 32 s2.2 [(Granule.mk x2.Index x4)]).bind fun x5 =>
     some x5
    else
     some s2.2)).bind fun (y3:(List Granule)) =>
   some y3).bind fun (y2:(List Granule)) =>
  some (.inl ((w64 (s2.1 + 1)),y2))
 else
  some (.inr s2.2))
theorem ZAY {f:Form} {x1:Form} {s2:Int × (List Granule)}:Le (Z2e.s0 f x1 s2) (Z01.s0 f x1 s2):=by
 unfold Z2e.s0 Z01.s0
 repeat' (with_reducible (first | exact Le.refl _ | apply Le.bind | apply Le.cond | apply ZBk | intro _))
def Z2e (f:Form):Option (Form) :=
 (Z2h f).bind fun x1 =>
 (Z0q (Z2e.s0 f x1) (0,[])).bind fun (y1:(List Granule)) =>
 some (Form.mk x1.Period x1.Count x1.Core y1)
theorem ZD2 {f:Form}:Le (Z2e f) (Z01 f):=by
 unfold Z2e Z01
 repeat' (with_reducible (first | exact Le.refl _ | apply Le.bind | apply Le.loop | apply ZD0 | apply ZAY | intro _))
def Z8W (f:Form):Option (size_form) :=
 (Z2e f).bind fun x1 =>
 (Z0q (Z29.s0 x1) (0,[])).bind fun (y1:(List size_spot)) =>
 some (size_form.mk x1 y1)
theorem ZEM {f:Form}:Le (Z8W f) (Z29 f):=by
 unfold Z8W Z29
 repeat' (with_reducible (first | exact Le.refl _ | apply Le.bind | apply Le.loop | apply ZD2 | intro _))
def Z1R.s0 (f:Int→Option Bool) (s1:Int × Int):Option ((Int × Int) ⊕ (Int)) :=
 (bif (decide (s1.1 < s1.2)) then
  (
   (f (w64 ((IntKind.u64.wrap (w64 (s1.1 + s1.2))).fdiv (2 ^ 1)))).bind fun x1 =>
   (bif (!x1) then
    some ((w64 ((w64 ((IntKind.u64.wrap (w64 (s1.1 + s1.2))).fdiv (2 ^ 1))) + 1)),s1.2)
   else
    some (s1.1,(w64 ((IntKind.u64.wrap (w64 (s1.1 + s1.2))).fdiv (2 ^ 1)))))).bind fun (y2:Int × Int) =>
  some (.inl (y2.1,y2.2))
 else
  some (.inr s1.1))
theorem Z9s {f f_:Int→Option Bool} {s1:Int × Int} (h_f:∀ z0,Le (f z0) (f_ z0)):Le (Z1R.s0 f s1) (Z0j.s0 f_ s1):=by
 unfold Z1R.s0 Z0j.s0
 repeat' (with_reducible (first | exact Le.refl _ | exact h_f _ | exact h_f | apply Le.bind | apply Le.cond | intro _))
def Z1R (n:Int) (f:Int→Option Bool):Option (Int) :=
 (Z0q (Z1R.s0 f) (0,n)).bind fun (y1:Int) =>
 some y1
theorem Z7m {n:Int} {f f_:Int→Option Bool} (h_f:∀ z0,Le (f z0) (f_ z0)):Le (Z1R n f) (Z0j n f_):=by
 unfold Z1R Z0j
 repeat' (with_reducible (first | exact Le.refl _ | exact h_f _ | exact h_f | apply Le.bind | apply Le.loop | apply Z9s | intro _))
def Z3N (f:size_form) (t:Int) (up:Bool):Option (Int) :=
 (bif up then
  (at? f.spots (w64 ((f.spots.length:Int) - 1))).bind fun x1 =>
  (Z19 (w64 (x1.place.last - t)) f.Form.Period).bind fun x2 =>
  (Z1R (f.spots.length:Int) (fun z0 => Z28 z0 f x2.1 t)).bind fun x3 =>
  (at? f.spots x3).bind fun x4 =>
  some (w64 (x4.index - (w64 (x2.1 * f.Form.Count))))
 else
  (at? f.spots 0).bind fun x5 =>
  (Z19 (w64 (t - x5.place.first)) f.Form.Period).bind fun x6 =>
  (Z1R (f.spots.length:Int) (fun z0 => Z2B z0 f x6.1 t)).bind fun x7 =>
  (at? f.spots (w64 (x7 - 1))).bind fun x8 =>
  some (w64 (x8.index + (w64 (x6.1 * f.Form.Count)))))
theorem Z61 {f:size_form} {t:Int} {up:Bool}:Le (Z3N f t up) (Z0X f t up):=by
 unfold Z3N Z0X
 repeat' (with_reducible (first | exact Le.refl _ | apply Le.bind | apply Le.cond | apply Z7m | intro _))
def Z5E (f:size_form) (i:Int):Option (Int) :=
 (ZH f.Form.Odd i (fun z0 z1 => some (Z37 z0 z1))).bind fun x1 =>
 (bif (!x1.2) then
  some (-1)
 else
  some x1.1)
theorem ZAV {f:size_form} {i:Int}:Le (Z5E f i) (Z2o f i):=by
 unfold Z5E Z2o
 repeat' (with_reducible (first | exact Le.refl _ | apply Le.bind | apply Le.cond | apply Z0u | intro _))
def Z05.s0 (f:size_form) (y1:Int) (s1:Int):Option ((Int) ⊕ (Int)) :=
 (Z5E f s1).bind fun x2 =>
 (
  (bif (decide (x2 ≥ 0)) then
   some true
  else
   (Z3D f s1).bind fun x3 =>
   some (!x3))).bind fun (y4:Bool) =>
 (bif y4 then
  some (.inl (w64 (s1 + y1)))
 else
  some (.inr s1))
theorem Z7e {f:size_form} {y1:Int} {s1:Int}:Le (Z05.s0 f y1 s1) (Z3.s0 f y1 s1):=by
 unfold Z05.s0 Z3.s0
 repeat' (with_reducible (first | exact Le.refl _ | apply Le.bind | apply Le.cond | apply ZAV | intro _))
def Z05.s2 (f:size_form) (t:Int) (up:Bool) (y1:Int) (s3:Int × Int × Bool):Option ((Int × Int × Bool) ⊕ (Int × Bool)) :=
 (bif (decide (s3.1 < (f.Form.Odd.length:Int))) then
  (
   (
    (at? f.Form.Odd s3.1).bind fun x5 =>
    (Z1P x5.Ticks).bind fun x6 =>
    (bif (x6.2 && ((up && (decide (x6.1.To ≥ t))) || ((!up) && (decide (x6.1.From≤t))))) then
     (
      (Z0q (Z3.s3) (([(w64 ((w64 (0 - y1)) * x5.Index))].length:Int),0,[(w64 ((w64 (0 - y1)) * x5.Index))],s3.2.1,s3.2.2)).bind fun (y13:(List Int) × Int × Bool) =>
      some (y13.1,y13.2.1,y13.2.2)).bind fun (y12:(List Int) × Int × Bool) =>
     some (y12.2.1,y12.2.2)
    else
     some (s3.2.1,s3.2.2))).bind fun (y11:Int × Bool) =>
   some (y11.1,y11.2)).bind fun (y10:Int × Bool) =>
  some (.inl ((w64 (s3.1 + 1)),y10.1,y10.2))
 else
  some (.inr (s3.2.1,s3.2.2)))
theorem Z7t {f:size_form} {t:Int} {up:Bool} {y1:Int} {s3:Int × Int × Bool}:Le (Z05.s2 f t up y1 s3) (Z3.s2 f t up y1 s3):=by
 unfold Z05.s2 Z3.s2
 repeat' (with_reducible (first | exact Le.refl _ | apply Le.bind | apply Le.cond | apply Le.loop | intro _))
def Z05 (f:size_form) (t:Int) (up:Bool):Option (Int × Bool) :=
 (
  (bif up then
   some 1
  else
   some (-1))).bind fun (y1:Int) =>
 (
  (bif (decide (f.Form.Count > 0)) then
   (Z3N f t up).bind fun x1 =>
   (Z0q (Z05.s0 f y1) x1).bind fun (y3:Int) =>
   (
    (Z0q (Z3.s1) (([(w64 ((w64 (0 - y1)) * y3))].length:Int),0,[(w64 ((w64 (0 - y1)) * y3))],0,false)).bind fun (y6:(List Int) × Int × Bool) =>
    some (y6.1,y6.2.1,y6.2.2)).bind fun (y5:(List Int) × Int × Bool) =>
   some (y5.2.1,y5.2.2)
  else
   some (0,false))).bind fun (y2:Int × Bool) =>
 (Z0q (Z05.s2 f t up y1) (0,y2.1,y2.2)).bind fun (y9:Int × Bool) =>
 some ((w64 ((w64 (0 - y1)) * y9.1)),y9.2)
theorem Z8v {f:size_form} {t:Int} {up:Bool}:Le (Z05 f t up) (Z3 f t up):=by
 unfold Z05 Z3
 repeat' (with_reducible (first | exact Le.refl _ | apply Le.bind | apply Le.cond | apply Le.loop | apply Z61 | apply Z7e | apply Z7t | intro _))
def Z1U.s0 (d:Int) (up:Bool) (x1:size_form) (y1:Int) (s1:Int × Int × Bool):Option ((Int × Int × Bool) ⊕ (Int × Bool)) :=
 (bif (decide (s1.1 < (x1.spots.length:Int))) then
  (
   (
    (at? x1.spots s1.1).bind fun x2 =>
    (
     (bif up then
      some x2.place.first
     else
      some x2.place.last)).bind fun (y5:Int) =>
    (Z3N x1 (w64 (y5 + d)) up).bind fun x3 =>
    (
     (Z0q (ZX.s1) (([(w64 (y1 * (w64 (x3 - x2.index))))].length:Int),0,[(w64 (y1 * (w64 (x3 - x2.index))))],s1.2.1,s1.2.2)).bind fun (y7:(List Int) × Int × Bool) =>
     some (y7.1,y7.2.1,y7.2.2)).bind fun (y6:(List Int) × Int × Bool) =>
    some (y6.2.1,y6.2.2)).bind fun (y4:Int × Bool) =>
   some (y4.1,y4.2)).bind fun (y3:Int × Bool) =>
  some (.inl ((w64 (s1.1 + 1)),y3.1,y3.2))
 else
  some (.inr (s1.2.1,s1.2.2)))
theorem ZBj {d:Int} {up:Bool} {x1:size_form} {y1:Int} {s1:Int × Int × Bool}:Le (Z1U.s0 d up x1 y1 s1) (ZX.s0 d up x1 y1 s1):=by
 unfold Z1U.s0 ZX.s0
 repeat' (with_reducible (first | exact Le.refl _ | apply Le.bind | apply Le.cond | apply Le.loop | apply Z61 | intro _))
def Z1U.s2 (d:Int) (up:Bool) (x1:size_form) (y1:Int) (s3:Int × Int × Bool):Option ((Int × Int × Bool) ⊕ (Int × Bool)) :=
 (bif (decide (s3.1 < (x1.Form.Odd.length:Int))) then
  (
   (
    (at? x1.Form.Odd s3.1).bind fun x5 =>
    (Z1P x5.Ticks).bind fun x6 =>
    (bif (!x6.2) then
     some (.ret ())
    else
     (
      (bif up then
       some (x6.1.To,x6.1.From)
      else
       some (x6.1.From,x6.1.To))).bind fun (y13:Int × Int) =>
     (
      (Z05 x1 (w64 (y13.2 + d)) up).bind fun x7 =>
      (bif x7.2 then
       (
        (Z0q (ZX.s3) (([(w64 (y1 * (w64 (x7.1 - x5.Index))))].length:Int),0,[(w64 (y1 * (w64 (x7.1 - x5.Index))))],s3.2.1,s3.2.2)).bind fun (y16:(List Int) × Int × Bool) =>
        some (y16.1,y16.2.1,y16.2.2)).bind fun (y15:(List Int) × Int × Bool) =>
       some (y15.2.1,y15.2.2)
      else
       some (s3.2.1,s3.2.2))).bind fun (y14:Int × Bool) =>
     (Z05 x1 (w64 (y13.1 - d)) (!up)).bind fun x9 =>
     (bif x9.2 then
      (
       (Z0q (ZX.s4) (([(w64 (y1 * (w64 (x5.Index - x9.1))))].length:Int),0,[(w64 (y1 * (w64 (x5.Index - x9.1))))],y14.1,y14.2)).bind fun (y20:(List Int) × Int × Bool) =>
       some (y20.1,y20.2.1,y20.2.2)).bind fun (y19:(List Int) × Int × Bool) =>
      some (.go (y19.2.1,y19.2.2))
     else
      some (.go (y14.1,y14.2))))).bind fun (y12:Jx (Int × Bool) (Unit)) =>
   y12.elim (fun a4 =>
     some (s3.2.1,s3.2.2)) fun a3 =>
   some (a3.1,a3.2)).bind fun (y11:Int × Bool) =>
  some (.inl ((w64 (s3.1 + 1)),y11.1,y11.2))
 else
  some (.inr (s3.2.1,s3.2.2)))
theorem ZBs {d:Int} {up:Bool} {x1:size_form} {y1:Int} {s3:Int × Int × Bool}:Le (Z1U.s2 d up x1 y1 s3) (ZX.s2 d up x1 y1 s3):=by
 unfold Z1U.s2 ZX.s2
 repeat' (with_reducible (first | exact Le.refl _ | apply Le.bind | apply Le.cond | apply Le.elim | apply Le.loop | apply Z8v | intro _))
def Z1U (g:Form) (d:Int) (up:Bool):Option (Int × Bool × Int) :=
 (bif (!(Z3o d)) then
  some (0,false,2)
 else
  (Z8W g).bind fun x1 =>
  (
   (bif up then
    some (-1)
   else
    some 1)).bind fun (y1:Int) =>
  (Z0q (Z1U.s0 d up x1 y1) (0,0,false)).bind fun (y2:Int × Bool) =>
  (Z0q (Z1U.s2 d up x1 y1) (0,y2.1,y2.2)).bind fun (y10:Int × Bool) =>
  some ((w64 (y1 * y10.1)),y10.2,0))
theorem ZA7 {g:Form} {d:Int} {up:Bool}:Le (Z1U g d up) (ZX g d up):=by
 unfold Z1U ZX
 repeat' (with_reducible (first | exact Le.refl _ | apply Le.bind | apply Le.cond | apply Le.loop | apply ZEM | apply ZBj | apply ZBs | intro _))
def Z68 (f:Form) (d:Int):Option (Int × Bool × Int) :=
 (Z1U f d false).bind fun x1 =>
 some (x1.1,x1.2.1,x1.2.2)
theorem Z8m {f:Form} {d:Int}:Le (Z68 f d) (Z4S f d):=by
 unfold Z68 Z4S
 repeat' (with_reducible (first | exact Le.refl _ | apply Le.bind | apply ZA7 | intro _))
def ZAk (f:Form) (d:Int):Option (Int × Bool × Int) :=
 (Z1U f d true).bind fun x1 =>
 some (x1.1,x1.2.1,x1.2.2)
theorem evle_size_Up {f:Form} {d:Int}:Le (ZAk f d) (Z8X f d):=by
 unfold ZAk Z8X
 repeat' (with_reducible (first | exact Le.refl _ | apply Le.bind | apply ZA7 | intro _))
def Z6Z (f:Form) (low:Bound) (high:Bound):Option (Range × Bool × Int) :=
 (bif ((((!(ZF low)) || (!(ZF high))) || (low.Inf == 1)) || (high.Inf == (-1))) then
  some ((Range.mk 0 0 false false),false,2)
 else
  (
   (bif ((high.Inf == 0) && (decide (high.N≤1099511627776))) then
    (Z68 f (iMax high.N (-1099511627776))).bind fun x1 =>
    (bif (!x1.2.1) then
     some (.ret ((Range.mk 0 0 false false),false,0))
    else
     some (.go (x1.1,true)))
   else
    some (.go (0,false)))).bind fun (y1:Jx (Int × Bool) (Range × Bool × Int)) =>
  y1.elim (fun r' =>
    some r') fun a2 =>
  (
   (bif ((low.Inf == 0) && (decide (low.N ≥ (-1099511627776)))) then
    (ZAk f (iMin low.N 1099511627776)).bind fun x2 =>
    (bif (!x2.2.1) then
     some (.ret ((Range.mk 0 0 false false),false,0))
    else
     some (.go (x2.1,true)))
   else
    some (.go (0,false)))).bind fun (y2:Jx (Int × Bool) (Range × Bool × Int)) =>
  y2.elim (fun r' =>
    some r') fun a4 =>
  some ((Range.mk a4.1 a2.1 a4.2 a2.2),true,0))
theorem ZBg {f:Form} {low:Bound} {high:Bound}:Le (Z6Z f low high) (Z0l f low high):=by
 unfold Z6Z Z0l
 repeat' (with_reducible (first | exact Le.refl _ | apply Le.bind | apply Le.cond | apply Le.elim | apply Z8m | apply evle_size_Up | intro _))
def Z30 (a:carry_asked) (gap:Int):Option (Bool) :=
 (Z68 a.f (w64 (gap - 1099511627776))).bind fun x1 =>
 some ((x1.2.1 && (x1.2.2 == 0)) && (decide (x1.1 ≥ a.m)))
theorem Z7S {a:carry_asked} {gap:Int}:Le (Z30 a gap) (Z10 a gap):=by
 unfold Z30 Z10
 repeat' (with_reducible (first | exact Le.refl _ | apply Le.bind | apply Z8m | intro _))
def Z62 (f:Form) (m:Int):Option (Bound) :=
 (Z1R 2199023255553 (fun z0 => Z30 (carry_asked.mk f (iMin (iMax m (-4611686018427387904)) 4611686018427387904)) z0)).bind fun x1 =>
 (bif ((w64 ((iMin x1 2199023255552) - 1099511627776)) == (-1099511627776)) then
  some (Bound.mk (-1) 0)
 else
  some (Bound.mk 0 (w64 ((iMin x1 2199023255552) - 1099511627776))))
theorem Z9G {f:Form} {m:Int}:Le (Z62 f m) (Z2q f m):=by
 unfold Z62 Z2q
 repeat' (with_reducible (first | exact Le.refl _ | apply Le.bind | apply Le.cond | apply Z7m | apply Z7S | intro _))
def Z7X (f:Form) (n:Int):Option (Bound) :=
 (Z62 f (w64 (0 - (iMax n (-4611686018427387904))))).bind fun x1 =>
 some ((Z8 x1).1)
theorem ZCp {f:Form} {n:Int}:Le (Z7X f n) (Z2m f n):=by
 unfold Z7X Z2m
 repeat' (with_reducible (first | exact Le.refl _ | apply Le.bind | apply Z9G | intro _))
def Z6X (f:Form) (r':Range):Option (Bound × Bound) :=
 (
  (bif r'.HasLow then
   (Z62 f r'.Low).bind fun x1 =>
   some (x1.Inf,x1.N)
  else
   some ((-1),0))).bind fun (y1:Int × Int) =>
 (
  (bif r'.HasHigh then
   (Z7X f r'.High).bind fun x2 =>
   some (x2.Inf,x2.N)
  else
   some (1,0))).bind fun (y2:Int × Int) =>
 some ((Bound.mk y1.1 y1.2),(Bound.mk y2.1 y2.2))
theorem ZBr {f:Form} {r':Range}:Le (Z6X f r') (Z1g f r'):=by
 unfold Z6X Z1g
 repeat' (with_reducible (first | exact Le.refl _ | apply Le.bind | apply Le.cond | apply Z9G | apply ZCp | intro _))
def Zr.s0 (s:(List Form)) (f:Form→Option Bool) (s1:Int):Option ((Int) ⊕ (Jx (Unit) (Int))) :=
 (bif (decide (s1 < (s.length:Int))) then
  (at? s s1).bind fun x1 =>
  (f x1).bind fun x2 =>
  (bif x2 then
   some (.inr (.ret s1))
  else
   some (.inl (w64 (s1 + 1))))
 else
  some (.inr (.go ())))
theorem Z3y {s:(List Form)} {f f_:Form→Option Bool} {s1:Int} (h_f:∀ z0,Le (f z0) (f_ z0)):Le (Zr.s0 s f s1) (ZN.s0 s f_ s1):=by
 unfold Zr.s0 ZN.s0
 repeat' (with_reducible (first | exact Le.refl _ | exact h_f _ | exact h_f | apply Le.bind | apply Le.cond | intro _))
def Zr (s:(List Form)) (f:Form→Option Bool):Option (Int) :=
 (Z0q (Zr.s0 s f) 0).bind fun (y1:Jx (Unit) (Int)) =>
 y1.elim (fun r' =>
   some r') fun a2 =>
 some (-1)
theorem Z4j {s:(List Form)} {f f_:Form→Option Bool} (h_f:∀ z0,Le (f z0) (f_ z0)):Le (Zr s f) (ZN s f_):=by
 unfold Zr ZN
 repeat' (with_reducible (first | exact Le.refl _ | exact h_f _ | exact h_f | apply Le.bind | apply Le.elim | apply Le.loop | apply Z3y | intro _))
def Z1J (s:(List Form)) (f:Form→Option Bool):Option (Bool) :=
 (Zr s f).bind fun x1 =>
 some (decide (x1 ≥ 0))
theorem Z3z {s:(List Form)} {f f_:Form→Option Bool} (h_f:∀ z0,Le (f z0) (f_ z0)):Le (Z1J s f) (Zt s f_):=by
 unfold Z1J Zt
 repeat' (with_reducible (first | exact Le.refl _ | exact h_f _ | exact h_f | apply Le.bind | apply Z4j | intro _))
def Z6Y (f:Form):Option (Bool) :=
 (Z2b f).bind fun x1 =>
 some (x1 != 0)
theorem ZBt {f:Form}:Le (Z6Y f) (Z1D f):=by
 unfold Z6Y Z1D
 repeat' (with_reducible (first | exact Le.refl _ | apply Le.bind | apply ZCr | intro _))
def Z00.s0 (s:(List Con)) (f:Con→Option Bool) (s1:Int):Option ((Int) ⊕ (Jx (Unit) (Int))) :=
 (bif (decide (s1 < (s.length:Int))) then
  (at? s s1).bind fun x1 =>
  (f x1).bind fun x2 =>
  (bif x2 then
   some (.inr (.ret s1))
  else
   some (.inl (w64 (s1 + 1))))
 else
  some (.inr (.go ())))
theorem Z4c {s:(List Con)} {f f_:Con→Option Bool} {s1:Int} (h_f:∀ z0,Le (f z0) (f_ z0)):Le (Z00.s0 s f s1) (ZT.s0 s f_ s1):=by
 unfold Z00.s0 ZT.s0
 repeat' (with_reducible (first | exact Le.refl _ | exact h_f _ | exact h_f | apply Le.bind | apply Le.cond | intro _))
def Z00 (s:(List Con)) (f:Con→Option Bool):Option (Int) :=
 (Z0q (Z00.s0 s f) 0).bind fun (y1:Jx (Unit) (Int)) =>
 y1.elim (fun r' =>
   some r') fun a2 =>
 some (-1)
theorem Z5C {s:(List Con)} {f f_:Con→Option Bool} (h_f:∀ z0,Le (f z0) (f_ z0)):Le (Z00 s f) (ZT s f_):=by
 unfold Z00 ZT
 repeat' (with_reducible (first | exact Le.refl _ | exact h_f _ | exact h_f | apply Le.bind | apply Le.elim | apply Le.loop | apply Z4c | intro _))
def Z1X (s:(List Con)) (f:Con→Option Bool):Option (Bool) :=
 (Z00 s f).bind fun x1 =>
 some (decide (x1 ≥ 0))
theorem Z4b {s:(List Con)} {f f_:Con→Option Bool} (h_f:∀ z0,Le (f z0) (f_ z0)):Le (Z1X s f) (Z02 s f_):=by
 unfold Z1X Z02
 repeat' (with_reducible (first | exact Le.refl _ | exact h_f _ | exact h_f | apply Le.bind | apply Z5C | intro _))
def Z86 (n:Net):Option (Int) :=
 (
  (
   (
    (bif (!(Z0c n.Vars 25)) then
     some (!(Z0c n.Vars 25))
    else
     (bif (decide ((n.Forms.length:Int) > 20)) then
      some (decide ((n.Forms.length:Int) > 20))
     else
      some (decide ((n.Cons.length:Int) > 200))))).bind fun (y3:Bool) =>
   (bif y3 then
    some (.ret 230)
   else
    (
     (Z1J n.Forms (fun z0 => Z6Y z0)).bind fun x1 =>
     (bif x1 then
      some x1
     else
      (Z1X n.Cons (fun z0 => some (Z0t z0 n))).bind fun x2 =>
      some x2)).bind fun (y4:Bool) =>
    (bif y4 then
     some (.ret 230)
    else
     some (.go ())))).bind fun (y2:Jx (Unit) (Int)) =>
  y2.elim (fun r' =>
    some (.ret r')) fun a3 =>
  some (.go ())).bind fun (y1:Jx (Unit) (Int)) =>
 y1.elim (fun r' =>
   some r') fun a4 =>
 some 0
theorem ZDG {n:Net}:Le (Z86 n) (Z1a n):=by
 unfold Z86 Z1a
 repeat' (with_reducible (first | exact Le.refl _ | apply Le.bind | apply Le.cond | apply Le.elim | apply Z3z | apply ZBt | apply Z4b | intro _))
def Z1i (x':(List Bound)) (count:Int):Option ((List Bound)) :=
 (bif (decide (count < 0)) then
  none
 else
  (bif ((decide (((Za (IntKind.u64.wrap (x'.length:Int)) (IntKind.u64.wrap count)).1) > 0)) || (decide (((Za (IntKind.u64.wrap (x'.length:Int)) (IntKind.u64.wrap count)).2) > 9223372036854775807))) then
   none
  else
   (new? 16 (w64 ((Za (IntKind.u64.wrap (x'.length:Int)) (IntKind.u64.wrap count)).2)) (Bound.mk 0 0)).bind fun x1 =>
   (Z0q (ZS.s0 x' count) (((min x'.length x1.length:Nat):Int),(cpy x1 x'))).bind fun (y1:(List Bound)) =>
   some y1))
theorem Z4z {x':(List Bound)} {count:Int}:Le (Z1i x' count) (ZS x' count):=by
 unfold Z1i ZS
 repeat' (with_reducible (first | exact Le.refl _ | apply Le.bind | apply Le.cond | apply Le.loop | intro _))
def Zi.s0 (s:(List (List Bound))) (f:(List Bound)→Option Bool) (s1:Int):Option ((Int) ⊕ (Jx (Unit) (Int))) :=
 (bif (decide (s1 < (s.length:Int))) then
  (at? s s1).bind fun x1 =>
  (f x1).bind fun x2 =>
  (bif x2 then
   some (.inr (.ret s1))
  else
   some (.inl (w64 (s1 + 1))))
 else
  some (.inr (.go ())))
theorem Z3R {s:(List (List Bound))} {f f_:(List Bound)→Option Bool} {s1:Int} (h_f:∀ z0,Le (f z0) (f_ z0)):Le (Zi.s0 s f s1) (ZG.s0 s f_ s1):=by
 unfold Zi.s0 ZG.s0
 repeat' (with_reducible (first | exact Le.refl _ | exact h_f _ | exact h_f | apply Le.bind | apply Le.cond | intro _))
def Zi (s:(List (List Bound))) (f:(List Bound)→Option Bool):Option (Int) :=
 (Z0q (Zi.s0 s f) 0).bind fun (y1:Jx (Unit) (Int)) =>
 y1.elim (fun r' =>
   some r') fun a2 =>
 some (-1)
theorem Z3x {s:(List (List Bound))} {f f_:(List Bound)→Option Bool} (h_f:∀ z0,Le (f z0) (f_ z0)):Le (Zi s f) (ZG s f_):=by
 unfold Zi ZG
 repeat' (with_reducible (first | exact Le.refl _ | exact h_f _ | exact h_f | apply Le.bind | apply Le.elim | apply Le.loop | apply Z3R | intro _))
def Z0v (s:(List (List Bound))) (f:(List Bound)→Option Bool):Option (Bool) :=
 (Zi s f).bind fun x1 =>
 some (decide (x1 ≥ 0))
theorem Z3Q {s:(List (List Bound))} {f f_:(List Bound)→Option Bool} (h_f:∀ z0,Le (f z0) (f_ z0)):Le (Z0v s f) (Zj s f_):=by
 unfold Z0v Zj
 repeat' (with_reducible (first | exact Le.refl _ | exact h_f _ | exact h_f | apply Le.bind | apply Z3x | intro _))
def Zo.s0 (s:(List Bound)) (f:Bound→Option Bool) (s1:Int):Option ((Int) ⊕ (Jx (Unit) (Int))) :=
 (bif (decide (s1 < (s.length:Int))) then
  (at? s s1).bind fun x1 =>
  (f x1).bind fun x2 =>
  (bif x2 then
   some (.inr (.ret s1))
  else
   some (.inl (w64 (s1 + 1))))
 else
  some (.inr (.go ())))
theorem Z3m {s:(List Bound)} {f f_:Bound→Option Bool} {s1:Int} (h_f:∀ z0,Le (f z0) (f_ z0)):Le (Zo.s0 s f s1) (ZM.s0 s f_ s1):=by
 unfold Zo.s0 ZM.s0
 repeat' (with_reducible (first | exact Le.refl _ | exact h_f _ | exact h_f | apply Le.bind | apply Le.cond | intro _))
def Zo (s:(List Bound)) (f:Bound→Option Bool):Option (Int) :=
 (Z0q (Zo.s0 s f) 0).bind fun (y1:Jx (Unit) (Int)) =>
 y1.elim (fun r' =>
   some r') fun a2 =>
 some (-1)
theorem Z4I {s:(List Bound)} {f f_:Bound→Option Bool} (h_f:∀ z0,Le (f z0) (f_ z0)):Le (Zo s f) (ZM s f_):=by
 unfold Zo ZM
 repeat' (with_reducible (first | exact Le.refl _ | exact h_f _ | exact h_f | apply Le.bind | apply Le.elim | apply Le.loop | apply Z3m | intro _))
def Z15 (s:(List Bound)) (f:Bound→Option Bool):Option (Bool) :=
 (Zo s f).bind fun x1 =>
 some (decide (x1 ≥ 0))
theorem Z3n {s:(List Bound)} {f f_:Bound→Option Bool} (h_f:∀ z0,Le (f z0) (f_ z0)):Le (Z15 s f) (Zn s f_):=by
 unfold Z15 Zn
 repeat' (with_reducible (first | exact Le.refl _ | exact h_f _ | exact h_f | apply Le.bind | apply Z4I | intro _))
def Z6n (row:(List Bound)) (p1':Int):Option (Bool) :=
 (
  (bif ((row.length:Int) != p1') then
   some true
  else
   (Z15 row (fun z0 => some (Z5f z0))).bind fun x1 =>
   some x1)).bind fun (y1:Bool) =>
 some y1
theorem ZCB {row:(List Bound)} {p1':Int}:Le (Z6n row p1') (Z4V row p1'):=by
 unfold Z6n Z4V
 repeat' (with_reducible (first | exact Le.refl _ | apply Le.bind | apply Le.cond | apply Z3n | intro _))
def Z8H (d:(List (List Bound))):Option (Bool) :=
 (
  (bif (decide ((d.length:Int)≤24)) then
   (Z0v d (fun z0 => Z6n z0 (d.length:Int))).bind fun x1 =>
   some (!x1)
  else
   some false)).bind fun (y1:Bool) =>
 some y1
theorem ZDI {d:(List (List Bound))}:Le (Z8H d) (Z3p d):=by
 unfold Z8H Z3p
 repeat' (with_reducible (first | exact Le.refl _ | apply Le.bind | apply Le.cond | apply Z3Q | apply ZCB | intro _))
def Z1M.s2 (d:(List (List Bound))) (s2:Int × (List (List Bound))) (s3:Int × (List (List Bound))):Option ((Int × (List (List Bound))) ⊕ ((List (List Bound)))) :=
 (bif (decide (s3.1 < ((d.length:Nat):Int))) then
  (Z0q (ZU.s3 d s2 s3) (0,s3.2)).bind fun (y5:(List (List Bound))) =>
  some (.inl ((w64 (s3.1 + 1)),y5))
 else
  some (.inr s3.2))
theorem ZBO {d:(List (List Bound))} {s2:Int × (List (List Bound))} {s3:Int × (List (List Bound))}:Le (Z1M.s2 d s2 s3) (ZU.s2 d s2 s3):=by
 unfold Z1M.s2 ZU.s2
 repeat' (with_reducible (first | exact Le.refl _ | apply Le.bind | apply Le.cond | apply Le.loop | intro _))
def Z1M.s1 (d:(List (List Bound))) (s2:Int × (List (List Bound))):Option ((Int × (List (List Bound))) ⊕ (Jx ((List (List Bound))) ((List (List Bound)) × Bool × Int))) :=
 (bif (decide (s2.1 < ((d.length:Nat):Int))) then
  (
   (Z0q (Z1M.s2 d s2) (0,s2.2)).bind fun (y4:(List (List Bound))) =>
   (Z0q (ZU.s4 d y4) 0).bind fun (y9:Jx (Unit) (Unit)) =>
   y9.elim (fun a7 =>
     some (false,y4)) fun a6 =>
   some (true,y4)).bind fun (y3:Bool × (List (List Bound))) =>
  (bif (!y3.1) then
   some (.inr (.ret ([],false,0)))
  else
   some (.inl ((w64 (s2.1 + 1)),y3.2)))
 else
  some (.inr (.go s2.2)))
theorem ZBG {d:(List (List Bound))} {s2:Int × (List (List Bound))}:Le (Z1M.s1 d s2) (ZU.s1 d s2):=by
 unfold Z1M.s1 ZU.s1
 repeat' (with_reducible (first | exact Le.refl _ | apply Le.bind | apply Le.cond | apply Le.elim | apply Le.loop | apply ZBO | intro _))
def Z1M (d:(List (List Bound))):Option ((List (List Bound)) × Bool × Int) :=
 (Z8H d).bind fun x1 =>
 (bif (!x1) then
  some ([],false,2)
 else
  (Z7B d).bind fun x2 =>
  (Z0q (ZU.s0 d) (0,x2)).bind fun (y1:Jx ((List (List Bound))) ((List (List Bound)) × Bool × Int)) =>
  y1.elim (fun r' =>
    some r') fun a2 =>
  (Z0q (Z1M.s1 d) (0,a2)).bind fun (y2:Jx ((List (List Bound))) ((List (List Bound)) × Bool × Int)) =>
  y2.elim (fun r' =>
    some r') fun a8 =>
  some (a8,true,0))
theorem ZE9 {d:(List (List Bound))}:Le (Z1M d) (ZU d):=by
 unfold Z1M ZU
 repeat' (with_reducible (first | exact Le.refl _ | apply Le.bind | apply Le.cond | apply Le.elim | apply Le.loop | apply ZDI | apply ZBG | intro _))
def Z7Z (d:(List (List Bound))):Option ((List (List Bound)) × Bool × Int) :=
 (bif d.isEmpty then
  some ([],true,0)
 else
  Z1M d)
theorem ZCs {d:(List (List Bound))}:Le (Z7Z d) (Z4D d):=by
 unfold Z7Z Z4D
 repeat' (with_reducible (first | exact Le.refl _ | apply Le.cond | apply ZE9 | intro _))
def Z1Z (a:prop_end) (b:prop_end) (there:prop_end→Option Bool) (more:prop_end→prop_end→Option Bool):Option (prop_end) :=
 (there b).bind fun x1 =>
 (
  (bif x1 then
   (there a).bind fun x2 =>
   (
    (bif (!x2) then
     some true
    else
     (more b a).bind fun x3 =>
     some x3)).bind fun (y2:Bool) =>
   some y2
  else
   some false)).bind fun (y1:Bool) =>
 (bif y1 then
  some b
 else
  some a)
theorem Z63 {a:prop_end} {b:prop_end} {there there_:prop_end→Option Bool} {more more_:prop_end→prop_end→Option Bool} (h_there:∀ z0,Le (there z0) (there_ z0)) (h_more:∀ z0 z1,Le (more z0 z1) (more_ z0 z1)):Le (Z1Z a b there more) (Zv a b there_ more_):=by
 unfold Z1Z Zv
 repeat' (with_reducible (first | exact Le.refl _ | exact h_there _ | exact h_more _ _ | exact h_there | exact h_more | apply Le.bind | apply Le.cond | intro _))
def Z89 (a:Range) (b:Range):Option (Range × Bool) :=
 (Z1Z (prop_end.mk a.Low a.HasLow) (prop_end.mk b.Low b.HasLow) (fun z0 => some (Z25 z0)) (fun z0 z1 => some (Z4U z0 z1))).bind fun x1 =>
 (Z1Z (prop_end.mk a.High a.HasHigh) (prop_end.mk b.High b.HasHigh) (fun z0 => some (Z25 z0)) (fun z0 z1 => some (Z4O z0 z1))).bind fun x2 =>
 (bif ((x1.there && x2.there) && (decide (x1.n > x2.n))) then
  some ((Range.mk 0 0 false false),false)
 else
  some ((Range.mk x1.n x2.n x1.there x2.there),true))
theorem ZDl {a:Range} {b:Range}:Le (Z89 a b) (Z3J a b):=by
 unfold Z89 Z3J
 repeat' (with_reducible (first | exact Le.refl _ | apply Le.bind | apply Le.cond | apply Z63 | intro _))
def Z3W.s0 (n:Int) (s1:Int × (List (List Bound))):Option ((Int × (List (List Bound))) ⊕ ((List (List Bound)))) :=
 (bif (decide (s1.1 < n)) then
  (Z1i [(Bound.mk 1 0)] n).bind fun x2 =>
  (at? s1.2 s1.1).bind fun x3 =>
  (at? (s1.2.set (s1.1).toNat x2) s1.1).bind fun x4 =>
  (at? x4 s1.1).bind fun x5 =>
  some (.inl ((w64 (s1.1 + 1)),((s1.2.set (s1.1).toNat x2).set (s1.1).toNat (x4.set (s1.1).toNat (Bound.mk 0 0)))))
 else
  some (.inr s1.2))
theorem ZC7 {n:Int} {s1:Int × (List (List Bound))}:Le (Z3W.s0 n s1) (Z2s.s0 n s1):=by
 unfold Z3W.s0 Z2s.s0
 repeat' (with_reducible (first | exact Le.refl _ | apply Le.bind | apply Le.cond | apply Z4z | intro _))
def Z3W (n:Int):Option ((List (List Bound)) × Int) :=
 (bif ((decide (n < 0)) || (decide (n > 24))) then
  none
 else
  (new? 24 n []).bind fun x1 =>
  (Z0q (Z3W.s0 n) (0,x1)).bind fun (y1:(List (List Bound))) =>
  some (y1,0))
theorem evle_stp_NewS {n:Int}:Le (Z3W n) (Z2s n):=by
 unfold Z3W Z2s
 repeat' (with_reducible (first | exact Le.refl _ | apply Le.bind | apply Le.cond | apply Le.loop | apply ZC7 | intro _))
def Z2k.s0 (n:Net) (s1:Int × (List (List Bound))):Option ((Int × (List (List Bound))) ⊕ ((List (List Bound)))) :=
 (bif (decide (s1.1 < (n.Cons.length:Int))) then
  (
   (
    (at? n.Cons s1.1).bind fun x2 =>
    (at? n.Forms x2.Form).bind fun x3 =>
    (Z6X x3 x2.Range).bind fun x4 =>
    (
     (at? s1.2 x2.X).bind fun x5 =>
     (at? x5 x2.Y).bind fun x6 =>
     (bif (Z0O x4.2 x6) then
      (at? s1.2 x2.X).bind fun x7 =>
      (at? x7 x2.Y).bind fun x8 =>
      some (s1.2.set (x2.X).toNat (x7.set (x2.Y).toNat x4.2))
     else
      some s1.2)).bind fun (y4:(List (List Bound))) =>
    (at? y4 x2.Y).bind fun x9 =>
    (at? x9 x2.X).bind fun x10 =>
    (bif (Z0O ((Z8 x4.1).1) x10) then
     (at? y4 x2.Y).bind fun x11 =>
     (at? x11 x2.X).bind fun x12 =>
     some (y4.set (x2.Y).toNat (x11.set (x2.X).toNat ((Z8 x4.1).1)))
    else
     some y4)).bind fun (y3:(List (List Bound))) =>
   some y3).bind fun (y2:(List (List Bound))) =>
  some (.inl ((w64 (s1.1 + 1)),y2))
 else
  some (.inr s1.2))
theorem ZAl {n:Net} {s1:Int × (List (List Bound))}:Le (Z2k.s0 n s1) (Z1N.s0 n s1):=by
 unfold Z2k.s0 Z1N.s0
 repeat' (with_reducible (first | exact Le.refl _ | apply Le.bind | apply Le.cond | apply ZBr | intro _))
def Z2k (n:Net):Option ((List (List Bound))) :=
 (Z3W n.Vars).bind fun x1 =>
 (Z0q (Z2k.s0 n) (0,x1.1)).bind fun (y1:(List (List Bound))) =>
 some y1
theorem ZD7 {n:Net}:Le (Z2k n) (Z1N n):=by
 unfold Z2k Z1N
 repeat' (with_reducible (first | exact Le.refl _ | apply Le.bind | apply Le.loop | apply evle_stp_NewS | apply ZAl | intro _))
def Z85 (n:Net) (c:Con) (d:(List (List Bound))):Option (Range × Bool) :=
 (at? d c.Y).bind fun x1 =>
 (at? x1 c.X).bind fun x2 =>
 (at? n.Forms c.Form).bind fun x3 =>
 (at? d c.X).bind fun x4 =>
 (at? x4 c.Y).bind fun x5 =>
 (Z6Z x3 ((Z8 x2).1) x5).bind fun x6 =>
 (bif ((!x6.2.1) || (x6.2.2 != 0)) then
  some ((Range.mk 0 0 false false),false)
 else
  (Z89 c.Range x6.1).bind fun x7 =>
  some (x7.1,x7.2))
theorem ZEK {n:Net} {c:Con} {d:(List (List Bound))}:Le (Z85 n c d) (Z4X n c d):=by
 unfold Z85 Z4X
 repeat' (with_reducible (first | exact Le.refl _ | apply Le.bind | apply Le.cond | apply ZBg | apply ZDl | intro _))
def Z2f.s1 (n:Net) (x2:(List (List Bound)) × Bool × Int) (x4:(List Con)) (s2:Int × (List Con)):Option ((Int × (List Con)) ⊕ (Jx ((List Con)) (Net × (List (List Bound)) × Bool))) :=
 (bif (decide (s2.1 < (x4.length:Int))) then
  (at? s2.2 s2.1).bind fun x5 =>
  (Z85 (Net.mk n.Vars n.Forms s2.2) x5 x2.1).bind fun x6 =>
  (bif (!x6.2) then
   some (.inr (.ret ((Net.mk 0 [] []),[],false)))
  else
   (at? s2.2 s2.1).bind fun x7 =>
   some (.inl ((w64 (s2.1 + 1)),(s2.2.set (s2.1).toNat (Con.mk x7.X x7.Y x7.Form x6.1)))))
 else
  some (.inr (.go s2.2)))
theorem ZAF {n:Net} {x2:(List (List Bound)) × Bool × Int} {x4:(List Con)} {s2:Int × (List Con)}:Le (Z2f.s1 n x2 x4 s2) (Z04.s1 n x2 x4 s2):=by
 unfold Z2f.s1 Z04.s1
 repeat' (with_reducible (first | exact Le.refl _ | apply Le.bind | apply Le.cond | apply ZEK | intro _))
def Z2f (n:Net):Option (Net × (List (List Bound)) × Bool) :=
 (Z2k n).bind fun x1 =>
 (Z7Z x1).bind fun x2 =>
 (bif (!x2.2.1) then
  some ((Net.mk 0 [] []),[],false)
 else
  (bif (n.Cons.isEmpty) then
   (Z0q (Z04.s0 n) ()).bind fun (y1:Unit) =>
   some (n,x2.1,true)
  else
   (Z0m n.Cons).bind fun x4 =>
   (Z0q (Z2f.s1 n x2 x4) (0,x4)).bind fun (y2:Jx ((List Con)) (Net × (List (List Bound)) × Bool)) =>
   y2.elim (fun r' =>
     some r') fun a2 =>
   some ((Net.mk n.Vars n.Forms a2),x2.1,true)))
theorem ZD8 {n:Net}:Le (Z2f n) (Z04 n):=by
 unfold Z2f Z04
 repeat' (with_reducible (first | exact Le.refl _ | apply Le.bind | apply Le.cond | apply Le.elim | apply Le.loop | apply ZD7 | apply ZCs | apply ZAF | intro _))
def Z2a (s1':(List Con)) (s2':(List Con)):Option (Bool) :=
 (bif ((s1'.length:Int) != (s2'.length:Int)) then
  some false
 else
  (Z0q (Ze.s0 s1' s2') 0).bind fun (y1:Jx (Unit) (Bool)) =>
  y1.elim (fun r' =>
    some r') fun a2 =>
  some true)
theorem Z6m {s1':(List Con)} {s2':(List Con)}:Le (Z2a s1' s2') (Ze s1' s2'):=by
 unfold Z2a Ze
 repeat' (with_reducible (first | exact Le.refl _ | apply Le.bind | apply Le.cond | apply Le.elim | apply Le.loop | intro _))
def Z2W.s0 (rounds:Int) (s1:Int × Int × (List Form) × (List Con) × (List (List Bound)) × Int):Option ((Int × Int × (List Form) × (List Con) × (List (List Bound)) × Int) ⊕ (Jx (Int × Int × (List Form) × (List Con) × (List (List Bound)) × Int) (Spread × Int))) :=
 (bif ((decide (s1.2.2.2.2.2 < rounds)) && (s1.1 == 3)) then
  (
   (Z2f (Net.mk s1.2.1 s1.2.2.1 s1.2.2.2.1)).bind fun x2 =>
   (bif (!x2.2.2) then
    some (.ret ((Spread.mk 2 (Net.mk 0 [] []) [] (w64 (s1.2.2.2.2.2 + 1))),0))
   else
    (
     (Z2a x2.1.Cons s1.2.2.2.1).bind fun x3 =>
     (bif x3 then
      some (1,(w64 (s1.2.2.2.2.2 + 1)))
     else
      some (s1.1,(w64 (s1.2.2.2.2.2 + 1))))).bind fun (y3:Int × Int) =>
    some (.go (y3.1,x2.1.Vars,x2.1.Forms,x2.1.Cons,x2.2.1,y3.2)))).bind fun (y2:Jx (Int × Int × (List Form) × (List Con) × (List (List Bound)) × Int) (Spread × Int)) =>
  y2.elim (fun r' =>
    some (.inr (.ret r'))) fun a3 =>
  some (.inl (a3.1,a3.2.1,a3.2.2.1,a3.2.2.2.1,a3.2.2.2.2.1,a3.2.2.2.2.2))
 else
  some (.inr (.go (s1.1,s1.2.1,s1.2.2.1,s1.2.2.2.1,s1.2.2.2.2.1,s1.2.2.2.2.2))))
theorem ZBf {rounds:Int} {s1:Int × Int × (List Form) × (List Con) × (List (List Bound)) × Int}:Le (Z2W.s0 rounds s1) (Z0W.s0 rounds s1):=by
 unfold Z2W.s0 Z0W.s0
 repeat' (with_reducible (first | exact Le.refl _ | apply Le.bind | apply Le.cond | apply Le.elim | apply ZD8 | apply Z6m | intro _))
def Z2W (n:Net) (rounds:Int):Option (Spread × Int) :=
 (Z86 n).bind fun x1 =>
 (bif (x1 != 0) then
  some ((Spread.mk 0 (Net.mk 0 [] []) [] 0),230)
 else
  (bif ((decide (rounds < 1)) || (decide (rounds > 1000))) then
   some ((Spread.mk 0 (Net.mk 0 [] []) [] 0),2)
  else
   (Z0q (Z2W.s0 rounds) (3,n.Vars,n.Forms,n.Cons,[],0)).bind fun (y1:Jx (Int × Int × (List Form) × (List Con) × (List (List Bound)) × Int) (Spread × Int)) =>
   y1.elim (fun r' =>
     some r') fun a4 =>
   some ((Spread.mk a4.1 (Net.mk a4.2.1 a4.2.2.1 a4.2.2.2.1) a4.2.2.2.2.1 a4.2.2.2.2.2),0)))
theorem evle_prop_Run {n:Net} {rounds:Int}:Le (Z2W n rounds) (Z0W n rounds):=by
 unfold Z2W Z0W
 repeat' (with_reducible (first | exact Le.refl _ | apply Le.bind | apply Le.cond | apply Le.elim | apply Le.loop | apply ZDG | apply ZBf | intro _))
def Z3Z:Option (Bool) :=
 (Z2W (ZL (Con.mk 0 0 0 (Range.mk 0 0 false false))) 10).bind fun x1 =>
 (Z2W (ZL (Con.mk 0 2 0 (Range.mk 20 0 true false))) 10).bind fun x2 =>
 (at? ((ZL (Con.mk 0 2 1 (Range.mk 0 0 false false))).Cons) 2).bind fun x3 =>
 (Z2W (Net.mk ((ZL (Con.mk 0 2 1 (Range.mk 0 0 false false))).Vars) ((ZL (Con.mk 0 2 1 (Range.mk 0 0 false false))).Forms) [(Con.mk 0 2 0 (ZV 3 10)),x3]) 10).bind fun x4 =>
 (
  (bif (((((((x1.2 != 0) || (x1.1.Kind != 1)) || ((x1.1.Ticks.length:Int) != 3)) || (x2.2 != 0)) || (x2.1.Kind != 2)) || (x4.2 != 0)) || ((x4.1.Net.Cons.length:Int) != 2)) then
   some true
  else
   (at? x1.1.Ticks 0).bind fun x5 =>
   some ((x5.length:Int) != 3))).bind fun (y1:Bool) =>
 (
  (bif y1 then
   some true
  else
   (at? x1.1.Ticks 2).bind fun x6 =>
   some ((x6.length:Int) != 3))).bind fun (y2:Bool) =>
 (bif y2 then
  some false
 else
  (at? x1.1.Ticks 0).bind fun x7 =>
  (at? x7 2).bind fun x8 =>
  (
   (bif ((x8.Inf == 0) && ((x8.N == 14) && true)) then
    (at? x1.1.Ticks 2).bind fun x9 =>
    (at? x9 0).bind fun x10 =>
    some ((x10.Inf == 0) && ((x10.N == (-5)) && true))
   else
    some false)).bind fun (y3:Bool) =>
  (
   (bif y3 then
    (at? x4.1.Net.Cons 1).bind fun x11 =>
    some ((x11.Range.Low == ((ZV 0 2).Low)) && ((x11.Range.High == ((ZV 0 2).High)) && ((x11.Range.HasLow == ((ZV 0 2).HasLow)) && ((x11.Range.HasHigh == ((ZV 0 2).HasHigh)) && true))))
   else
    some false)).bind fun (y4:Bool) =>
  some y4)
theorem Z8U:Le (Z3Z) (Z2R):=by
 unfold Z3Z Z2R
 repeat' (with_reducible (first | exact Le.refl _ | apply Le.bind | apply Le.cond | apply evle_prop_Run | intro _))
theorem Z8V:Z3Z = some true:=by kernel_rfl
theorem Z8D:Z2R = some true:=Z8U _ Z8V
end
end Go.Dn

namespace Go.Dn
open Go Go.Proofs
set_option maxRecDepth 100000
set_option maxHeartbeats 4000000
abbrev vl {α:Type} (c:α→List FV) (x:List α):PV:=.v (.sl (x.map c))
abbrev vi (x:Int):PV:=.v (.int .i64 x)
abbrev vu (x:Int):PV:=.v (.int .u64 x)
abbrev vb (x:Bool):PV:=.v (.bool x)
section
theorem Ops.wt {X:Ctx} {n:Nat} {dr:Bool} {ops:Array Oper} {base i:Nat} {l:List Oper} {e:Env} {σ:Heap} {K:Env→Heap→Prop} {op:Op} {t:TypeId} {p:String} {af:Array Edge} {j:Nat} {g:Tmp} {w:Bool} {dst:Option Tmp} (hg:(ops[j]?).bind (·.dst) = some g) (he:e g = .v (.bool w)) (hk:Ops X n dr ops base i (⟨dst,op,t,p,af,none⟩ :: l) e σ K):Ops X n dr ops base i (⟨dst,op,t,p,af,some (j,w)⟩ :: l) e σ K:=.wanted hg he hk
variable {X:Ctx} {n:Nat} {dr:Bool} {ops:Array Oper} {base i:Nat} {l:List Oper} {e:Env} {σ:Heap} {K:Env→Heap→Prop} {d:Nat} {t t1 t2:TypeId} {p:String} {af:Array Edge} {x y:Operand} {lo hi:Nat} {L:List Res}
theorem Ops.mv (v:PV) (hx:Z0 X e x = some v) (hd:Nat.blt d n = true) (hk:Ops X n dr ops base (i + 1) l (set e d v) σ K):Ops X n dr ops base i (⟨some d,.move x,t,p,af,none⟩ :: l) e σ K:=.move hx hd hk
theorem Ops.av (v:PV) (hx:Z0 X e x = some v) (hd:Nat.blt d n = true) (hk:Ops X n dr ops base (i + 1) l (set e d v) σ K):Ops X n dr ops base i (⟨some d,.assign x,t,p,af,none⟩ :: l) e σ K:=.assign hx hd hk
theorem Ops.it {op:BinOp} {k:IntKind} (m m':Int) (r:FV) (hx:Z0 X e x = some (.v (.int k m))) (hy:Z0 X e y = some (.v (.int k m'))) (hop:(op != .shl && op != .shr) = true) (hr:Z8o op k m m' = some r) (hd:Nat.blt d n = true) (hk:Ops X n dr ops base (i + 1) l (set e d (.v r)) σ K):Ops X n dr ops base i (⟨some d,.binOp op t1 x y t2,t,p,af,none⟩ :: l) e σ K:=.int hx hy hop hr hd hk
theorem Ops.xt (v:PV) {vs:List PV} {j:Nat} (hx:Z0 X e x = some (.tup vs)) (hj:vs[j]? = some v) (hd:Nat.blt d n = true) (hk:Ops X n dr ops base (i + 1) l (set e d v) σ K):Ops X n dr ops base i (⟨some d,.extract x j,t,p,af,none⟩ :: l) e σ K:=.extract hx hj hd hk
theorem Ops.ld (v:PV) {id ver off:Nat} {te:TypeId} {cells:List PV} (H:Has σ lo hi L) (k:Nat) (hk:L[k]? = some (.blk id te cells)) (hv:cells.length = ver) (hx:Z0 X e x = some (.ptr id ver off)) (hg:tagg X.P t1 = some false) (hc:cells[off]? = some v) (ha:dr = true→Seen ops base i id false) (hd:Nat.blt d n = true) (hk':Ops X n dr ops base (i + 1) l (set e d v) σ K):Ops X n dr ops base i (⟨some d,.load t1 x,t,p,af,none⟩ :: l) e σ K:=.loadH H k hk hv hx hg hc ha hd hk'
end
theorem sk {α:Type} {a b:α} (h:some a = some b):b = a:=(Option.some.inj h).symm
theorem V {α:Sort _} {a:α}:a = a:=rfl
theorem U:True:=trivial
theorem Has.wk {σ:Heap} {lo hi:Nat} {L:List Res} (H:Has σ lo hi L) {lo':Nat} (h:lo≤lo'):Has σ lo' hi L:=H.weak h (YB _)
abbrev vN (x:Net):List PV:=[vi x.Vars,vl Form.cs x.Forms,vl Con.cs x.Cons]
abbrev vC (x:Con):List PV:=[vi x.X,vi x.Y,vi x.Form,vi x.Range.Low,vi x.Range.High,vb x.Range.HasLow,vb x.Range.HasHigh]
abbrev vR (x:Range):List PV:=[vi x.Low,vi x.High,vb x.HasLow,vb x.HasHigh]
theorem sj {α:Type} {a b:α} (h:some a = some b):a = b:=Option.some.inj h
abbrev vF (f:Form):List PV:=[vi f.Period,vi f.Count,vl (cL Span.cs) f.Core,vl Granule.cs f.Odd]
abbrev vG (f:size_form):List PV:=[vi f.Form.Period,vi f.Form.Count,vl (cL Span.cs) f.Form.Core,vl Granule.cs f.Form.Odd,vl size_spot.cs f.spots]
theorem Z3r {a:prop_end} {b:prop_end} {there:prop_end→Option Bool} {more:prop_end→prop_end→Option Bool} {C:List Res} {cv0:PV} (hs0:cv0.one = true) (hp0:cv0.pure = true→C = []) (hf0:∀ z0 y,there z0 = some y→CloH CX cv0 [(.agg (vs (prop_end.cs z0)))] (vb y) C) {cv1:PV} (hs1:cv1.one = true) (hp1:cv1.pure = true→C = []) (hf1:∀ z0 z1 y,more z0 z1 = some y→CloH CX cv1 [(.agg (vs (prop_end.cs z0))),(.agg (vs (prop_end.cs z1)))] (vb y) C) {r:prop_end} (h:Zv a b there more = some r):FnH CX 24 [(.agg (vs (prop_end.cs a))),(.agg (vs (prop_end.cs b))),cv0,cv1] (.agg (vs (prop_end.cs r))) C:=by
 refine FnH.of Tryz.func24 V V V V (Z1Q V (Z1Q V (Z1Q (Z13 hs0) (Z1Q (Z13 hs1) all_nil)))) V (fun h => hp0 (Z1Y h 2 V)) ?_;intro σ L hC H;unfold Zv at h;refine .tR 3 V H fun b1 σ H => (.bxc (cs:=[(vi a.n),(vb a.there)]) H V V V fun σ H => (.bxc (cs:=[(vi b.n),(vb b.there)]) H V V V fun σ H => (.alc (cs:=[(vi 0),(vb false)]) H V V fun σ H => (.na H fun H => (.then (.tR 15 V H fun b2 σ H => (.m1 cv0 V V (.LV [(vi b.n),(vb b.there)] H 1 V ?_))))))));obtain ⟨x1,q1,h⟩:=bs h;refine .callV (cv:=cv0) (ys:=[(.agg (vs (prop_end.cs b)))]) (r:=(vb x1)) H V V (hf0 b _ q1) hC.push.push.push nofun V fun σ H => (.mV V ?_);obtain ⟨y1,hj1,h⟩:=bs h;refine .md H 11 [(23,(vb y1)),(4,(.ptr (b1 + 0) 2 0)),(5,(.ptr (b1 + 1) 2 0)),(8,(.ptr (b1 + 2) 2 0))] (.blk (b1 + 2) 68 [(vi 0),(vb false)] :: .blk (b1 + 1) 68 [(vi b.n),(vb b.there)] :: .blk (b1 + 0) 68 [(vi a.n),(vb a.there)] :: L) V ?_ fun e σ H => ?_
 ·refine .sp hj1 V ?_ ?_ <;> intro h
  ·refine .m1 cv0 V V (.LV [(vi a.n),(vb a.there)] H 2 V (.wt V V ?_));obtain ⟨x2,q2,h⟩:=bs h;refine .callV (cv:=cv0) (ys:=[(.agg (vs (prop_end.cs a)))]) (r:=(vb x2)) H V V (hf0 a _ q2) hC.push.push.push nofun V fun σ H => (.tV V (.mV V ?_));obtain ⟨y2,hj2,h⟩:=bs h;refine .md H 5 [(22,(vb y2)),(4,(.ptr (b1 + 0) 2 0)),(5,(.ptr (b1 + 1) 2 0)),(8,(.ptr (b1 + 2) 2 0)),(12,(vb true))] (.blk (b1 + 2) 68 [(vi 0),(vb false)] :: .blk (b1 + 1) 68 [(vi b.n),(vb b.there)] :: .blk (b1 + 0) 68 [(vi a.n),(vb a.there)] :: L) V ?_ fun e σ H => ?_
   ·refine .sp hj2 V ?_ ?_ <;> intro h
    ·refine .ps 4 V (.kT V (.nil ?_));obtain rfl:=sj h;exact ⟨EI V,H.wk (by omega)⟩
    refine .m1 cv1 V V (.LV [(vi b.n),(vb b.there)] H 1 V (.LV [(vi a.n),(vb a.there)] H 2 V (.wt V V ?_)));obtain ⟨x3,q3,h⟩:=bs h;refine .callV (cv:=cv1) (ys:=[(.agg (vs (prop_end.cs b))),(.agg (vs (prop_end.cs a)))]) (r:=(vb x3)) H V V (hf1 b a _ q3) hC.push.push.push nofun V fun σ H => (.kF V (.nil ?_));obtain rfl:=sj h;exact ⟨EI V,H.wk (by omega)⟩
   refine .kT V (.nil ?_);obtain rfl:=sj h;exact ⟨EI V,H.wk (by omega)⟩
  refine .ps 10 V (.kF V (.nil ?_));obtain rfl:=sj h;exact ⟨EI V,H.wk (by omega)⟩
 refine .na H fun H => ?_;refine .wh h V ?_ ?_ <;> intro h
 ·refine .tR 2 V H fun b3 σ H => (.LV [(vi b.n),(vb b.there)] H 1 V (.sV [(vi b.n),(vb b.there)] H 0 V fun σ H => (.na H fun H => (.ret ?_))));obtain rfl:=sj h;exact (EndsH.H (xs:=[(.agg [(vi b.n),(vb b.there)])]) (.inr V) H (.agg (cs:=[(vi b.n),(vb b.there)]) 0 V V V V V V V .nil) (.one (.p V)) 3 V)
 refine .skip (.tR 2 V H fun b4 σ H => (.LV [(vi a.n),(vb a.there)] H 2 V (.sV [(vi a.n),(vb a.there)] H 0 V fun σ H => (.na H fun H => (.ret ?_)))));obtain rfl:=sj h;exact (EndsH.H (xs:=[(.agg [(vi a.n),(vb a.there)])]) (.inr V) H (.agg (cs:=[(vi a.n),(vb a.there)]) 0 V V V V V V V .nil) (.one (.p V)) 3 V)
theorem Z9N {e':prop_end} {r:Bool} (h:Z25 e' = r):Fn CX 23 [(.agg (vs (prop_end.cs e')))] (vb r):=by
 refine Fn.go Tryz.func23 V fun σ H => ?_;unfold Z25 at h;refine .tR 2 V H fun b1 σ H => (.bxc (cs:=[(vi e'.n),(vb e'.there)]) H V V V fun σ H => (.aV V (.na H fun H => (.tR 3 V H fun b2 σ H => (.fV H 0 V (.lV H 0 V (.aV V (.na H fun H => ?_))))))));refine .ret ?_;subst h;exact Ends.eR V
theorem ZDx {a:prop_end} {b:prop_end} {r:Bool} (h:Z4U a b = r):Fn CX 25 [(.agg (vs (prop_end.cs a))),(.agg (vs (prop_end.cs b)))] (vb r):=by
 refine Fn.go Tryz.func25 V fun σ H => ?_;unfold Z4U at h;refine .tR 3 V H fun b1 σ H => (.bxc (cs:=[(vi a.n),(vb a.there)]) H V V V fun σ H => (.bxc (cs:=[(vi b.n),(vb b.there)]) H V V V fun σ H => (.aV V (.na H fun H => (.tR 6 V H fun b2 σ H => (.fV H 1 V (.lV H 1 V (.fV H 0 V ?_))))))));refine .lV H 0 V (.iV V (.aV V (.na H fun H => (.ret ?_))));subst h;exact Ends.eR V
theorem ZDL {a:prop_end} {b:prop_end} {r:Bool} (h:Z4O a b = r):Fn CX 26 [(.agg (vs (prop_end.cs a))),(.agg (vs (prop_end.cs b)))] (vb r):=by
 refine Fn.go Tryz.func26 V fun σ H => ?_;unfold Z4O at h;refine .tR 3 V H fun b1 σ H => (.bxc (cs:=[(vi a.n),(vb a.there)]) H V V V fun σ H => (.bxc (cs:=[(vi b.n),(vb b.there)]) H V V V fun σ H => (.aV V (.na H fun H => (.tR 6 V H fun b2 σ H => (.fV H 1 V (.lV H 1 V (.fV H 0 V ?_))))))));refine .lV H 0 V (.iV V (.aV V (.na H fun H => (.ret ?_))));subst h;exact Ends.eR V
theorem prop_Meet_fn {a:Range} {b:Range} {r:Range × Bool} (h:Z3J a b = some r):Fn CX 7 [(.agg (vs (Range.cs a))),(.agg (vs (Range.cs b)))] (.tup [(.agg (vs (Range.cs r.1))),(vb r.2)]):=by
 refine Fn.go Tryz.func7 V fun σ H => ?_;unfold Z3J at h;refine .tR 4 V H fun b1 σ H => (.bxc (cs:=(vR a)) H V V V fun σ H => (.bxc (cs:=(vR b)) H V V V fun σ H => (.alc (cs:=[(vi 0),(vi 0),(vb false),(vb false)]) H V V fun σ H => (.aV V (.na H fun H => (.tR 1 V H fun b2 σ H => (.aV V (.na H fun H => ?_))))))));refine .tR 14 V H fun b3 σ H => (.fV H 2 V (.lV H 2 V (.fV H 2 V (.lV H 2 V (.bV [(vi a.Low),(vb a.HasLow)] V (.fV H 1 V (.lV H 1 V (.fV H 1 V ?_))))))));refine .lV H 1 V (.bV [(vi b.Low),(vb b.HasLow)] V (.mV V ?_));obtain ⟨x1,q1,h⟩:=bs h;refine .Z3q (ys:=[(.agg (vs (prop_end.cs (prop_end.mk a.Low a.HasLow)))),(.agg (vs (prop_end.cs (prop_end.mk b.Low b.HasLow)))),(.v (.fn 23)),(.v (.fn 25))]) (r:=(.agg [(vi x1.n),(vb x1.there)])) H V (Z3r (C:=[]) V (fun _ => V) (fun z0 y hz => (CloH.fn (Fn.toH (Z9N (Option.some.inj hz)) _))) V (fun _ => V) (fun z0 z1 y hz => (CloH.fn (Fn.toH (ZDx (Option.some.inj hz)) _))) q1) .nil nofun V fun σ H => (.alc (cs:=[(vi 0),(vb false)]) H V V fun σ H => (.sV [(vi x1.n),(vb x1.there)] H 0 V fun σ H => (.na H fun H => (.tR 14 V H fun b4 σ H => (.fV H 3 V (.lV H 3 V (.fV H 3 V (.lV H 3 V ?_))))))));refine .bV [(vi a.High),(vb a.HasHigh)] V (.fV H 2 V (.lV H 2 V (.fV H 2 V (.lV H 2 V (.bV [(vi b.High),(vb b.HasHigh)] V (.mV V ?_))))))
 obtain ⟨x2,q2,h⟩:=bs h;refine .Z3q (ys:=[(.agg (vs (prop_end.cs (prop_end.mk a.High a.HasHigh)))),(.agg (vs (prop_end.cs (prop_end.mk b.High b.HasHigh)))),(.v (.fn 23)),(.v (.fn 26))]) (r:=(.agg [(vi x2.n),(vb x2.there)])) H V (Z3r (C:=[]) V (fun _ => V) (fun z0 y hz => (CloH.fn (Fn.toH (Z9N (Option.some.inj hz)) _))) V (fun _ => V) (fun z0 z1 y hz => (CloH.fn (Fn.toH (ZDL (Option.some.inj hz)) _))) q2) .nil nofun V fun σ H => (.alc (cs:=[(vi 0),(vb false)]) H V V fun σ H => (.sV [(vi x2.n),(vb x2.there)] H 0 V fun σ H => (.na H fun H => (.then (.tR 13 V H fun b5 σ H => (.fV H 1 V (.lV H 1 V (.mV V ?_))))))));refine .md H 3 [(38,(vb (x1.there && x2.there))),(4,(.ptr (b1 + 2) 4 0)),(7,(.ptr (b3 + 12) 2 0)),(8,(.ptr (b4 + 12) 2 0))] [.blk (b4 + 12) 68 [(vi x2.n),(vb x2.there)],.blk (b3 + 12) 68 [(vi x1.n),(vb x1.there)],.blk (b1 + 2) 27 [(vi 0),(vi 0),(vb false),(vb false)]] V ?_ fun e σ H => ?_
 ·refine .split V V ?_ ?_ <;> intro hc1
  ·refine .fV H 0 V (.lV H 0 V (.kT V (.nil ?_)));exact ⟨⟨Z0r hc1,V,V,V,U⟩,((H.erase 4).erase 3).wk (by omega)⟩
  ·refine .ps 2 V (.kF V (.nil ?_));exact ⟨⟨Z0s hc1,V,V,V,U⟩,((H.erase 4).erase 3).wk (by omega)⟩
 refine .mV V ?_;refine .md H 6 [(45,(vb ((x1.there && x2.there) && (decide (x1.n > x2.n))))),(4,(.ptr (b1 + 2) 4 0)),(7,(.ptr (b3 + 12) 2 0)),(8,(.ptr (b4 + 12) 2 0))] [.blk (b4 + 12) 68 [(vi x2.n),(vb x2.there)],.blk (b3 + 12) 68 [(vi x1.n),(vb x1.there)],.blk (b1 + 2) 27 [(vi 0),(vi 0),(vb false),(vb false)]] V ?_ fun e σ H => ?_
 ·refine .split V V ?_ ?_ <;> intro hc2
  ·refine .fV H 1 V (.lV H 1 V (.fV H 0 V (.lV H 0 V (.iV V (.kT V (.nil ?_))))));exact ⟨⟨Z0r hc2,V,V,V,U⟩,H.wk (by omega)⟩
  ·refine .ps 5 V (.kF V (.nil ?_));exact ⟨⟨Z0s hc2,V,V,V,U⟩,H.wk (by omega)⟩
 refine .na H fun H => ?_;refine .wh h V ?_ ?_ <;> intro h
 ·refine .tR 3 V H fun b6 σ H => (.bV [(vi 0),(vi 0),(vb false),(vb false)] V (.sV [(vi 0),(vi 0),(vb false),(vb false)] H 2 V fun σ H => (.aV V (.na H fun H => (.ret ?_)))));obtain rfl:=sj h;exact (Ends.H (xs:=[(.agg [(vi 0),(vi 0),(vb false),(vb false)]),(vb false)]) (.inr V) H (.agg (cs:=[(vi 0),(vi 0),(vb false),(vb false)]) 2 V V V V V V V (.tmp (v:=(vb false)) V .nil)) (.two (.cons (.p V) (.cons (.c (.v _)) .nil))))
 refine .skip (.tR 11 V H fun b7 σ H => (.fV H 1 V (.lV H 1 V (.fV H 0 V (.lV H 0 V (.fV H 1 V (.lV H 1 V (.fV H 0 V ?_))))))));refine .lV H 0 V (.bV [(vi x1.n),(vi x2.n),(vb x1.there),(vb x2.there)] V (.sV [(vi x1.n),(vi x2.n),(vb x1.there),(vb x2.there)] H 2 V fun σ H => (.aV V (.na H fun H => (.ret ?_)))));obtain rfl:=sj h;exact (Ends.H (xs:=[(.agg [(vi x1.n),(vi x2.n),(vb x1.there),(vb x2.there)]),(vb true)]) (.inr V) H (.agg (cs:=[(vi x1.n),(vi x2.n),(vb x1.there),(vb x2.there)]) 2 V V V V V V V (.tmp (v:=(vb true)) V .nil)) (.two (.cons (.p V) (.cons (.c (.v _)) .nil))))
theorem Z6E {i:Int} {many:Int} {r:Bool} (h:Z0c i many = r):Fn CX 31 [(vi i),(vi many)] (vb r):=by
 refine Fn.go Tryz.func31 V fun σ H => ?_;unfold Z0c at h;refine .tR 1 V H fun b1 σ H => (.aV V (.na H fun H => (.tR 8 V H fun b2 σ H => (.mV V (.iV V (.mV V ?_))))));refine .md H 4 [(11,(vb ((decide (i ≥ 0)) && (decide (i < many)))))] [] V ?_ fun e σ H => ?_
 ·refine .split V V ?_ ?_ <;> intro hc1
  ·refine .mV V (.mV V (.iV V (.kT V (.nil ?_))));exact ⟨⟨Z0r hc1,U⟩,H.wk (by omega)⟩
  ·refine .ps 3 V (.kF V (.nil ?_));exact ⟨⟨Z0s hc1,U⟩,H.wk (by omega)⟩
 refine .aV V (.na H fun H => (.ret ?_));subst h;exact Ends.eR V
theorem Z5Q {s:(List Form)} {f:Form→Option Bool} {C:List Res} {cv0:PV} (hs0:cv0.one = true) (hp0:cv0.pure = true→C = []) (hf0:∀ z0 y,f z0 = some y→CloH CX cv0 [(.agg (vs (Form.cs z0)))] (vb y) C) {r:Int} (h:ZN s f = some r):FnH CX 53 [(vl Form.cs s),cv0] (vi r) C:=by
 refine FnH.of Tryz.func53 V V V V (Z1Q V (Z1Q (Z13 hs0) all_nil)) V (fun h => hp0 (Z1Y h 1 V)) ?_;intro σ L hC H;unfold ZN at h;refine .tR 1 V H fun b1 σ H => (.aV V (.na H fun H => (.then (.tR 3 V H fun b2 σ H => (.mV V (.nV V (.mV V (.na H fun H => ?_))))))));refine .inBlock ?_;obtain ⟨y1,hj1,h⟩:=bs h;obtain ⟨n1,hj1⟩:=ZW.1 hj1;refine .mono (Runs.loopO hj1 (fun s1 e σ => Z5 e [(0,(vl Form.cs s)),(1,cv0),(7,(vi (s.length:Int))),(8,(vi s1))]∧Hs σ (L)) (fun y1 x e σ => (∃ a1,y1 = (.go a1)∧x = .exit 0∧Z5 e []∧Hs σ (L))∨(∃ r',y1 = (.ret r')∧x = .ret∧EndsH CX Tryz.f53.results.toList (vi r') L x e σ)) ⟨EI V,H⟩ ?_) ?_
 ·intro s1 e σ hI z h;obtain ⟨he,H⟩:=hI;obtain ⟨e,rfl⟩:=he.ex;unfold ZN.s0 at h;refine .tR 1 V H fun b3 σ H => (.iV V (.na H fun H => (.then ?_)));refine .wh h V ?_ ?_ <;> intro h
  ·refine .skip (.then (.inBlock (.tR 2 V H fun b4 σ H => (.mV V (.aV V (.na H fun H => (.tR 6 V H fun b5 σ H => (.m1 cv0 V V ?_))))))));refine .mV V (.mV V ?_);obtain ⟨x1,q1,h⟩:=bs h;refine .jV q1 V (.qV [(.int .i64 x1.Period),(.int .i64 x1.Count),(.sl (x1.Core.map (cL Span.cs))),(.sl (x1.Odd.map Granule.cs))] V ?_);obtain ⟨x2,q2,h⟩:=bs h;refine .callV (cv:=cv0) (ys:=[(.agg (vs (Form.cs x1)))]) (r:=(vb x2)) H V V (hf0 x1 _ q2) hC nofun V fun σ H => (.na H fun H => ?_);refine .wh h V ?_ ?_ <;> intro h
   ·refine .tR 2 V H fun b6 σ H => (.mV V (.aV V (.na H fun H => (.ret ?_))));obtain rfl:=sj h;exact ⟨nofun,(.inr ⟨_,V,V,(EndsH.H (xs:=[(vi s1)]) (.inr V) H (.tmp (v:=(vi s1)) V .nil) (.one (.c (.v _))) 0 V)⟩)⟩
   refine .skip (.Z7 2 V H fun b7 σ H => (.iV V (.mV V (.na H fun H => ?_))));obtain rfl:=sj h;exact ⟨V,EI V,H⟩
  refine .exit ?_;obtain rfl:=sj h;exact ⟨nofun,(.inl ⟨_,V,V,U,H⟩)⟩
 ·rintro x e σ (⟨a2,rfl,rfl,he,H⟩ | ⟨r',rfl,rfl,hE⟩)
  ·replace h:=jgo h;obtain ⟨e,rfl⟩:=he.ex;refine .tR 1 V H fun b8 σ H => (.aV V (.na H fun H => (.ret ?_)));obtain rfl:=sj h;exact (EndsH.H (xs:=[(vi (-1))]) (.inr V) H (.tmp (v:=(vi (-1))) V .nil) (.one (.c (.v _))) 0 V)
  ·replace h:=jret h;obtain rfl:=sj h;exact hE
theorem Z4d {s:(List Form)} {f:Form→Option Bool} {C:List Res} {cv0:PV} (hs0:cv0.one = true) (hp0:cv0.pure = true→C = []) (hf0:∀ z0 y,f z0 = some y→CloH CX cv0 [(.agg (vs (Form.cs z0)))] (vb y) C) {r:Bool} (h:Zt s f = some r):FnH CX 32 [(vl Form.cs s),cv0] (vb r) C:=by
 refine FnH.of Tryz.func32 V V V V (Z1Q V (Z1Q (Z13 hs0) all_nil)) V (fun h => hp0 (Z1Y h 1 V)) ?_;intro σ L hC H;unfold Zt at h;refine .tR 1 V H fun b1 σ H => (.aV V (.na H fun H => (.tR 5 V H fun b2 σ H => (.mV V (.m1 cv0 V V ?_)))));obtain ⟨x1,q1,h⟩:=bs h;refine .Z3q (ys:=[(vl Form.cs s),cv0]) (r:=(vi x1)) H V (Z5Q (C:=C) hs0 hp0 hf0 q1) hC nofun V fun σ H => (.iV V (.aV V (.na H fun H => (.ret ?_))));obtain rfl:=sj h;exact (EndsH.H (xs:=[(vb (decide (x1 ≥ 0)))]) (.inr V) H (.tmp (v:=(vb (decide (x1 ≥ 0)))) V .nil) (.one (.c (.v _))) 0 V)
theorem ZBA {f:Form} {r:Int} (h:Z0M f = some r):Fn CX 49 [(.agg (vs (Form.cs f)))] (vi r):=by
 refine Fn.go Tryz.func49 V fun σ H => ?_;unfold Z0M at h;refine .tR 2 V H fun b1 σ H => (.bxc (cs:=(vF f)) H V V V fun σ H => (.aV V (.na H fun H => (.tR 1 V H fun b2 σ H => (.aV V (.na H fun H => (.then (.tR 4 V H fun b3 σ H => ?_))))))));refine .fV H 0 V (.lV H 0 V (.nV V (.mV V (.na H fun H => (.inBlock ?_)))));refine .lp h (fun s1 => [(1,(.ptr (b1 + 0) 4 0)),(3,(vi s1.1)),(9,(vl (cL Span.cs) f.Core)),(10,(vi (f.Core.length:Int))),(11,(vi s1.2))]) (fun s1 => [.blk (b1 + 0) 64 (vF f)]) (.exit 0) (fun y1 => [(1,(.ptr (b1 + 0) 4 0)),(3,(vi y1))]) (fun y1 => [.blk (b1 + 0) 64 (vF f)]) (EI V) H (fun s1 e σ H z h => ?_) fun y1 e σ H h => ?_
 ·unfold Z0M.s0 at h;refine .tR 1 V H fun b4 σ H => (.iV V (.na H fun H => (.then ?_)));refine .wh h V ?_ ?_ <;> intro h
  ·refine .skip (.then (.inBlock (.tR 3 V H fun b5 σ H => ?_)));obtain ⟨x1,q1,h⟩:=bs h;refine .jV q1 V (.pV V (.aV V (.na H fun H => (.Z7 5 V H fun b6 σ H => (.mV V (.mV V (.nV V (.iV V ?_))))))));refine .aV V (.na H fun H => (.Z7 2 V H fun b7 σ H => (.iV V (.mV V (.na H fun H => ?_)))));obtain rfl:=sj h;exact ⟨V,EI V,H⟩
  refine .exit ?_;obtain rfl:=sj h;exact ⟨nofun,⟨V,EI V,H⟩⟩
 refine .then (.tR 4 V H fun b8 σ H => (.fV H 0 V (.lV H 0 V (.nV V (.mV V (.na H fun H => (.inBlock ?_)))))));refine .lp h (fun s2 => [(3,(vi s2.1)),(21,(vl Granule.cs f.Odd)),(22,(vi (f.Odd.length:Int))),(23,(vi s2.2))]) (fun s2 => []) (.exit 2) (fun y2 => [(3,(vi y2))]) (fun y2 => []) (EI V) (H.erase 0) (fun s2 e σ H z h => ?_) fun y2 e σ H h => ?_
 ·unfold Z0M.s1 at h;refine .tR 1 V H fun b9 σ H => (.iV V (.na H fun H => (.then ?_)));refine .wh h V ?_ ?_ <;> intro h
  ·refine .skip (.then (.inBlock (.tR 4 V H fun b10 σ H => ?_)));obtain ⟨x2,q2,h⟩:=bs h;refine .jV q2 V (.qV [(.int .i64 x2.Index),(.sl (x2.Ticks.map Span.cs))] V (.alc (cs:=[(vi 0),.nils]) H V V fun σ H => (.sV [(vi x2.Index),(vl Span.cs x2.Ticks)] H 0 V fun σ H => (.na H fun H => (.Z7 6 V H fun b11 σ H => (.mV V (.fV H 0 V (.lV H 0 V ?_))))))));refine .nV V (.iV V (.aV V (.na H fun H => (.Z7 2 V H fun b12 σ H => (.iV V (.mV V (.na H fun H => ?_)))))));obtain rfl:=sj h;exact ⟨V,EI V,(H.erase 0)⟩
  refine .exit ?_;obtain rfl:=sj h;exact ⟨nofun,⟨V,EI V,H⟩⟩
 refine .tR 2 V H fun b13 σ H => (.mV V (.aV V (.na H fun H => (.ret ?_))));obtain rfl:=sj h;exact Ends.eR V
theorem Z5V {t:Int} {r:Bool} (h:Z1A t = r):Fn CX 100 [(vi t)] (vb r):=by
 refine Fn.go Tryz.func100 V fun σ H => ?_;unfold Z1A at h;refine .tR 1 V H fun b1 σ H => (.aV V (.na H fun H => (.tR 7 V H fun b2 σ H => (.mV V (.iV V (.mV V ?_))))));refine .md H 3 [(8,(vb ((decide (t ≥ (-1099511627776))) && (decide (t≤1099511627776)))))] [] V ?_ fun e σ H => ?_
 ·refine .split V V ?_ ?_ <;> intro hc1
  ·refine .mV V (.iV V (.kT V (.nil ?_)));exact ⟨⟨Z0r hc1,U⟩,H.wk (by omega)⟩
  ·refine .ps 2 V (.kF V (.nil ?_));exact ⟨⟨Z0s hc1,U⟩,H.wk (by omega)⟩
 refine .aV V (.na H fun H => (.ret ?_));subst h;exact Ends.eR V
theorem Z8n {l:(List Span)} {r:Bool} (h:Z0Q l = some r):Fn CX 77 [(vl Span.cs l)] (vb r):=by
 refine Fn.go Tryz.func77 V fun σ H => ?_;unfold Z0Q at h;refine .tR 1 V H fun b1 σ H => (.aV V (.na H fun H => (.then (.tR 3 V H fun b2 σ H => (.mV V (.nV V (.mV V (.na H fun H => ?_))))))));refine .inBlock ?_;obtain ⟨y1,hj1,h⟩:=bs h;obtain ⟨n1,hj1⟩:=ZW.1 hj1;refine .mono (Runs.loopO hj1 (fun s1 e σ => Z5 e [(0,(vl Span.cs l)),(5,(vl Span.cs l)),(6,(vi (l.length:Int))),(7,(vi s1))]∧Hs σ []) (fun y1 x e σ => (∃ a1,y1 = (.go a1)∧x = .exit 0∧Z5 e []∧Hs σ [])∨(∃ r',y1 = (.ret r')∧x = .ret∧Ends CX Tryz.f77.results.toList (vb r') x e σ)) ⟨EI V,H⟩ ?_) ?_
 ·intro s1 e σ hI z h;obtain ⟨he,H⟩:=hI;obtain ⟨e,rfl⟩:=he.ex;unfold Z0Q.s0 at h;refine .tR 1 V H fun b3 σ H => (.iV V (.na H fun H => (.then ?_)));refine .wh h V ?_ ?_ <;> intro h
  ·refine .skip (.then (.inBlock (.tR 6 V H fun b4 σ H => (.mV V ?_))));obtain ⟨x1,q1,h⟩:=bs h;refine .jV q1 V (.qV [(.int .i64 x1.From),(.int .i64 x1.To)] V (.alc (cs:=[(vi 0),(vi 0)]) H V V fun σ H => (.aV V (.sV [(vi x1.From),(vi x1.To)] H 0 V fun σ H => (.na H fun H => (.then (.Z0T 33 V (by kernel_rfl) H fun b5 σ H B5 => (.Z2 H 0 V V V V V (so (B5 0 _ V _ V)) V ?_))))))));refine .ld (vi x1.From) H 0 V V V V V (so (B5 0 _ V _ V)) V (.cV (Z5V V) V (.tV V (.mV V ?_)));refine .md H 5 [(21,(vb ((!(Z1A x1.From)) || (!(Z1A x1.To))))),(0,(vl Span.cs l)),(3,(vi s1)),(4,(.ptr (b4 + 3) 2 0)),(5,(vl Span.cs l)),(6,(vi (l.length:Int))),(7,(vi s1))] [.blk (b4 + 3) 108 [(vi x1.From),(vi x1.To)]] rfl ?_ fun e σ H => ?_
   ·refine .split V V ?_ ?_ <;> intro hc2
    ·refine .ps 4 V (.kT V (.nil ?_));exact ⟨⟨or_T hc2,V,V,V,V,V,V,U⟩,H.wk (by omega)⟩
    ·refine .wt V V (.Z2 H 0 V V V V V (so (B5 0 _ V _ V)) V (.wt V V (.ld (vi x1.To) H 0 V V V V V (so (B5 0 _ V _ V)) V (.cV (Z5V V) V (.tV V (.kF V (.nil ?_)))))));exact ⟨⟨or_F hc2,V,V,V,V,V,V,U⟩,H.wk (by omega)⟩
   refine .mV V ?_;refine .md H 6 [(28,(vb (((!(Z1A x1.From)) || (!(Z1A x1.To))) || (decide (x1.From > x1.To))))),(0,(vl Span.cs l)),(3,(vi s1)),(4,(.ptr (b4 + 3) 2 0)),(5,(vl Span.cs l)),(6,(vi (l.length:Int))),(7,(vi s1))] [.blk (b4 + 3) 108 [(vi x1.From),(vi x1.To)]] rfl ?_ fun e σ H => ?_
   ·refine .split V V ?_ ?_ <;> intro hc3
    ·refine .ps 5 V (.kT V (.nil ?_));exact ⟨⟨or_T hc3,V,V,V,V,V,V,U⟩,H.wk (by omega)⟩
    ·refine .wt V V (.Z2 H 0 V V V V V (so (B5 0 _ V _ V)) V (.wt V V (.ld (vi x1.From) H 0 V V V V V (so (B5 0 _ V _ V)) V (.wt V V (.Z2 H 0 V V V V V (so (B5 0 _ V _ V)) V (.wt V V (.ld (vi x1.To) H 0 V V V V V (so (B5 0 _ V _ V)) V (.iV V ?_))))))));refine .kF V (.nil ?_);exact ⟨⟨or_F hc3,V,V,V,V,V,V,U⟩,H.wk (by omega)⟩
   refine .mV V ?_;obtain ⟨y2,hj2,h⟩:=bs h;refine .md H 15 [(44,(vb y2)),(0,(vl Span.cs l)),(5,(vl Span.cs l)),(6,(vi (l.length:Int))),(7,(vi s1))] [] V ?_ fun e σ H => ?_
   ·refine .sp hj2 V ?_ ?_ <;> intro h
    ·refine .ps 14 V (.kT V (.nil ?_));obtain rfl:=sj h;exact ⟨EI V,(H.erase 0).wk (by omega)⟩
    refine .mV V (.iV V (.mV V ?_));obtain ⟨y3,hj3,h⟩:=bs h;refine .md H 11 [(43,(vb y3)),(0,(vl Span.cs l)),(5,(vl Span.cs l)),(6,(vi (l.length:Int))),(7,(vi s1)),(29,(vb false))] [] V ?_ fun e σ H => ?_
    ·refine .sp hj3 V ?_ ?_ <;> intro h
     ·refine .wt V V (.Z2 H 0 V V V V V (so (B5 0 _ V _ V)) V (.wt V V (.ld (vi x1.From) H 0 V V V V V (so (B5 0 _ V _ V)) V (.mV V (.mV V (.iV V (.wt V V ?_)))))));obtain ⟨x2,q2,h⟩:=bs h;refine .jV q2 V (.wt V V (.Z0G V V V V (.pV V (.iV V (.iV V (.kT V (.nil ?_)))))));obtain rfl:=sj h;exact ⟨EI V,(H.erase 0).wk (by omega)⟩
     refine .ps 10 V (.kF V (.nil ?_));obtain rfl:=sj h;exact ⟨EI V,(H.erase 0).wk (by omega)⟩
    refine .kF V (.nil ?_);obtain rfl:=sj h;exact ⟨EI V,H.wk (by omega)⟩
   refine .na H fun H => ?_;refine .wh h V ?_ ?_ <;> intro h
   ·refine .tR 1 V H fun b6 σ H => (.aV V (.na H fun H => (.ret ?_)));obtain rfl:=sj h;exact ⟨nofun,(.inr ⟨_,V,V,(Ends.H (xs:=[(vb false)]) (.inr V) H (.tmp (v:=(vb false)) V .nil) (.one (.c (.v _))))⟩)⟩
   refine .skip (.Z7 2 V H fun b7 σ H => (.iV V (.mV V (.na H fun H => ?_))));obtain rfl:=sj h;exact ⟨V,EI V,H⟩
  refine .exit ?_;obtain rfl:=sj h;exact ⟨nofun,(.inl ⟨_,V,V,U,H⟩)⟩
 ·rintro x e σ (⟨a2,rfl,rfl,he,H⟩ | ⟨r',rfl,rfl,hE⟩)
  ·replace h:=jgo h;obtain ⟨e,rfl⟩:=he.ex;refine .tR 1 V H fun b8 σ H => (.aV V (.na H fun H => (.ret ?_)));obtain rfl:=sj h;exact Ends.eR V
  ·replace h:=jret h;obtain rfl:=sj h;exact hE
theorem Z5p {i:Int} {r:Bool} (h:Z1L i = r):Fn CX 78 [(vi i)] (vb r):=by
 refine Fn.go Tryz.func78 V fun σ H => ?_;unfold Z1L at h;refine .tR 1 V H fun b1 σ H => (.aV V (.na H fun H => (.tR 7 V H fun b2 σ H => (.mV V (.iV V (.mV V ?_))))));refine .md H 3 [(8,(vb ((decide (i ≥ (-1099511627776))) && (decide (i≤1099511627776)))))] [] V ?_ fun e σ H => ?_
 ·refine .split V V ?_ ?_ <;> intro hc1
  ·refine .mV V (.iV V (.kT V (.nil ?_)));exact ⟨⟨Z0r hc1,U⟩,H.wk (by omega)⟩
  ·refine .ps 2 V (.kF V (.nil ?_));exact ⟨⟨Z0s hc1,U⟩,H.wk (by omega)⟩
 refine .aV V (.na H fun H => (.ret ?_));subst h;exact Ends.eR V
theorem gran_shape_fn {f:Form} {r:Bool} (h:Zs f = some r):Fn CX 50 [(.agg (vs (Form.cs f)))] (vb r):=by
 refine Fn.go Tryz.func50 V fun σ H => ?_;unfold Zs at h;refine .tR 2 V H fun b1 σ H => (.bxc (cs:=(vF f)) H V V V fun σ H => (.aV V (.na H fun H => (.then (.tR 25 V H fun b2 σ H => (.fV H 0 V (.lV H 0 V (.fV H 0 V ?_))))))));refine .lV H 0 V (.nV V (.iV V (.mV V ?_)));refine .md H 8 [(21,(vb ((f.Count != (f.Core.length:Int)) || ((f.Count == 0) != (f.Period == 0))))),(1,(.ptr (b1 + 0) 4 0))] [.blk (b1 + 0) 64 (vF f)] rfl ?_ fun e σ H => ?_
 ·refine .split V V ?_ ?_ <;> intro hc1
  ·refine .ps 7 V (.kT V (.nil ?_));exact ⟨⟨or_T hc1,V,U⟩,H.wk (by omega)⟩
  ·refine .fV H 0 V (.lV H 0 V (.iV V (.fV H 0 V (.lV H 0 V (.iV V (.wt V V (.neB (b:=(f.Count == 0)) (b':=(f.Period == 0)) V V V V (.kF V ?_))))))));refine .nil ?_;exact ⟨⟨or_F hc1,V,U⟩,H.wk (by omega)⟩
 refine .mV V ?_;refine .md H 4 [(26,(vb (((f.Count != (f.Core.length:Int)) || ((f.Count == 0) != (f.Period == 0))) || (decide (f.Period < 0))))),(1,(.ptr (b1 + 0) 4 0))] [.blk (b1 + 0) 64 (vF f)] rfl ?_ fun e σ H => ?_
 ·refine .split V V ?_ ?_ <;> intro hc2
  ·refine .ps 3 V (.kT V (.nil ?_));exact ⟨⟨or_T hc2,V,U⟩,H.wk (by omega)⟩
  ·refine .fV H 0 V (.lV H 0 V (.iV V (.kF V (.nil ?_))));exact ⟨⟨or_F hc2,V,U⟩,H.wk (by omega)⟩
 refine .mV V ?_;refine .md H 4 [(31,(vb ((((f.Count != (f.Core.length:Int)) || ((f.Count == 0) != (f.Period == 0))) || (decide (f.Period < 0))) || (decide (f.Period > 1099511627776))))),(1,(.ptr (b1 + 0) 4 0))] [.blk (b1 + 0) 64 (vF f)] rfl ?_ fun e σ H => ?_
 ·refine .split V V ?_ ?_ <;> intro hc3
  ·refine .ps 3 V (.kT V (.nil ?_));exact ⟨⟨or_T hc3,V,U⟩,H.wk (by omega)⟩
  ·refine .fV H 0 V (.lV H 0 V (.iV V (.kF V (.nil ?_))));exact ⟨⟨or_F hc3,V,U⟩,H.wk (by omega)⟩
 refine .na H fun H => ?_;refine .wh h V ?_ ?_ <;> intro h
 ·refine .tR 1 V H fun b3 σ H => (.aV V (.na H fun H => (.ret ?_)));obtain rfl:=sj h;exact Ends.eR V
 refine .skip (.then (.tR 4 V H fun b4 σ H => (.fV H 0 V (.lV H 0 V (.nV V (.mV V (.na H fun H => (.inBlock ?_))))))));obtain ⟨y1,hj1,h⟩:=bs h;obtain ⟨n1,hj1⟩:=ZW.1 hj1;refine .mono (Runs.loopO hj1 (fun s1 e σ => Z5 e [(1,(.ptr (b1 + 0) 4 0)),(33,(vl (cL Span.cs) f.Core)),(34,(vi (f.Core.length:Int))),(35,(vi s1))]∧Hs σ [.blk (b1 + 0) 64 (vF f)]) (fun y1 x e σ => (∃ a1,y1 = (.go a1)∧x = .exit 0∧Z5 e [(1,(.ptr (b1 + 0) 4 0))]∧Hs σ [.blk (b1 + 0) 64 (vF f)])∨(∃ r',y1 = (.ret r')∧x = .ret∧Ends CX Tryz.f50.results.toList (vb r') x e σ)) ⟨EI V,H⟩ ?_) ?_
 ·intro s1 e σ hI z h;obtain ⟨he,H⟩:=hI;obtain ⟨e,rfl⟩:=he.ex;unfold Zs.s0 at h;refine .tR 1 V H fun b5 σ H => (.iV V (.na H fun H => (.then ?_)));refine .wh h V ?_ ?_ <;> intro h
  ·refine .skip (.then (.inBlock (.tR 3 V H fun b6 σ H => ?_)));obtain ⟨x1,q1,h⟩:=bs h;refine .jV q1 V (.pV V (.aV V (.na H fun H => (.tR 3 V H fun b7 σ H => (.mV V ?_)))));obtain ⟨x2,q2,h⟩:=bs h;refine .cV (Z8n q2) V (.tV V (.na H fun H => ?_));refine .wh h V ?_ ?_ <;> intro h
   ·refine .tR 1 V H fun b8 σ H => (.aV V (.na H fun H => (.ret ?_)));obtain rfl:=sj h;exact ⟨nofun,(.inr ⟨_,V,V,(Ends.H (xs:=[(vb false)]) (.inr V) H (.tmp (v:=(vb false)) V .nil) (.one (.c (.v _))))⟩)⟩
   refine .skip (.Z7 2 V H fun b9 σ H => (.iV V (.mV V (.na H fun H => ?_))));obtain rfl:=sj h;exact ⟨V,EI V,H⟩
  refine .exit ?_;obtain rfl:=sj h;exact ⟨nofun,(.inl ⟨_,V,V,EI V,H⟩)⟩
 ·rintro x e σ (⟨a2,rfl,rfl,he,H⟩ | ⟨r',rfl,rfl,hE⟩)
  ·replace h:=jgo h;obtain ⟨e,rfl⟩:=he.ex;refine .then (.tR 4 V H fun b10 σ H => (.fV H 0 V (.lV H 0 V (.nV V (.mV V (.na H fun H => (.inBlock ?_)))))));obtain ⟨y2,hj2,h⟩:=bs h;obtain ⟨n2,hj2⟩:=ZW.1 hj2;refine .mono (Runs.loopO hj2 (fun s2 e σ => Z5 e [(1,(.ptr (b1 + 0) 4 0)),(44,(vl Granule.cs f.Odd)),(45,(vi (f.Odd.length:Int))),(46,(vi s2))]∧Hs σ [.blk (b1 + 0) 64 (vF f)]) (fun y2 x e σ => (∃ a3,y2 = (.go a3)∧x = .exit 2∧Z5 e []∧Hs σ [])∨(∃ r',y2 = (.ret r')∧x = .ret∧Ends CX Tryz.f50.results.toList (vb r') x e σ)) ⟨EI V,H⟩ ?_) ?_
   ·intro s2 e σ hI z h;obtain ⟨he,H⟩:=hI;obtain ⟨e,rfl⟩:=he.ex;unfold Zs.s1 at h;refine .tR 1 V H fun b11 σ H => (.iV V (.na H fun H => (.then ?_)));refine .wh h V ?_ ?_ <;> intro h
    ·refine .skip (.then (.inBlock (.tR 6 V H fun b12 σ H => (.mV V ?_))));obtain ⟨x3,q3,h⟩:=bs h;refine .jV q3 V (.qV [(.int .i64 x3.Index),(.sl (x3.Ticks.map Span.cs))] V (.alc (cs:=[(vi 0),.nils]) H V V fun σ H => (.aV V (.sV [(vi x3.Index),(vl Span.cs x3.Ticks)] H 0 V fun σ H => (.na H fun H => (.then (.Z0T 26 V (by kernel_rfl) H fun b13 σ H B13 => (.Z2 H 0 V V V V V (so (B13 0 _ V _ V)) V ?_))))))));refine .ld (vl Span.cs x3.Ticks) H 0 V V V V V (so (B13 0 _ V _ V)) V ?_;obtain ⟨x4,q4,h⟩:=bs h;refine .cV (Z8n q4) V (.tV V (.mV V ?_));refine .md H 5 [(60,(vb ((!x4) || (!(Z1L x3.Index))))),(1,(.ptr (b1 + 0) 4 0)),(5,(vi s2)),(6,(.ptr (b12 + 3) 2 0)),(44,(vl Granule.cs f.Odd)),(45,(vi (f.Odd.length:Int))),(46,(vi s2))] [.blk (b12 + 3) 99 [(vi x3.Index),(vl Span.cs x3.Ticks)],.blk (b1 + 0) 64 (vF f)] rfl ?_ fun e σ H => ?_
     ·refine .split V V ?_ ?_ <;> intro hc8
      ·refine .ps 4 V (.kT V (.nil ?_));exact ⟨⟨or_T hc8,V,V,V,V,V,V,U⟩,H.wk (by omega)⟩
      ·refine .wt V V (.Z2 H 0 V V V V V (so (B13 0 _ V _ V)) V (.wt V V (.ld (vi x3.Index) H 0 V V V V V (so (B13 0 _ V _ V)) V (.cV (Z5p V) V (.tV V (.kF V (.nil ?_)))))));exact ⟨⟨or_F hc8,V,V,V,V,V,V,U⟩,H.wk (by omega)⟩
     refine .mV V ?_;obtain ⟨y3,hj3,h⟩:=bs h;refine .md H 15 [(76,(vb y3)),(1,(.ptr (b1 + 0) 4 0)),(44,(vl Granule.cs f.Odd)),(45,(vi (f.Odd.length:Int))),(46,(vi s2))] [.blk (b1 + 0) 64 (vF f)] V ?_ fun e σ H => ?_
     ·refine .sp hj3 V ?_ ?_ <;> intro h
      ·refine .ps 14 V (.kT V (.nil ?_));obtain rfl:=sj h;exact ⟨EI V,(H.erase 0).wk (by omega)⟩
      refine .mV V (.iV V (.mV V ?_));obtain ⟨y4,hj4,h⟩:=bs h;refine .md H 11 [(75,(vb y4)),(1,(.ptr (b1 + 0) 4 0)),(44,(vl Granule.cs f.Odd)),(45,(vi (f.Odd.length:Int))),(46,(vi s2)),(61,(vb false))] [.blk (b1 + 0) 64 (vF f)] V ?_ fun e σ H => ?_
      ·refine .sp hj4 V ?_ ?_ <;> intro h
       ·refine .wt V V (.Z2 H 0 V V V V V (so (B13 0 _ V _ V)) V (.wt V V (.ld (vi x3.Index) H 0 V V V V V (so (B13 0 _ V _ V)) V (.wt V V (.Z2 H 1 V V V V V (so (B13 1 _ V _ V)) V (.wt V V (.ld (vl Granule.cs f.Odd) H 1 V V V V V (so (B13 1 _ V _ V)) V (.mV V ?_))))))));refine .iV V (.wt V V ?_);obtain ⟨x5,q5,h⟩:=bs h;refine .jV q5 V (.wt V V (.Z0G V V V V (.pV V (.iV V (.kT V (.nil ?_))))));obtain rfl:=sj h;exact ⟨EI V,(H.erase 0).wk (by omega)⟩
       refine .ps 10 V (.kF V (.nil ?_));obtain rfl:=sj h;exact ⟨EI V,(H.erase 0).wk (by omega)⟩
      refine .kF V (.nil ?_);obtain rfl:=sj h;exact ⟨EI V,H.wk (by omega)⟩
     refine .na H fun H => ?_;refine .wh h V ?_ ?_ <;> intro h
     ·refine .tR 1 V H fun b14 σ H => (.aV V (.na H fun H => (.ret ?_)));obtain rfl:=sj h;exact ⟨nofun,(.inr ⟨_,V,V,(Ends.H (xs:=[(vb false)]) (.inr V) H (.tmp (v:=(vb false)) V .nil) (.one (.c (.v _))))⟩)⟩
     refine .skip (.Z7 2 V H fun b15 σ H => (.iV V (.mV V (.na H fun H => ?_))));obtain rfl:=sj h;exact ⟨V,EI V,H⟩
    refine .exit ?_;obtain rfl:=sj h;exact ⟨nofun,(.inl ⟨_,V,V,U,(H.erase 0)⟩)⟩
   ·rintro x e σ (⟨a4,rfl,rfl,he,H⟩ | ⟨r',rfl,rfl,hE⟩)
    ·replace h:=jgo h;obtain ⟨e,rfl⟩:=he.ex;refine .tR 1 V H fun b16 σ H => (.aV V (.na H fun H => (.ret ?_)));obtain rfl:=sj h;exact Ends.eR V
    ·replace h:=jret h;obtain rfl:=sj h;exact hE
  ·replace h:=jret h;obtain rfl:=sj h;exact hE
theorem gran_turns_fn {f:Form} {r:Bool} (h:Z0Y f = some r):Fn CX 51 [(.agg (vs (Form.cs f)))] (vb r):=by
 refine Fn.go Tryz.func51 V fun σ H => ?_;unfold Z0Y at h;refine .tR 2 V H fun b1 σ H => (.bxc (cs:=(vF f)) H V V V fun σ H => (.aV V (.na H fun H => (.tR 1 V H fun b2 σ H => (.a1 .nils V V (.na H fun H => (.then (.tR 4 V H fun b3 σ H => ?_))))))));refine .fV H 0 V (.lV H 0 V (.nV V (.mV V (.na H fun H => (.inBlock ?_)))));replace H:=H.pushNil 97 1 true;obtain ⟨y1,hj1,h⟩:=bs h;obtain ⟨n1,hj1⟩:=ZW.1 hj1;refine .mono (Runs.loopO hj1 (fun s2 e σ => ∃ (w3:PV),Z5 e [(1,(.ptr (b1 + 0) 4 0)),(3,w3),(11,(vl (cL Span.cs) f.Core)),(12,(vi (f.Core.length:Int))),(13,(vi s2.1))]∧Hs σ [.sl w3 97 1 (s2.2.map (cL Span.cs)) true,.blk (b1 + 0) 64 (vF f)]) (fun y1 x e σ => ∃ (w4:PV),x = .exit 0∧Z5 e [(1,(.ptr (b1 + 0) 4 0)),(3,w4)]∧Hs σ [.sl w4 97 1 (y1.map (cL Span.cs)) true,.blk (b1 + 0) 64 (vF f)]) ⟨.nils,EI V,H⟩ ?_) ?_
 ·intro s2 e σ hI z h;obtain ⟨w3,he,H⟩:=hI;obtain ⟨e,rfl⟩:=he.ex;unfold Z0Y.s0 at h;refine .tR 1 V H fun b4 σ H => (.iV V (.na H fun H => (.then ?_)));refine .wh h V ?_ ?_ <;> intro h
  ·refine .skip (.then ?_);obtain ⟨y2,hj2,h⟩:=bs h;refine .mono (Q:=fun x e σ => ∃ (w5:PV),x = .normal∧Z5 e [(1,(.ptr (b1 + 0) 4 0)),(3,w5),(11,(vl (cL Span.cs) f.Core)),(12,(vi (f.Core.length:Int))),(13,(vi s2.1))]∧Hs σ [.sl w5 97 1 (y2.map (cL Span.cs)) true,.blk (b1 + 0) 64 (vF f)]) ?_ ?_
   ·replace h:=hj2;refine .inBlock ?_;obtain ⟨y3,hj3,h⟩:=bs h;refine .mono (Q:=fun x e σ => ∃ (w6:PV),x = .normal∧Z5 e [(1,(.ptr (b1 + 0) 4 0)),(3,w6),(11,(vl (cL Span.cs) f.Core)),(12,(vi (f.Core.length:Int))),(13,(vi s2.1))]∧Hs σ [.sl w6 97 1 (y3.map (cL Span.cs)) true,.blk (b1 + 0) 64 (vF f)]) ?_ ?_
    ·replace h:=hj3;refine .tR 3 V H fun b5 σ H => ?_;obtain ⟨x1,q1,h⟩:=bs h;refine .jV q1 V (.pV V (.aV V (.na H fun H => (.tR 3 V H fun b6 σ H => (.mV V (.nV V (.iV V (.na H fun H => ?_))))))));refine .wh h V ?_ ?_ <;> intro h
     ·refine .Z7 5 V H fun b7 σ H => (.m1 w3 V V (.mV V (.Z3w (sz:=1) ([x1].map (cL Span.cs)) H (by omega) (by omega) V V V V V V V V V fun σ H => ?_)));obtain ⟨x2,q2,h⟩:=bs h;refine .Z92 (c:=(cL Span.cs)) (v:=w3) (w:=(.buf (b7 + 2) 1 1)) (xs:=s2.2) (ys:=[x1]) H (by omega) (by omega) 1 V V V (.s 0 V) q2 V V V V V nofun V fun w7 σ H => (.a1 w7 V V (.na H fun H => ?_));obtain rfl:=sj h;exact ⟨w7,V,EI V,(H.erase 0)⟩
     refine .skip ?_;obtain rfl:=sj h;exact ⟨w3,V,EI V,H⟩
    ·rintro x e σ ⟨w8,rfl,he,H⟩;obtain ⟨e,rfl⟩:=he.ex;obtain rfl:=sj h;exact ⟨w8,V,EI V,H⟩
   ·rintro x e σ ⟨w9,rfl,he,H⟩;obtain ⟨e,rfl⟩:=he.ex;refine .Z7 2 V H fun b8 σ H => (.iV V (.mV V (.na H fun H => ?_)));obtain rfl:=sj h;exact ⟨V,w9,EI V,H⟩
  refine .exit ?_;obtain rfl:=sj h;exact ⟨nofun,⟨w3,V,EI V,H⟩⟩
 ·rintro x e σ ⟨w10,rfl,he,H⟩;obtain ⟨e,rfl⟩:=he.ex;refine .then (.tR 3 V H fun b9 σ H => (.m1 w10 V V (.Z9t (c:=(cL Span.cs)) (xs:=y1) H 0 V V V nofun V (.mV V (.na H fun H => (.inBlock ?_))))));obtain ⟨y4,hj4,h⟩:=bs h;obtain ⟨n2,hj4⟩:=ZW.1 hj4;refine .mono (Runs.loopO hj4 (fun s3 e σ => ∃ (w13:PV),Z5 e [(1,(.ptr (b1 + 0) 4 0)),(3,w13),(25,w13),(26,(vi (y1.length:Int))),(27,(vi s3))]∧Hs σ [.sl w13 97 1 (y1.map (cL Span.cs)) true,.blk (b1 + 0) 64 (vF f)]) (fun y4 x e σ => (∃ a1,y4 = (.go a1)∧x = .exit 2∧Z5 e []∧Hs σ [])∨(∃ r',y4 = (.ret r')∧x = .ret∧Ends CX Tryz.f51.results.toList (vb r') x e σ)) ⟨w10,EI V,H⟩ ?_) ?_
  ·intro s3 e σ hI z h;obtain ⟨w13,he,H⟩:=hI;obtain ⟨e,rfl⟩:=he.ex;unfold Z0Y.s1 at h;refine .tR 1 V H fun b10 σ H => (.iV V (.na H fun H => (.then ?_)));refine .wh h V ?_ ?_ <;> intro h
   ·refine .skip (.then ?_);obtain ⟨y5,hj5,h⟩:=bs h;refine .mono (Q:=fun x e σ => (∃ a2,∃ (w14:PV),y5 = (.go a2)∧x = .normal∧Z5 e [(1,(.ptr (b1 + 0) 4 0)),(3,w14),(25,w14),(26,(vi (y1.length:Int))),(27,(vi s3))]∧Hs σ [.sl w14 97 1 (y1.map (cL Span.cs)) true,.blk (b1 + 0) 64 (vF f)])∨(∃ r',y5 = (.ret r')∧x = .ret∧Ends CX Tryz.f51.results.toList (vb r') x e σ)) ?_ ?_
    ·replace h:=hj5;refine .inBlock ?_;obtain ⟨y6,hj6,h⟩:=bs h;refine .mono (Q:=fun x e σ => (∃ a3,∃ (w15:PV),y6 = (.go a3)∧x = .normal∧Z5 e [(1,(.ptr (b1 + 0) 4 0)),(3,w15),(25,w15),(26,(vi (y1.length:Int))),(27,(vi s3))]∧Hs σ [.sl w15 97 1 (y1.map (cL Span.cs)) true,.blk (b1 + 0) 64 (vF f)])∨(∃ r',y6 = (.ret r')∧x = .ret∧Ends CX Tryz.f51.results.toList (vb r') x e σ)) ?_ ?_
     ·replace h:=hj6;refine .tR 5 V H fun b11 σ H => (.mV V ?_);obtain ⟨x3,q3,h⟩:=bs h;refine .Z2n H 0 V V V (at?_map q3) V V nofun V ?_;intro id1 hv1;subst hv1;refine .loadS (id:=id1) (j:=0) (w:=(.sl (x3.map Span.cs))) H 0 V V (by simp) (at?_map q3) V (by simp) V V V nofun V ?_;refine .aV V (.aV V (.na H fun H => (.tR 10 V H fun b12 σ H => (.mB V (.mV V (.iV V (.mB V (.Z9t (c:=(cL Span.cs)) (xs:=y1) H 0 V V V nofun V ?_))))))));obtain ⟨u1,q4,h⟩:=bs h;refine .rem (m:=(w64 (s3 + 1))) (m':=(y1.length:Int)) V V (nz_ne q4) V ?_;obtain ⟨x4,q5,h⟩:=bs h;refine .Z2n H 0 V V V (at?_map q5) V V nofun V ?_;intro id2 hv2;refine .loadS (id:=id2) (j:=0) (w:=(.sl (x4.map Span.cs))) H 0 V hv2 (by simp) (at?_map q5) V (by simp) V V V nofun V ?_;refine .aV V (.aV V (.na H fun H => (.then ?_)));refine .jn h .normal (fun y7 => [(1,(.ptr (b1 + 0) 4 0)),(3,(.buf id1 (y1.map (cL Span.cs)).length 1)),(7,(vl Span.cs x3)),(8,(vl Span.cs x4)),(9,(vi y7)),(25,(.buf id1 (y1.map (cL Span.cs)).length 1)),(26,(vi (y1.length:Int))),(27,(vi s3))]) (fun y7 => [.sl (.buf id1 (y1.map (cL Span.cs)).length 1) 97 1 (y1.map (cL Span.cs)) true,.blk (b1 + 0) 64 (vF f)]) (fun y7 h => ?_) fun y7 e σ H h => ?_
      ·refine .tR 5 V H fun b13 σ H => (.mV V (.iV V (.mB V (.Z9t (c:=(cL Span.cs)) (xs:=y1) H 0 V V V nofun V (.iV V (.na H fun H => ?_))))));refine .wh h V ?_ ?_ <;> intro h
       ·refine .Z7 3 V H fun b14 σ H => (.fV H 1 V (.lV H 1 V (.aV V (.na H fun H => ?_))));obtain rfl:=sj h;exact ⟨V,EI V,H⟩
       refine .skip ?_;obtain rfl:=sj h;exact ⟨V,EI V,H⟩
      refine .then (.Z0T 14 V (by kernel_rfl) H fun b15 σ H B15 => (.mV V (.mV V (.nV V (.iV V ?_)))));obtain ⟨x5,q6,h⟩:=bs h;refine .jV q6 V (.Z0G V V V V (.pV V (.mV V ?_)));obtain ⟨x6,q7,h⟩:=bs h;refine .jV q7 V (.Z0G V V V V (.pV V (.mV V (.iV V (.iV V (.na H fun H => ?_))))));refine .wh h V ?_ ?_ <;> intro h
      ·refine .tR 1 V H fun b16 σ H => (.aV V (.na H fun H => (.ret ?_)));obtain rfl:=sj h;exact (.inr ⟨_,V,V,(Ends.H (xs:=[(vb false)]) (.inr V) H (.tmp (v:=(vb false)) V .nil) (.one (.c (.v _))))⟩)
      refine .skip ?_;obtain rfl:=sj h;exact (.inl ⟨_,(.buf id1 (y1.map (cL Span.cs)).length 1),V,V,EI V,H⟩)
     ·rintro x e σ (⟨a4,w16,rfl,rfl,he,H⟩ | ⟨r',rfl,rfl,hE⟩)
      ·replace h:=jgo h;obtain ⟨e,rfl⟩:=he.ex;obtain rfl:=sj h;exact (.inl ⟨_,w16,V,V,EI V,H⟩)
      ·replace h:=jret h;obtain rfl:=sj h;exact (.inr ⟨_,V,V,hE⟩)
    ·rintro x e σ (⟨a5,w17,rfl,rfl,he,H⟩ | ⟨r',rfl,rfl,hE⟩)
     ·replace h:=jgo h;obtain ⟨e,rfl⟩:=he.ex;refine .Z7 2 V H fun b17 σ H => (.iV V (.mV V (.na H fun H => ?_)));obtain rfl:=sj h;exact ⟨V,w17,EI V,H⟩
     ·replace h:=jret h;obtain rfl:=sj h;exact ⟨nofun,(.inr ⟨_,V,V,hE⟩)⟩
   refine .exit ?_;obtain rfl:=sj h;exact ⟨nofun,(.inl ⟨_,V,V,U,((H.erase 1).erase 0)⟩)⟩
  ·rintro x e σ (⟨a6,rfl,rfl,he,H⟩ | ⟨r',rfl,rfl,hE⟩)
   ·replace h:=jgo h;obtain ⟨e,rfl⟩:=he.ex;refine .tR 1 V H fun b18 σ H => (.aV V (.na H fun H => (.ret ?_)));obtain rfl:=sj h;exact Ends.eR V
   ·replace h:=jret h;obtain rfl:=sj h;exact hE
theorem Z12 {x':(List Granule)} {target:Int} {cmp:Granule→Int→Option Int} {C:List Res} {cv0:PV} (hs0:cv0.one = true) (hp0:cv0.pure = true→C = []) (hf0:∀ z0 z1 y,cmp z0 z1 = some y→CloH CX cv0 [(.agg (vs (Granule.cs z0))),(vi z1)] (vi y) C) {r:Int × Bool} (h:Z1 x' target cmp = some r):FnH CX 135 [(vl Granule.cs x'),(vi target),cv0] (.tup [(vi r.1),(vb r.2)]) C:=by
 refine FnH.of Tryz.func135 V V V V (Z1Q V (Z1Q V (Z1Q (Z13 hs0) all_nil))) V (fun h => hp0 (Z1Y h 2 V)) ?_;intro σ L hC H;unfold Z1 at h;refine .tR 2 V H fun b1 σ H => (.aV V (.aV V (.na H fun H => (.tR 3 V H fun b2 σ H => (.mV V (.nV V (.aV V (.na H fun H => ?_))))))));refine .tR 3 V H fun b3 σ H => (.mV V (.aV V (.aV V (.na H fun H => (.then (.inBlock ?_))))));refine .lp h (fun s1 => [(0,(vl Granule.cs x')),(1,(vi target)),(2,cv0),(8,(vi (x'.length:Int))),(9,(vi s1.1)),(10,(vi s1.2))]) (fun s1 => (L)) (.exit 0) (fun y1 => [(0,(vl Granule.cs x')),(1,(vi target)),(2,cv0),(8,(vi (x'.length:Int))),(9,(vi y1))]) (fun y1 => (L)) (EI V) H (fun s1 e σ H z h => ?_) fun y1 e σ H h => ?_
 ·unfold Z1.s0 at h;refine .then (.tR 3 V H fun b4 σ H => (.mV V (.mV V (.iV V (.na H fun H => ?_)))));refine .wh h V ?_ ?_ <;> intro h
  ·refine .skip (.inBlock ?_);refine .jn h .normal (fun y2 => [(0,(vl Granule.cs x')),(1,(vi target)),(2,cv0),(8,(vi (x'.length:Int))),(9,(vi y2.1)),(10,(vi y2.2))]) (fun y2 => (L)) (fun y2 h => ?_) fun y2 e σ H h => ?_
   ·refine .tR 7 V H fun b5 σ H => (.mV V (.mV V (.iV V (.conv (m:=(w64 (s1.1 + s1.2))) V V V V (.shr (m:=(IntKind.u64.wrap (w64 (s1.1 + s1.2)))) (m':=1) V V (by decide) V (.conv (m:=((IntKind.u64.wrap (w64 (s1.1 + s1.2))).fdiv (2 ^ 1))) V V V V (.aV V (.na H fun H => ?_))))))));refine .tR 8 V H fun b6 σ H => (.m1 cv0 V V (.mV V (.mV V ?_)));obtain ⟨x1,q1,h⟩:=bs h;refine .jV q1 V (.qV [(.int .i64 x1.Index),(.sl (x1.Ticks.map Span.cs))] V (.mV V ?_));obtain ⟨x2,q2,h⟩:=bs h;refine .callV (cv:=cv0) (ys:=[(.agg (vs (Granule.cs x1))),(vi target)]) (r:=(vi x2)) H V V (hf0 x1 target _ q2) hC nofun V fun σ H => (.iV V (.na H fun H => ?_));refine .wh h V ?_ ?_ <;> intro h
    ·refine .Z7 3 V H fun b7 σ H => (.mV V (.iV V (.aV V (.na H fun H => ?_))));obtain rfl:=sj h;exact ⟨V,EI V,H⟩
    refine .Z7 2 V H fun b8 σ H => (.mV V (.aV V (.na H fun H => ?_)));obtain rfl:=sj h;exact ⟨V,EI V,H⟩
   obtain rfl:=sj h;exact ⟨V,EI V,H⟩
  refine .exit ?_;obtain rfl:=sj h;exact ⟨nofun,⟨V,EI V,H⟩⟩
 refine .tR 16 V H fun b9 σ H => (.mV V (.mV V (.mV V (.iV V (.mV V ?_)))));obtain ⟨y3,hj3,h⟩:=bs h;refine .md H 9 [(48,(vb y3)),(35,(vi y1))] (L) V ?_ fun e σ H => ?_
 ·refine .sp hj3 V ?_ ?_ <;> intro h
  ·refine .m1 cv0 V V (.mV V (.mV V (.wt V V ?_)));obtain ⟨x3,q3,h⟩:=bs h;refine .jV q3 V (.qV [(.int .i64 x3.Index),(.sl (x3.Ticks.map Span.cs))] V (.mV V (.wt V V ?_)));obtain ⟨x4,q4,h⟩:=bs h;refine .callV (cv:=cv0) (ys:=[(.agg (vs (Granule.cs x3))),(vi target)]) (r:=(vi x4)) H V V (hf0 x3 target _ q4) hC nofun V fun σ H => (.iV V (.kT V (.nil ?_)));obtain rfl:=sj h;exact ⟨EI V,H.wk (by omega)⟩
  refine .ps 8 V (.kF V (.nil ?_));obtain rfl:=sj h;exact ⟨EI V,H.wk (by omega)⟩
 refine .aV V (.aV V (.na H fun H => (.ret ?_)));obtain rfl:=sj h;exact (EndsH.H (xs:=[(vi y1),(vb y3)]) (.inr V) H (.tmp (v:=(vi y1)) V (.tmp (v:=(vb y3)) V .nil)) (.two (.cons (.c (.v _)) (.cons (.c (.v _)) .nil))) 0 V)
theorem Z7v {x':Int} {r:Bool} (h:Z3I x' = r):Fn CX 154 [(vi x')] (vb r):=by
 refine Fn.go Tryz.func154 V fun σ H => ?_;unfold Z3I at h;refine .tR 1 V H fun b1 σ H => (.aV V (.na H fun H => (.tR 4 V H fun b2 σ H => (.mV V (.mV V (.iV V (.aV V (.na H fun H => ?_))))))));refine .ret ?_;subst h;exact Ends.eR V
theorem Z6t {x':Int} {y:Int} {r:Int} (h:Z2O x' y = r):Fn CX 137 [(vi x'),(vi y)] (vi r):=by
 refine Fn.go Tryz.func137 V fun σ H => ?_;unfold Z2O at h;refine .tR 1 V H fun b1 σ H => (.aV V (.na H fun H => (.tR 3 V H fun b2 σ H => (.mV V (.cV (Z7v V) V (.aV V (.na H fun H => (.tR 3 V H fun b3 σ H => ?_))))))));refine .mV V (.cV (Z7v V) V (.aV V (.na H fun H => (.then (.tR 1 V H fun b4 σ H => (.mV V (.na H fun H => ?_)))))));refine .wh h V ?_ ?_ <;> intro h
 ·refine .then (.tR 1 V H fun b5 σ H => (.mV V (.na H fun H => ?_)));refine .wh h V ?_ ?_ <;> intro h
  ·refine .tR 1 V H fun b6 σ H => (.aV V (.na H fun H => (.ret ?_)));subst h;exact Ends.eR V
  refine .skip (.tR 1 V H fun b7 σ H => (.aV V (.na H fun H => (.ret ?_))));subst h;exact Ends.eR V
 refine .skip (.then (.tR 1 V H fun b8 σ H => (.mV V (.na H fun H => ?_))));refine .wh h V ?_ ?_ <;> intro h
 ·refine .tR 1 V H fun b9 σ H => (.aV V (.na H fun H => (.ret ?_)));subst h;exact Ends.eR V
 refine .skip (.then (.tR 3 V H fun b10 σ H => (.mV V (.mV V (.iV V (.na H fun H => ?_))))));refine .wh h V ?_ ?_ <;> intro h
 ·refine .tR 1 V H fun b11 σ H => (.aV V (.na H fun H => (.ret ?_)));subst h;exact Ends.eR V
 refine .skip (.then (.tR 3 V H fun b12 σ H => (.mV V (.mV V (.iV V (.na H fun H => ?_))))));refine .wh h V ?_ ?_ <;> intro h
 ·refine .tR 1 V H fun b13 σ H => (.aV V (.na H fun H => (.ret ?_)));subst h;exact Ends.eR V
 refine .skip (.tR 1 V H fun b14 σ H => (.aV V (.na H fun H => (.ret ?_))));subst h;exact Ends.eR V
theorem gran_odd_1_fn {g:Granule} {i:Int} {r:Int} (h:Z4E g i = r):Fn CX 138 [(.agg (vs (Granule.cs g))),(vi i)] (vi r):=by
 refine Fn.go Tryz.func138 V fun σ H => ?_;unfold Z4E at h;refine .tR 2 V H fun b1 σ H => (.bxc (cs:=[(vi g.Index),(vl Span.cs g.Ticks)]) H V V V fun σ H => (.aV V (.na H fun H => (.tR 5 V H fun b2 σ H => (.fV H 0 V (.lV H 0 V (.mV V (.cV (Z6t V) V ?_))))))));refine .aV V (.na H fun H => (.ret ?_));subst h;exact Ends.eR V
theorem ZCP {f:Form} {i:Int} {r:Int × Bool} (h:Z5n f i = some r):Fn CX 121 [(.agg (vs (Form.cs f))),(vi i)] (.tup [(vi r.1),(vb r.2)]):=by
 refine Fn.go Tryz.func121 V fun σ H => ?_;unfold Z5n at h;refine .tR 3 V H fun b1 σ H => (.bxc (cs:=(vF f)) H V V V fun σ H => (.aV V (.aV V (.na H fun H => (.tR 8 V H fun b2 σ H => (.fV H 0 V (.lV H 0 V (.mV V ?_))))))));obtain ⟨x1,q1,h⟩:=bs h;refine .Z3q (ys:=[(vl Granule.cs f.Odd),(vi i),(.v (.fn 138))]) (r:=(.tup [(vi x1.1),(vb x1.2)])) H V (Z12 (C:=[]) V (fun _ => V) (fun z0 z1 y hz => (CloH.fn (Fn.toH (gran_odd_1_fn (Option.some.inj hz)) _))) q1) .nil nofun V fun σ H => (.xV V (.xV V (.aV V (.aV V (.na H fun H => (.ret ?_))))));obtain rfl:=sj h;exact Ends.eR V
theorem Z3E {a:Int} {b:Int} {r:Int × Int × Int} (h:Z19 a b = some r):Fn CX 115 [(vi a),(vi b)] (.tup [(vi r.1),(vi r.2.1),(vi r.2.2)]):=by
 refine Fn.go Tryz.func115 V fun σ H => ?_;unfold Z19 at h;refine .tR 3 V H fun b1 σ H => (.aV V (.aV V (.aV V (.na H fun H => (.then (.inBlock (.tR 3 V H fun b2 σ H => (.mV V ?_))))))));refine .iV V (.aV V (.na H fun H => ?_));refine .wh h V ?_ ?_ <;> intro h
 ·refine .tR 3 V H fun b3 σ H => (.aV V (.aV V (.aV V (.na H fun H => (.ret ?_)))));obtain rfl:=sj h;exact Ends.eR V
 refine .tR 7 V H fun b4 σ H => (.mV V (.iV V (.mV V ?_)));refine .md H 3 [(18,(vb ((b == (-1)) && (a == (-9223372036854775808))))),(0,(vi a)),(1,(vi b))] [] V ?_ fun e σ H => ?_
 ·refine .split V V ?_ ?_ <;> intro hc2
  ·refine .mV V (.iV V (.kT V (.nil ?_)));exact ⟨⟨Z0r hc2,V,V,U⟩,H.wk (by omega)⟩
  ·refine .ps 2 V (.kF V (.nil ?_));exact ⟨⟨Z0s hc2,V,V,U⟩,H.wk (by omega)⟩
 refine .aV V (.na H fun H => ?_);refine .wh h V ?_ ?_ <;> intro h
 ·refine .tR 3 V H fun b5 σ H => (.aV V (.aV V (.aV V (.na H fun H => (.ret ?_)))));obtain rfl:=sj h;exact Ends.eR V
 refine .skip (.then (.Z0T 8 V (by kernel_rfl) H fun b6 σ H B6 => (.mV V (.mV V ?_))));obtain ⟨u1,q1,h⟩:=bs h;refine .quo (m:=a) (m':=b) V V (nz_ne q1) V (.mV V (.mV V ?_));obtain ⟨u2,q2,h⟩:=bs h;refine .rem (m:=a) (m':=b) V V (nz_ne q2) V (.aV V (.aV V (.na H fun H => (.then ?_))));refine .jn h .normal (fun y1 => [(7,(vi y1.1)),(8,(vi y1.2))]) (fun y1 => []) (fun y1 h => ?_) fun y1 e σ H h => ?_
 ·refine .tR 9 V H fun b7 σ H => (.mV V (.iV V (.mV V ?_)));refine .md H 6 [(33,(vb (((a.tmod b) != 0) && ((decide ((a.tmod b) < 0)) != (decide (b < 0)))))),(1,(vi b)),(7,(vi (w64 (a.tdiv b)))),(8,(vi (a.tmod b)))] [] V ?_ fun e σ H => ?_
  ·refine .split V V ?_ ?_ <;> intro hc4
   ·refine .mV V (.iV V (.mV V (.iV V (.wt V V (.neB (b:=(decide ((a.tmod b) < 0))) (b':=(decide (b < 0))) V V V V (.kT V (.nil ?_)))))));exact ⟨⟨Z0r hc4,V,V,V,U⟩,H.wk (by omega)⟩
   ·refine .ps 5 V (.kF V (.nil ?_));exact ⟨⟨Z0s hc4,V,V,V,U⟩,H.wk (by omega)⟩
  refine .na H fun H => ?_;refine .wh h V ?_ ?_ <;> intro h
  ·refine .Z7 7 V H fun b8 σ H => (.mV V (.iV V (.mV V (.mV V (.iV V (.aV V (.aV V (.na H fun H => ?_))))))));obtain rfl:=sj h;exact ⟨V,EI V,H⟩
  refine .skip ?_;obtain rfl:=sj h;exact ⟨V,EI V,H⟩
 refine .tR 5 V H fun b9 σ H => (.mV V (.mV V (.aV V (.aV V (.aV V (.na H fun H => (.ret ?_)))))));obtain rfl:=sj h;exact Ends.eR V
theorem ZAn {a:Int} {r:Int} (h:Z1o a = r):Fn CX 140 [(vi a)] (vu r):=by
 refine Fn.go Tryz.func140 V fun σ H => ?_;unfold Z1o at h;refine .tR 1 V H fun b1 σ H => (.aV V (.na H fun H => (.then (.tR 2 V H fun b2 σ H => (.mV V (.iV V (.na H fun H => ?_)))))));refine .wh h V ?_ ?_ <;> intro h
 ·refine .tR 4 V H fun b3 σ H => (.mV V (.conv (m:=a) V V V V (.neg (m:=(IntKind.u64.wrap a)) V V (.aV V (.na H fun H => (.ret ?_))))));subst h;exact Ends.eR V
 refine .skip (.tR 3 V H fun b4 σ H => (.mV V (.conv (m:=a) V V V V (.aV V (.na H fun H => (.ret ?_))))));subst h;exact Ends.eR V
theorem Z6e {x':Int} {y:Int} {r:Int × Int} (h:Z0I x' y = r):Fn CX 139 [(vu x'),(vu y)] (.tup [(vu r.1),(vu r.2)]):=by
 refine Fn.go Tryz.func139 V fun σ H => ?_;unfold Z0I at h;refine .tR 2 V H fun b1 σ H => (.aV V (.aV V (.na H fun H => (.tR 3 V H fun b2 σ H => (.mV V (.iV V (.aV V (.na H fun H => ?_))))))));refine .tR 3 V H fun b3 σ H => (.mV V (.shr (m:=x') (m':=32) V V (by decide) V (.aV V (.na H fun H => (.tR 3 V H fun b4 σ H => (.mV V (.iV V (.aV V ?_))))))));refine .na H fun H => (.tR 3 V H fun b5 σ H => (.mV V (.shr (m:=y) (m':=32) V V (by decide) V (.aV V (.na H fun H => (.tR 4 V H fun b6 σ H => (.mV V (.mV V ?_))))))));refine .iV V (.aV V (.na H fun H => (.tR 7 V H fun b7 σ H => (.mV V (.mV V (.iV V (.mV V (.shr (m:=(IntKind.u64.wrap ((iAnd .u64 x' 4294967295) * (iAnd .u64 y 4294967295)))) (m':=32) V V (by decide) V ?_))))))));refine .iV V (.aV V (.na H fun H => (.tR 3 V H fun b8 σ H => (.mV V (.iV V (.aV V (.na H fun H => (.tR 3 V H fun b9 σ H => ?_))))))));refine .mV V (.shr (m:=(IntKind.u64.wrap ((IntKind.u64.wrap ((x'.fdiv (2 ^ 32)) * (iAnd .u64 y 4294967295))) + ((IntKind.u64.wrap ((iAnd .u64 x' 4294967295) * (iAnd .u64 y 4294967295))).fdiv (2 ^ 32))))) (m':=32) V V (by decide) V (.aV V (.na H fun H => (.tR 6 V H fun b10 σ H => (.mV V (.mV V (.mV V (.iV V ?_))))))));refine .iV V (.aV V (.na H fun H => (.tR 9 V H fun b11 σ H => (.mV V (.mV V (.iV V (.mV V (.iV V ?_))))))));refine .mV V (.shr (m:=(IntKind.u64.wrap ((iAnd .u64 (IntKind.u64.wrap ((IntKind.u64.wrap ((x'.fdiv (2 ^ 32)) * (iAnd .u64 y 4294967295))) + ((IntKind.u64.wrap ((iAnd .u64 x' 4294967295) * (iAnd .u64 y 4294967295))).fdiv (2 ^ 32)))) 4294967295) + (IntKind.u64.wrap ((iAnd .u64 x' 4294967295) * (y.fdiv (2 ^ 32))))))) (m':=32) V V (by decide) V (.iV V (.aV V (.na H fun H => (.tR 4 V H fun b12 σ H => (.mV V (.mV V (.iV V ?_))))))))
 refine .aV V (.na H fun H => (.ret ?_));subst h;exact Ends.eR V
end Go.Dn
