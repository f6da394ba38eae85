/- The functions of the program in plain terms, as they were printed out of the loaded code. -/
import Derived.Test.YtefaoeaohhdhkaaD23
set_option linter.unusedVariables false
set_option linter.unusedSimpArgs false
namespace Go.Dn
open Go

structure Span where
  From : Int
  To : Int
  deriving DecidableEq

def Span.cs (x : Span) : List FV := [(.int .i64 x.From), (.int .i64 x.To)]

def Span.ok (x : Span) : Prop := okI .i64 x.From ∧ okI .i64 x.To

structure Granule where
  Index : Int
  Ticks : (List Span)
  deriving DecidableEq

def Granule.cs (x : Granule) : List FV := [(.int .i64 x.Index), (.sl (x.Ticks.map Span.cs))]

def Granule.ok (x : Granule) : Prop := okI .i64 x.Index ∧ okL 16 Span.ok x.Ticks

structure Form where
  Period : Int
  Count : Int
  Core : (List (List Span))
  Odd : (List Granule)
  deriving DecidableEq

def Form.cs (x : Form) : List FV := [(.int .i64 x.Period), (.int .i64 x.Count), (.sl (x.Core.map (cL Span.cs))), (.sl (x.Odd.map Granule.cs))]

def Form.ok (x : Form) : Prop := okI .i64 x.Period ∧ okI .i64 x.Count ∧ okL 24 (okL 16 Span.ok) x.Core ∧ okL 32 Granule.ok x.Odd

noncomputable def gran_Size.s0 (f : Form) (s1 : Int × Int) : Option ((Int × Int) ⊕ (Int)) :=
  (bif (decide (s1.2 < (f.Core.length : Int))) then
    (at? f.Core s1.2).bind fun x1 =>
    some (.inl ((w64 (s1.1 + (x1.length : Int))), (w64 (s1.2 + 1))))
  else
    some (.inr s1.1))

noncomputable def gran_Size.s1 (f : Form) (s2 : Int × Int) : Option ((Int × Int) ⊕ (Int)) :=
  (bif (decide (s2.2 < (f.Odd.length : Int))) then
    (at? f.Odd s2.2).bind fun x2 =>
    some (.inl ((w64 (s2.1 + (x2.Ticks.length : Int))), (w64 (s2.2 + 1))))
  else
    some (.inr s2.1))

noncomputable def gran_Size (f : Form) : Option (Int) :=
  (loopO (gran_Size.s0 f) (0, 0)).bind fun (y1 : Int) =>
  (loopO (gran_Size.s1 f) (y1, 0)).bind fun (y2 : Int) =>
  some y2

noncomputable def epactlaw05_Small (f : Form) : Option (Bool) :=
  (
    (bif ((decide ((f.Core.length : Int) ≤ 12)) && (decide ((f.Odd.length : Int) ≤ 8))) then
      (gran_Size f).bind fun x1 =>
      some (decide (x1 ≤ 60))
    else
      some false)).bind fun (y1 : Bool) =>
  some y1

noncomputable def spans_tick (t : Int) : Bool :=
  ((decide (t ≥ (-1099511627776))) && (decide (t ≤ 1099511627776)))

noncomputable def spans_Right.s0 (l : (List Span)) (s1 : Int) : Option ((Int) ⊕ (Jx (Unit) (Bool))) :=
  (bif (decide (s1 < (l.length : Int))) then
    (at? l s1).bind fun x1 =>
    (
      (bif (((!(spans_tick x1.From)) || (!(spans_tick x1.To))) || (decide (x1.From > x1.To))) then
        some true
      else
        (
          (bif (decide (s1 > 0)) then
            (at? l (w64 (s1 - 1))).bind fun x2 =>
            some (decide (x1.From < (w64 (x2.To + 2))))
          else
            some false)).bind fun (y3 : Bool) =>
        some y3)).bind fun (y2 : Bool) =>
    (bif y2 then
      some (.inr (.ret false))
    else
      some (.inl (w64 (s1 + 1))))
  else
    some (.inr (.go ())))

noncomputable def spans_Right (l : (List Span)) : Option (Bool) :=
  (loopO (spans_Right.s0 l) 0).bind fun (y1 : Jx (Unit) (Bool)) =>
  y1.elim (fun r' =>
      some r') fun a2 =>
  some true

noncomputable def gran_inRange (i : Int) : Bool :=
  ((decide (i ≥ (-1099511627776))) && (decide (i ≤ 1099511627776)))

noncomputable def gran_shape.s0 (f : Form) (s1 : Int) : Option ((Int) ⊕ (Jx (Unit) (Bool))) :=
  (bif (decide (s1 < (f.Core.length : Int))) then
    (at? f.Core s1).bind fun x1 =>
    (spans_Right x1).bind fun x2 =>
    (bif (!x2) then
      some (.inr (.ret false))
    else
      some (.inl (w64 (s1 + 1))))
  else
    some (.inr (.go ())))

noncomputable def gran_shape.s1 (f : Form) (s2 : Int) : Option ((Int) ⊕ (Jx (Unit) (Bool))) :=
  (bif (decide (s2 < (f.Odd.length : Int))) then
    (at? f.Odd s2).bind fun x3 =>
    (spans_Right x3.Ticks).bind fun x4 =>
    (
      (bif ((!x4) || (!(gran_inRange x3.Index))) then
        some true
      else
        (
          (bif (decide (s2 > 0)) then
            (at? f.Odd (w64 (s2 - 1))).bind fun x5 =>
            some (decide (x3.Index ≤ x5.Index))
          else
            some false)).bind fun (y4 : Bool) =>
        some y4)).bind fun (y3 : Bool) =>
    (bif y3 then
      some (.inr (.ret false))
    else
      some (.inl (w64 (s2 + 1))))
  else
    some (.inr (.go ())))

noncomputable def gran_shape (f : Form) : Option (Bool) :=
  (bif ((((f.Count != (f.Core.length : Int)) || ((f.Count == 0) != (f.Period == 0))) || (decide (f.Period < 0))) || (decide (f.Period > 1099511627776))) then
    some false
  else
    (loopO (gran_shape.s0 f) 0).bind fun (y1 : Jx (Unit) (Bool)) =>
    y1.elim (fun r' =>
        some r') fun a2 =>
    (loopO (gran_shape.s1 f) 0).bind fun (y2 : Jx (Unit) (Bool)) =>
    y2.elim (fun r' =>
        some r') fun a4 =>
    some true)

noncomputable def gran_turns.s0 (f : Form) (s2 : Int × (List (List Span))) : Option ((Int × (List (List Span))) ⊕ ((List (List Span)))) :=
  (bif (decide (s2.1 < (f.Core.length : Int))) then
    (
      (
        (at? f.Core s2.1).bind fun x1 =>
        (bif (decide ((x1.length : Int) > 0)) then
          (app? 24 s2.2 [x1]).bind fun x2 =>
          some x2
        else
          some s2.2)).bind fun (y3 : (List (List Span))) =>
      some y3).bind fun (y2 : (List (List Span))) =>
    some (.inl ((w64 (s2.1 + 1)), y2))
  else
    some (.inr s2.2))

noncomputable def gran_turns.s1 (f : Form) (y1 : (List (List Span))) (s3 : Int) : Option ((Int) ⊕ (Jx (Unit) (Bool))) :=
  (bif (decide (s3 < (y1.length : Int))) then
    (
      (
        (at? y1 s3).bind fun x3 =>
        (nz? (y1.length : Int)).bind fun u1 =>
        (at? y1 ((w64 (s3 + 1)).tmod (y1.length : Int))).bind fun x4 =>
        (
          (bif ((w64 (s3 + 1)) == (y1.length : Int)) then
            some f.Period
          else
            some 0)).bind fun (y7 : Int) =>
        (at? x3 (w64 ((x3.length : Int) - 1))).bind fun x5 =>
        (at? x4 0).bind fun x6 =>
        (bif (decide (x5.To ≥ (w64 (x6.From + y7)))) then
          some (.ret false)
        else
          some (.go ()))).bind fun (y6 : Jx (Unit) (Bool)) =>
      y6.elim (fun r' =>
          some (.ret r')) fun a4 =>
      some (.go ())).bind fun (y5 : Jx (Unit) (Bool)) =>
    y5.elim (fun r' =>
        some (.inr (.ret r'))) fun a5 =>
    some (.inl (w64 (s3 + 1)))
  else
    some (.inr (.go ())))

noncomputable def gran_turns (f : Form) : Option (Bool) :=
  (loopO (gran_turns.s0 f) (0, [])).bind fun (y1 : (List (List Span))) =>
  (loopO (gran_turns.s1 f y1) 0).bind fun (y4 : Jx (Unit) (Bool)) =>
  y4.elim (fun r' =>
      some r') fun a6 =>
  some true

noncomputable def slices_BinarySearchFunc_SGranule_Granule_int.s0 (x' : (List Granule)) (target : Int) (cmp : Granule → Int → Option Int) (s1 : Int × Int) : Option ((Int × Int) ⊕ (Int)) :=
  (bif (decide (s1.1 < s1.2)) then
    (
      (at? x' (w64 ((IntKind.u64.wrap (w64 (s1.1 + s1.2))).fdiv (2 ^ 1)))).bind fun x1 =>
      (cmp x1 target).bind fun x2 =>
      (bif (decide (x2 < 0)) then
        some ((w64 ((w64 ((IntKind.u64.wrap (w64 (s1.1 + s1.2))).fdiv (2 ^ 1))) + 1)), s1.2)
      else
        some (s1.1, (w64 ((IntKind.u64.wrap (w64 (s1.1 + s1.2))).fdiv (2 ^ 1)))))).bind fun (y2 : Int × Int) =>
    some (.inl (y2.1, y2.2))
  else
    some (.inr s1.1))

noncomputable def slices_BinarySearchFunc_SGranule_Granule_int (x' : (List Granule)) (target : Int) (cmp : Granule → Int → Option Int) : Option (Int × Bool) :=
  (loopO (slices_BinarySearchFunc_SGranule_Granule_int.s0 x' target cmp) (0, (x'.length : Int))).bind fun (y1 : Int) =>
  (
    (bif (decide (y1 < (x'.length : Int))) then
      (at? x' y1).bind fun x3 =>
      (cmp x3 target).bind fun x4 =>
      some (x4 == 0)
    else
      some false)).bind fun (y3 : Bool) =>
  some (y1, y3)

noncomputable def cmp_isNaN_int (x' : Int) : Bool :=
  (x' != x')

noncomputable def cmp_Compare_int (x' : Int) (y : Int) : Int :=
  (bif (cmp_isNaN_int x') then
    (bif (cmp_isNaN_int y) then
      0
    else
      (-1))
  else
    (bif (cmp_isNaN_int y) then
      1
    else
      (bif (decide (x' < y)) then
        (-1)
      else
        (bif (decide (x' > y)) then
          1
        else
          0))))

noncomputable def gran_odd_1 (g : Granule) (i : Int) : Int :=
  (cmp_Compare_int g.Index i)

noncomputable def gran_odd (f : Form) (i : Int) : Option (Int × Bool) :=
  (slices_BinarySearchFunc_SGranule_Granule_int f.Odd i (fun z0 z1 => some (gran_odd_1 z0 z1))).bind fun x1 =>
  some (x1.1, x1.2)

noncomputable def safe_Floor (a : Int) (b : Int) : Option (Int × Int × Int) :=
  (bif (b == 0) then
    some (0, 0, 11)
  else
    (bif ((b == (-1)) && (a == (-9223372036854775808))) then
      some (0, 0, 10)
    else
      (nz? b).bind fun u1 =>
      (nz? b).bind fun u2 =>
      (
        (bif (((a.tmod b) != 0) && ((decide ((a.tmod b) < 0)) != (decide (b < 0)))) then
          some ((w64 ((w64 (a.tdiv b)) - 1)), (w64 ((a.tmod b) + b)))
        else
          some ((w64 (a.tdiv b)), (a.tmod b)))).bind fun (y1 : Int × Int) =>
      some (y1.1, y1.2, 0)))

noncomputable def safe_size (a : Int) : Int :=
  (bif (decide (a < 0)) then
    (IntKind.u64.wrap (0 - (IntKind.u64.wrap a)))
  else
    (IntKind.u64.wrap a))

noncomputable def math_bits_Mul64 (x' : Int) (y : Int) : Int × Int :=
  ((IntKind.u64.wrap ((IntKind.u64.wrap ((IntKind.u64.wrap ((x'.fdiv (2 ^ 32)) * (y.fdiv (2 ^ 32)))) + ((IntKind.u64.wrap ((IntKind.u64.wrap ((x'.fdiv (2 ^ 32)) * (iAnd .u64 y 4294967295))) + ((IntKind.u64.wrap ((iAnd .u64 x' 4294967295) * (iAnd .u64 y 4294967295))).fdiv (2 ^ 32)))).fdiv (2 ^ 32)))) + ((IntKind.u64.wrap ((iAnd .u64 (IntKind.u64.wrap ((IntKind.u64.wrap ((x'.fdiv (2 ^ 32)) * (iAnd .u64 y 4294967295))) + ((IntKind.u64.wrap ((iAnd .u64 x' 4294967295) * (iAnd .u64 y 4294967295))).fdiv (2 ^ 32)))) 4294967295) + (IntKind.u64.wrap ((iAnd .u64 x' 4294967295) * (y.fdiv (2 ^ 32)))))).fdiv (2 ^ 32)))), (IntKind.u64.wrap (x' * y)))

noncomputable def safe_signed (n : Int) (minus : Bool) : Int × Int :=
  (bif (minus && (decide (n ≤ 9223372036854775808))) then
    ((w64 (IntKind.u64.wrap (0 - n))), 0)
  else
    (bif ((!minus) && (decide (n ≤ 9223372036854775807))) then
      ((w64 n), 0)
    else
      (0, 10)))

noncomputable def safe_Mul (a : Int) (b : Int) : Int × Int :=
  (bif (((math_bits_Mul64 (safe_size a) (safe_size b)).1) != 0) then
    (0, 10)
  else
    ((safe_signed ((math_bits_Mul64 (safe_size a) (safe_size b)).2) ((decide (a < 0)) != (decide (b < 0)))).1, (safe_signed ((math_bits_Mul64 (safe_size a) (safe_size b)).2) ((decide (a < 0)) != (decide (b < 0)))).2))

noncomputable def gran_kept (f : Form) (i : Int) : Option ((List Span) × Int × Int) :=
  (gran_odd f i).bind fun x1 =>
  (bif x1.2 then
    (at? f.Odd x1.1).bind fun x2 =>
    some (x2.Ticks, 0, 0)
  else
    (bif (f.Count == 0) then
      some ([], 0, 0)
    else
      (safe_Floor i f.Count).bind fun x3 =>
      (at? f.Core x3.2.1).bind fun x4 =>
      some (x4, (safe_Mul x3.1 f.Period).1, (safe_Mul x3.1 f.Period).2)))

noncomputable def safe_Add (a : Int) (b : Int) : Int × Int :=
  (bif (((decide ((w64 (a + b)) > a)) != (decide (b > 0))) && (b != 0)) then
    (0, 10)
  else
    ((w64 (a + b)), 0))

noncomputable def spans_Move.s0 (l : (List Span)) (by' : Int) (s2 : Int × (List Span)) : Option ((Int × (List Span)) ⊕ (Jx ((List Span)) ((List Span) × Int))) :=
  (bif (decide (s2.1 < (l.length : Int))) then
    (at? l s2.1).bind fun x1 =>
    (bif ((((((safe_Add x1.From by').2) != 0) || (((safe_Add x1.To by').2) != 0)) || (!(spans_tick ((safe_Add x1.From by').1)))) || (!(spans_tick ((safe_Add x1.To by').1)))) then
      some (.inr (.ret ([], 20)))
    else
      (app? 16 s2.2 [(Span.mk ((safe_Add x1.From by').1) ((safe_Add x1.To by').1))]).bind fun x2 =>
      some (.inl ((w64 (s2.1 + 1)), x2)))
  else
    some (.inr (.go s2.2)))

noncomputable def spans_Move (l : (List Span)) (by' : Int) : Option ((List Span) × Int) :=
  (loopO (spans_Move.s0 l by') (0, [])).bind fun (y1 : Jx ((List Span)) ((List Span) × Int)) =>
  y1.elim (fun r' =>
      some r') fun a2 =>
  some (a2, 0)

noncomputable def gran_Get (f : Form) (i : Int) : Option ((List Span) × Int) :=
  (bif (!(gran_inRange i)) then
    some ([], 20)
  else
    (gran_kept f i).bind fun x1 =>
    (bif ((x1.1.length : Int) == 0) then
      some ([], 0)
    else
      (bif (x1.2.2 != 0) then
        some ([], 20)
      else
        (spans_Move x1.1 x1.2.1).bind fun x2 =>
        some (x2.1, x2.2))))

noncomputable def slices_IndexFunc_SSSpan_SSpan.s0 (s : (List (List Span))) (f : (List Span) → Option Bool) (s1 : Int) : Option ((Int) ⊕ (Jx (Unit) (Int))) :=
  (bif (decide (s1 < (s.length : Int))) then
    (at? s s1).bind fun x1 =>
    (f x1).bind fun x2 =>
    (bif x2 then
      some (.inr (.ret s1))
    else
      some (.inl (w64 (s1 + 1))))
  else
    some (.inr (.go ())))

noncomputable def slices_IndexFunc_SSSpan_SSpan (s : (List (List Span))) (f : (List Span) → Option Bool) : Option (Int) :=
  (loopO (slices_IndexFunc_SSSpan_SSpan.s0 s f) 0).bind fun (y1 : Jx (Unit) (Int)) =>
  y1.elim (fun r' =>
      some r') fun a2 =>
  some (-1)

noncomputable def slices_ContainsFunc_SSSpan_SSpan (s : (List (List Span))) (f : (List Span) → Option Bool) : Option (Bool) :=
  (slices_IndexFunc_SSSpan_SSpan s f).bind fun x1 =>
  some (decide (x1 ≥ 0))

noncomputable def gran_bare_1 (l : (List Span)) : Bool :=
  (decide ((l.length : Int) > 0))

noncomputable def gran_bare (f : Form) : Option (Bool) :=
  (slices_ContainsFunc_SSSpan_SSpan f.Core (fun z0 => some (gran_bare_1 z0))).bind fun x1 =>
  some (!x1)

noncomputable def gran_some (f : Form) (i : Int) : Option (Bool) :=
  (gran_kept f i).bind fun x1 =>
  some (decide ((x1.1.length : Int) > 0))

noncomputable def gran_step.s0 (f : Form) (by' : Int) (s1 : Int) : Option ((Int) ⊕ (Jx (Unit) (Int × Bool))) :=
  (bif ((decide (s1 ≥ 0)) && (decide (s1 < (f.Odd.length : Int)))) then
    (at? f.Odd s1).bind fun x3 =>
    (bif (decide ((x3.Ticks.length : Int) > 0)) then
      (at? f.Odd s1).bind fun x4 =>
      some (.inr (.ret (x4.Index, true)))
    else
      some (.inl (w64 (s1 + by'))))
  else
    some (.inr (.go ())))

noncomputable def gran_step.s1 (f : Form) (by' : Int) (s2 : Int) : Option ((Int) ⊕ (Jx (Unit) (Int × Bool))) :=
  (bif (gran_inRange s2) then
    (gran_some f s2).bind fun x5 =>
    (bif x5 then
      some (.inr (.ret (s2, true)))
    else
      some (.inl (w64 (s2 + by'))))
  else
    some (.inr (.go ())))

noncomputable def gran_step (f : Form) (from' : Int) (by' : Int) : Option (Int × Bool) :=
  (gran_bare f).bind fun x1 =>
  (bif x1 then
    (gran_odd f from').bind fun x2 =>
    (
      (bif ((decide (by' < 0)) && (!x2.2)) then
        some (w64 (x2.1 - 1))
      else
        some x2.1)).bind fun (y1 : Int) =>
    (loopO (gran_step.s0 f by') y1).bind fun (y2 : Jx (Unit) (Int × Bool)) =>
    y2.elim (fun r' =>
        some r') fun a2 =>
    some (0, false)
  else
    (loopO (gran_step.s1 f by') from').bind fun (y3 : Jx (Unit) (Int × Bool)) =>
    y3.elim (fun r' =>
        some r') fun a4 =>
    some (0, false))

noncomputable def gran_Before (f : Form) (i : Int) : Option (Int × Bool) :=
  (bif (decide (i ≤ (-1099511627776))) then
    some (0, false)
  else
    (gran_step f (iMin (w64 (i - 1)) 1099511627776) (-1)).bind fun x1 =>
    some (x1.1, x1.2))

noncomputable def gran_Behind (f : Form) (i : Int) : Option (Int × Bool) :=
  (bif (decide (i ≥ 1099511627776)) then
    some (0, false)
  else
    (gran_step f (iMax (w64 (i + 1)) (-1099511627776)) 1).bind fun x1 =>
    some (x1.1, x1.2))

noncomputable def spans_Ahead (a : (List Span)) (b : (List Span)) : Option (Bool) :=
  (
    (bif (((a.length : Int) == 0) || ((b.length : Int) == 0)) then
      some true
    else
      (at? a (w64 ((a.length : Int) - 1))).bind fun x1 =>
      (at? b 0).bind fun x2 =>
      some (decide (x1.To < x2.From)))).bind fun (y1 : Bool) =>
  some y1

noncomputable def gran_beside (f : Form) (i : Int) : Option (Bool) :=
  (gran_Get f i).bind fun x1 =>
  (bif (x1.2 != 0) then
    some false
  else
    (gran_Before f i).bind fun x2 =>
    (gran_Behind f i).bind fun x3 =>
    (
      (bif x2.2 then
        (gran_Get f x2.1).bind fun x4 =>
        (bif (x4.2 != 0) then
          some (.ret false)
        else
          some (.go x4.1))
      else
        some (.go []))).bind fun (y1 : Jx ((List Span)) (Bool)) =>
    y1.elim (fun r' =>
        some r') fun a2 =>
    (
      (bif x3.2 then
        (gran_Get f x3.1).bind fun x5 =>
        (bif (x5.2 != 0) then
          some (.ret false)
        else
          some (.go x5.1))
      else
        some (.go []))).bind fun (y2 : Jx ((List Span)) (Bool)) =>
    y2.elim (fun r' =>
        some r') fun a4 =>
    (spans_Ahead a2 x1.1).bind fun x6 =>
    (
      (bif x6 then
        (spans_Ahead x1.1 a4).bind fun x7 =>
        some x7
      else
        some false)).bind fun (y3 : Bool) =>
    (
      (bif y3 then
        (spans_Ahead a2 a4).bind fun x8 =>
        some x8
      else
        some false)).bind fun (y4 : Bool) =>
    some y4)

noncomputable def gran_Right.s0 (f : Form) (s1 : Int) : Option ((Int) ⊕ (Jx (Unit) (Int))) :=
  (bif (decide (s1 < (f.Odd.length : Int))) then
    (at? f.Odd s1).bind fun x4 =>
    (gran_beside f x4.Index).bind fun x5 =>
    (bif (!x5) then
      some (.inr (.ret 50))
    else
      some (.inl (w64 (s1 + 1))))
  else
    some (.inr (.go ())))

noncomputable def gran_Right (f : Form) : Option (Int) :=
  (
    (bif ((decide ((f.Core.length : Int) > 6000)) || (decide ((f.Odd.length : Int) > 6000))) then
      some true
    else
      (gran_Size f).bind fun x1 =>
      some (decide (x1 > 60000)))).bind fun (y1 : Bool) =>
  (bif y1 then
    some 3
  else
    (gran_shape f).bind fun x2 =>
    (
      (bif (!x2) then
        some true
      else
        (gran_turns f).bind fun x3 =>
        some (!x3))).bind fun (y2 : Bool) =>
    (bif y2 then
      some 50
    else
      (loopO (gran_Right.s0 f) 0).bind fun (y3 : Jx (Unit) (Int)) =>
      y3.elim (fun r' =>
          some r') fun a2 =>
      some 0))

noncomputable def epactlaw05_right (f : Form) : Option (Bool) :=
  (epactlaw05_Small f).bind fun x1 =>
  (
    (bif x1 then
      (gran_Right f).bind fun x2 =>
      some (x2 == 0)
    else
      some false)).bind fun (y1 : Bool) =>
  some y1

def epactlaw05_awake : Bool := true

noncomputable def slices_Equal_SSpan_Span.s0 (s1' : (List Span)) (s2' : (List Span)) (s1 : Int) : Option ((Int) ⊕ (Jx (Unit) (Bool))) :=
  (bif (decide (s1 < (s1'.length : Int))) then
    (at? s1' s1).bind fun x1 =>
    (at? s2' s1).bind fun x2 =>
    (bif (!((x1.From == x2.From) && ((x1.To == x2.To) && true))) then
      some (.inr (.ret false))
    else
      some (.inl (w64 (s1 + 1))))
  else
    some (.inr (.go ())))

noncomputable def slices_Equal_SSpan_Span (s1' : (List Span)) (s2' : (List Span)) : Option (Bool) :=
  (bif ((s1'.length : Int) != (s2'.length : Int)) then
    some false
  else
    (loopO (slices_Equal_SSpan_Span.s0 s1' s2') 0).bind fun (y1 : Jx (Unit) (Bool)) =>
    y1.elim (fun r' =>
        some r') fun a2 =>
    some true)

noncomputable def spans_Same (a : (List Span)) (b : (List Span)) : Option (Bool) :=
  (slices_Equal_SSpan_Span a b).bind fun x1 =>
  some x1

noncomputable def epactlaw05_FormOrder (f : Form) (i : Int) (k : Int) : Option (Bool) :=
  (epactlaw05_right f).bind fun x1 =>
  (bif (!x1) then
    some epactlaw05_awake
  else
    (gran_Get f (iMin i k)).bind fun x2 =>
    (gran_Get f (iMax i k)).bind fun x3 =>
    (bif ((x2.2 != 0) || (x3.2 != 0)) then
      some ((((x2.2 == 0) || ((x2.2 == 20) && ((x2.1.length : Int) == 0))) && ((x3.2 == 0) || ((x3.2 == 20) && ((x3.1.length : Int) == 0)))) && epactlaw05_awake)
    else
      (spans_Right x2.1).bind fun x4 =>
      (
        (bif x4 then
          (spans_Right x3.1).bind fun x5 =>
          some x5
        else
          some false)).bind fun (y1 : Bool) =>
      (
        (bif y1 then
          (
            (bif ((iMin i k) == (iMax i k)) then
              (spans_Same x2.1 x3.1).bind fun x6 =>
              some x6
            else
              some false)).bind fun (y3 : Bool) =>
          (
            (bif y3 then
              some true
            else
              (
                (bif (decide ((iMin i k) < (iMax i k))) then
                  (spans_Ahead x2.1 x3.1).bind fun x7 =>
                  some x7
                else
                  some false)).bind fun (y5 : Bool) =>
              some y5)).bind fun (y4 : Bool) =>
          some y4
        else
          some false)).bind fun (y2 : Bool) =>
      some (y2 && epactlaw05_awake)))

noncomputable def epactlaw05_odd.s0 (f : Form) (i : Int) (s1 : Int) : Option ((Int) ⊕ (Jx (Unit) (Bool))) :=
  (bif (decide (s1 < (f.Odd.length : Int))) then
    (at? f.Odd s1).bind fun x1 =>
    (bif (x1.Index == i) then
      some (.inr (.ret true))
    else
      some (.inl (w64 (s1 + 1))))
  else
    some (.inr (.go ())))

noncomputable def epactlaw05_odd (f : Form) (i : Int) : Option (Bool) :=
  (loopO (epactlaw05_odd.s0 f i) 0).bind fun (y1 : Jx (Unit) (Bool)) =>
  y1.elim (fun r' =>
      some r') fun a2 =>
  some false

noncomputable def epactlaw05_FormTurns (f : Form) (i : Int) : Option (Bool) :=
  (epactlaw05_right f).bind fun x1 =>
  (
    (bif ((!x1) || (f.Count == 0)) then
      some true
    else
      (epactlaw05_odd f ((w64 i).tmod 1048576)).bind fun x2 =>
      some x2)).bind fun (y1 : Bool) =>
  (
    (bif y1 then
      some true
    else
      (epactlaw05_odd f (w64 (((w64 i).tmod 1048576) + f.Count))).bind fun x3 =>
      some x3)).bind fun (y2 : Bool) =>
  (bif y2 then
    some epactlaw05_awake
  else
    (gran_Get f ((w64 i).tmod 1048576)).bind fun x4 =>
    (gran_Get f (w64 (((w64 i).tmod 1048576) + f.Count))).bind fun x5 =>
    (bif ((x4.2 != 0) || (x5.2 != 0)) then
      some epactlaw05_awake
    else
      (spans_Move x4.1 f.Period).bind fun x6 =>
      (
        (bif (x6.2 == 0) then
          (spans_Same x6.1 x5.1).bind fun x7 =>
          some x7
        else
          some false)).bind fun (y3 : Bool) =>
      some (y3 && epactlaw05_awake)))

noncomputable def epactlaw05_FormNext.s0 (f : Form) (i : Int) (x2 : Int × Bool) (s1 : Int) : Option ((Int) ⊕ (Jx (Int) (Bool))) :=
  (bif ((x2.2 && (decide (s1 < x2.1))) && (decide (s1 < (w64 (((w64 i).fdiv (2 ^ 1)) + 40))))) then
    (gran_Get f s1).bind fun x4 =>
    (bif ((x4.2 == 0) && (decide ((x4.1.length : Int) > 0))) then
      some (.inr (.ret false))
    else
      some (.inl (w64 (s1 + 1))))
  else
    some (.inr (.go ((w64 i).fdiv (2 ^ 1)))))

noncomputable def epactlaw05_FormNext.s1 (f : Form) (x3 : Int × Bool) (a2 : Int) (s2 : Int) : Option ((Int) ⊕ (Jx (Unit) (Bool))) :=
  (bif ((x3.2 && (decide (s2 > x3.1))) && (decide (s2 > (w64 (a2 - 40))))) then
    (gran_Get f s2).bind fun x5 =>
    (bif ((x5.2 == 0) && (decide ((x5.1.length : Int) > 0))) then
      some (.inr (.ret false))
    else
      some (.inl (w64 (s2 - 1))))
  else
    some (.inr (.go ())))

noncomputable def epactlaw05_FormNext (f : Form) (i : Int) : Option (Bool) :=
  (epactlaw05_right f).bind fun x1 =>
  (bif (!x1) then
    some epactlaw05_awake
  else
    (gran_Behind f ((w64 i).fdiv (2 ^ 1))).bind fun x2 =>
    (gran_Before f ((w64 i).fdiv (2 ^ 1))).bind fun x3 =>
    (bif ((x2.2 && (decide (x2.1 ≤ ((w64 i).fdiv (2 ^ 1))))) || (x3.2 && (decide (x3.1 ≥ ((w64 i).fdiv (2 ^ 1)))))) then
      some false
    else
      (loopO (epactlaw05_FormNext.s0 f i x2) (w64 (((w64 i).fdiv (2 ^ 1)) + 1))).bind fun (y1 : Jx (Int) (Bool)) =>
      y1.elim (fun r' =>
          some r') fun a2 =>
      (loopO (epactlaw05_FormNext.s1 f x3 a2) (w64 (a2 - 1))).bind fun (y2 : Jx (Unit) (Bool)) =>
      y2.elim (fun r' =>
          some r') fun a4 =>
      (
        (bif x2.2 then
          (gran_Before f x2.1).bind fun x6 =>
          (bif ((x6.2 && (decide (x6.1 > a2))) || (x3.2 && ((!x6.2) || (decide (x6.1 < x3.1))))) then
            some (.ret false)
          else
            some (.go ()))
        else
          some (.go ()))).bind fun (y3 : Jx (Unit) (Bool)) =>
      y3.elim (fun r' =>
          some r') fun a6 =>
      some epactlaw05_awake))

noncomputable def slices_EqualFunc_SSpan_SSpan_Span_Span.s0 (s1' : (List Span)) (s2' : (List Span)) (eq : Span → Span → Option Bool) (s1 : Int) : Option ((Int) ⊕ (Jx (Unit) (Bool))) :=
  (bif (decide (s1 < (s1'.length : Int))) then
    (at? s1' s1).bind fun x1 =>
    (at? s2' s1).bind fun x2 =>
    (eq x1 x2).bind fun x3 =>
    (bif (!x3) then
      some (.inr (.ret false))
    else
      some (.inl (w64 (s1 + 1))))
  else
    some (.inr (.go ())))

noncomputable def slices_EqualFunc_SSpan_SSpan_Span_Span (s1' : (List Span)) (s2' : (List Span)) (eq : Span → Span → Option Bool) : Option (Bool) :=
  (bif ((s1'.length : Int) != (s2'.length : Int)) then
    some false
  else
    (loopO (slices_EqualFunc_SSpan_SSpan_Span_Span.s0 s1' s2' eq) 0).bind fun (y1 : Jx (Unit) (Bool)) =>
    y1.elim (fun r' =>
        some r') fun a2 =>
    some true)

noncomputable def slices_EqualFunc_SSSpan_SSSpan_SSpan_SSpan.s0 (s1' : (List (List Span))) (s2' : (List (List Span))) (eq : (List Span) → (List Span) → Option Bool) (s1 : Int) : Option ((Int) ⊕ (Jx (Unit) (Bool))) :=
  (bif (decide (s1 < (s1'.length : Int))) then
    (at? s1' s1).bind fun x1 =>
    (at? s2' s1).bind fun x2 =>
    (eq x1 x2).bind fun x3 =>
    (bif (!x3) then
      some (.inr (.ret false))
    else
      some (.inl (w64 (s1 + 1))))
  else
    some (.inr (.go ())))

noncomputable def slices_EqualFunc_SSSpan_SSSpan_SSpan_SSpan (s1' : (List (List Span))) (s2' : (List (List Span))) (eq : (List Span) → (List Span) → Option Bool) : Option (Bool) :=
  (bif ((s1'.length : Int) != (s2'.length : Int)) then
    some false
  else
    (loopO (slices_EqualFunc_SSSpan_SSSpan_SSpan_SSpan.s0 s1' s2' eq) 0).bind fun (y1 : Jx (Unit) (Bool)) =>
    y1.elim (fun r' =>
        some r') fun a2 =>
    some true)

noncomputable def slices_EqualFunc_SGranule_SGranule_Granule_Granule.s0 (s1' : (List Granule)) (s2' : (List Granule)) (eq : Granule → Granule → Option Bool) (s1 : Int) : Option ((Int) ⊕ (Jx (Unit) (Bool))) :=
  (bif (decide (s1 < (s1'.length : Int))) then
    (at? s1' s1).bind fun x1 =>
    (at? s2' s1).bind fun x2 =>
    (eq x1 x2).bind fun x3 =>
    (bif (!x3) then
      some (.inr (.ret false))
    else
      some (.inl (w64 (s1 + 1))))
  else
    some (.inr (.go ())))

noncomputable def slices_EqualFunc_SGranule_SGranule_Granule_Granule (s1' : (List Granule)) (s2' : (List Granule)) (eq : Granule → Granule → Option Bool) : Option (Bool) :=
  (bif ((s1'.length : Int) != (s2'.length : Int)) then
    some false
  else
    (loopO (slices_EqualFunc_SGranule_SGranule_Granule_Granule.s0 s1' s2' eq) 0).bind fun (y1 : Jx (Unit) (Bool)) =>
    y1.elim (fun r' =>
        some r') fun a2 =>
    some true)

noncomputable def epactlow_Alike.s0 (a : (List Span)) (b : (List Span)) (s1 : Int) : Option ((Int) ⊕ (Jx (Unit) (Bool))) :=
  (bif (decide (s1 < (a.length : Int))) then
    (at? a s1).bind fun x1 =>
    (at? b s1).bind fun x2 =>
    (bif (!((x2.From == x1.From) && ((x2.To == x1.To) && true))) then
      some (.inr (.ret false))
    else
      some (.inl (w64 (s1 + 1))))
  else
    some (.inr (.go ())))

noncomputable def epactlow_Alike (a : (List Span)) (b : (List Span)) : Option (Bool) :=
  (bif ((a.length : Int) != (b.length : Int)) then
    some false
  else
    (loopO (epactlow_Alike.s0 a b) 0).bind fun (y1 : Jx (Unit) (Bool)) =>
    y1.elim (fun r' =>
        some r') fun a2 =>
    some true)

noncomputable def epactlow_AlikeForms.s0 (a : Form) (b : Form) (s1 : Int) : Option ((Int) ⊕ (Jx (Unit) (Bool))) :=
  (bif (decide (s1 < (a.Core.length : Int))) then
    (at? a.Core s1).bind fun x1 =>
    (at? b.Core s1).bind fun x2 =>
    (epactlow_Alike x1 x2).bind fun x3 =>
    (bif (!x3) then
      some (.inr (.ret false))
    else
      some (.inl (w64 (s1 + 1))))
  else
    some (.inr (.go ())))

noncomputable def epactlow_AlikeForms.s1 (a : Form) (b : Form) (s2 : Int) : Option ((Int) ⊕ (Jx (Unit) (Bool))) :=
  (bif (decide (s2 < (a.Odd.length : Int))) then
    (at? a.Odd s2).bind fun x4 =>
    (at? b.Odd s2).bind fun x5 =>
    (
      (bif (x4.Index != x5.Index) then
        some true
      else
        (at? b.Odd s2).bind fun x6 =>
        (epactlow_Alike x4.Ticks x6.Ticks).bind fun x7 =>
        some (!x7))).bind fun (y3 : Bool) =>
    (bif y3 then
      some (.inr (.ret false))
    else
      some (.inl (w64 (s2 + 1))))
  else
    some (.inr (.go ())))

noncomputable def epactlow_AlikeForms (a : Form) (b : Form) : Option (Bool) :=
  (bif ((((a.Period != b.Period) || (a.Count != b.Count)) || ((a.Core.length : Int) != (b.Core.length : Int))) || ((a.Odd.length : Int) != (b.Odd.length : Int))) then
    some false
  else
    (loopO (epactlow_AlikeForms.s0 a b) 0).bind fun (y1 : Jx (Unit) (Bool)) =>
    y1.elim (fun r' =>
        some r') fun a2 =>
    (loopO (epactlow_AlikeForms.s1 a b) 0).bind fun (y2 : Jx (Unit) (Bool)) =>
    y2.elim (fun r' =>
        some r') fun a4 =>
    some true)

noncomputable def epactlaw06_right (f : Form) : Option (Bool) :=
  (epactlaw05_Small f).bind fun x1 =>
  (
    (bif x1 then
      (gran_Right f).bind fun x2 =>
      some (x2 == 0)
    else
      some false)).bind fun (y1 : Bool) =>
  some y1

noncomputable def epactlaw06_near.s0 (f : Form) (most : Int) (s1 : Int) : Option ((Int) ⊕ (Jx (Unit) (Bool))) :=
  (bif (decide (s1 < (f.Odd.length : Int))) then
    (at? f.Odd s1).bind fun x1 =>
    (bif ((decide (x1.Index < (w64 (0 - most)))) || (decide (x1.Index > most))) then
      some (.inr (.ret false))
    else
      some (.inl (w64 (s1 + 1))))
  else
    some (.inr (.go ())))

noncomputable def epactlaw06_near (f : Form) (most : Int) : Option (Bool) :=
  (loopO (epactlaw06_near.s0 f most) 0).bind fun (y1 : Jx (Unit) (Bool)) =>
  y1.elim (fun r' =>
      some r') fun a2 =>
  some true

def epactlaw06_awake : Bool := true

noncomputable def canon_bare_1 (l : (List Span)) : Bool :=
  (decide ((l.length : Int) > 0))

noncomputable def canon_bare (f : Form) : Option (Bool) :=
  (slices_ContainsFunc_SSSpan_SSpan f.Core (fun z0 => some (canon_bare_1 z0))).bind fun x1 =>
  some (!x1)

noncomputable def canon_divisors_1.s0 (p1' : Int) {S : Type} (yield : S → Int → Option (S × Bool)) (s1 : Int × S) : Option ((Int × S) ⊕ (Jx (S) (S))) :=
  (bif (decide (s1.1 ≤ p1')) then
    (nz? s1.1).bind fun u1 =>
    (
      (bif ((p1'.tmod s1.1) == 0) then
        (yield s1.2 s1.1).bind fun x1 =>
        some ((!x1.2), x1.1)
      else
        some (false, s1.2))).bind fun (y2 : Bool × S) =>
    (bif y2.1 then
      some (.inr (.ret y2.2))
    else
      some (.inl ((w64 (s1.1 + 1)), y2.2)))
  else
    some (.inr (.go s1.2)))

noncomputable def canon_divisors_1 {S : Type} (p1' : Int) (yield : S → Int → Option (S × Bool)) (st' : S) : Option (S) :=
  (loopO (canon_divisors_1.s0 p1' yield) (1, st')).bind fun (y1 : Jx (S) (S)) =>
  y1.elim (fun r' =>
      some r') fun a2 =>
  some a2

noncomputable def canon_shifted_1 (x' : Span) (y : Span) (p2' : Int) : Bool :=
  (((w64 (y.From - x'.From)) == p2') && ((w64 (y.To - x'.To)) == p2'))

noncomputable def canon_shifted (a : (List Span)) (b : (List Span)) (by' : Int) : Option (Bool) :=
  (slices_EqualFunc_SSpan_SSpan_Span_Span a b (fun z0 z1 => some (canon_shifted_1 z0 z1 by'))).bind fun x1 =>
  some x1

noncomputable def canon_turn.s0 (f : Form) (d : Int) (by' : Int) (s1 : Int) : Option ((Int) ⊕ (Jx (Unit) (Bool))) :=
  (bif (decide (s1 < (f.Core.length : Int))) then
    (
      (
        (at? f.Core s1).bind fun x1 =>
        (
          (bif (decide ((w64 (s1 + d)) ≥ f.Count)) then
            some ((w64 ((w64 (s1 + d)) - f.Count)), f.Period)
          else
            some ((w64 (s1 + d)), 0))).bind fun (y4 : Int × Int) =>
        (at? f.Core y4.1).bind fun x2 =>
        (canon_shifted x1 x2 (w64 (by' - y4.2))).bind fun x3 =>
        (bif (!x3) then
          some (.ret false)
        else
          some (.go ()))).bind fun (y3 : Jx (Unit) (Bool)) =>
      y3.elim (fun r' =>
          some (.ret r')) fun a4 =>
      some (.go ())).bind fun (y2 : Jx (Unit) (Bool)) =>
    y2.elim (fun r' =>
        some (.inr (.ret r'))) fun a5 =>
    some (.inl (w64 (s1 + 1)))
  else
    some (.inr (.go ())))

noncomputable def canon_turn (f : Form) (d : Int) (by' : Int) : Option (Bool) :=
  (loopO (canon_turn.s0 f d by') 0).bind fun (y1 : Jx (Unit) (Bool)) =>
  y1.elim (fun r' =>
      some r') fun a6 =>
  some true

noncomputable def canon_core.s1 (x4 : (List (List Span))) (s3 : Int × (List (List Span))) : Option ((Int × (List (List Span))) ⊕ ((List (List Span)))) :=
  (bif (decide (s3.1 < (x4.length : Int))) then
    (at? x4 s3.1).bind fun x5 =>
    (clone? 16 x5).bind fun x6 =>
    (app? 24 s3.2 [x6]).bind fun x7 =>
    some (.inl ((w64 (s3.1 + 1)), x7))
  else
    some (.inr s3.2))

noncomputable def canon_core.b0 (f : Form) (s2 : (List (List Span)) × Int × Int) (z2 : Int) : Option (((List (List Span)) × Int × Int) × Nat) :=
  (nz? z2).bind fun u1 =>
  (safe_Floor f.Period (w64 (f.Count.tdiv z2))).bind fun x2 =>
  (
    (bif (x2.2.1 != 0) then
      some true
    else
      (canon_turn f z2 x2.1).bind fun x3 =>
      some (!x3))).bind fun (y3 : Bool) =>
  (bif y3 then
    some ((s2.1, s2.2.1, s2.2.2), 0)
  else
    (cut? f.Core 0 z2).bind fun x4 =>
    (loopO (canon_core.s1 x4) (0, s2.1)).bind fun (y4 : (List (List Span))) =>
    some ((y4, x2.1, z2), 1))

noncomputable def canon_core (f : Form) : Option (Form) :=
  (canon_bare f).bind fun x1 =>
  (bif x1 then
    some (Form.mk 0 0 [] [])
  else
    (
      (canon_divisors_1 f.Count (rangeY (canon_core.b0 f)) (([], 0, 0), 0)).bind fun (y2 : ((List (List Span)) × Int × Int) × Nat) =>
      (bif (y2.2 == 0) then
        some (y2.1.1, y2.1.2.1, y2.1.2.2)
      else
        some (y2.1.1, y2.1.2.1, y2.1.2.2))).bind fun (y1 : (List (List Span)) × Int × Int) =>
    some (Form.mk y1.2.1 y1.2.2 y1.1 []))

noncomputable def canon_plain (f : Form) (g : Granule) : Option (Bool) :=
  (gran_Get f g.Index).bind fun x1 =>
  (
    (bif (x1.2 == 0) then
      (spans_Same x1.1 g.Ticks).bind fun x2 =>
      some x2
    else
      some false)).bind fun (y1 : Bool) =>
  some y1

noncomputable def canon_Form.s0 (f : Form) (x1 : Form) (s2 : Int × (List Granule)) : Option ((Int × (List Granule)) ⊕ ((List Granule))) :=
  (bif (decide (s2.1 < (f.Odd.length : Int))) then
    (
      (
        (at? f.Odd s2.1).bind fun x2 =>
        (canon_plain x1 x2).bind fun x3 =>
        (bif (!x3) then
          (clone? 16 x2.Ticks).bind fun x4 =>
          (app? 32 s2.2 [(Granule.mk x2.Index x4)]).bind fun x5 =>
          some x5
        else
          some s2.2)).bind fun (y3 : (List Granule)) =>
      some y3).bind fun (y2 : (List Granule)) =>
    some (.inl ((w64 (s2.1 + 1)), y2))
  else
    some (.inr s2.2))

noncomputable def canon_Form (f : Form) : Option (Form) :=
  (canon_core f).bind fun x1 =>
  (loopO (canon_Form.s0 f x1) (0, [])).bind fun (y1 : (List Granule)) =>
  some (Form.mk x1.Period x1.Count x1.Core y1)

noncomputable def canon_equal_1 (x' : Granule) (y : Granule) : Option (Bool) :=
  (
    (bif (x'.Index == y.Index) then
      (spans_Same x'.Ticks y.Ticks).bind fun x1 =>
      some x1
    else
      some false)).bind fun (y1 : Bool) =>
  some y1

noncomputable def canon_equal (a : Form) (b : Form) : Option (Bool) :=
  (
    (bif ((a.Period == b.Period) && (a.Count == b.Count)) then
      (slices_EqualFunc_SSSpan_SSSpan_SSpan_SSpan a.Core b.Core (fun z0 z1 => spans_Same z0 z1)).bind fun x1 =>
      some x1
    else
      some false)).bind fun (y1 : Bool) =>
  (
    (bif y1 then
      (slices_EqualFunc_SGranule_SGranule_Granule_Granule a.Odd b.Odd (fun z0 z1 => canon_equal_1 z0 z1)).bind fun x2 =>
      some x2
    else
      some false)).bind fun (y2 : Bool) =>
  some y2

noncomputable def canon_Same (f : Form) (g : Form) : Option (Bool) :=
  (canon_Form f).bind fun x1 =>
  (canon_Form g).bind fun x2 =>
  (canon_equal x1 x2).bind fun x3 =>
  some x3

noncomputable def epactlaw06_CanonSame.s0 (f : Form) (g : Form) (s1 : Int) : Option ((Int) ⊕ (Jx (Bool) (Bool))) :=
  (bif (decide (s1 ≤ 2000)) then
    (gran_Get f s1).bind fun x5 =>
    (gran_Get g s1).bind fun x6 =>
    (bif ((x5.2 != 0) || (x6.2 != 0)) then
      some (.inr (.ret epactlaw06_awake))
    else
      (spans_Same x5.1 x6.1).bind fun x7 =>
      (bif (!x7) then
        some (.inr (.go false))
      else
        some (.inl (w64 (s1 + 1)))))
  else
    some (.inr (.go true)))

noncomputable def epactlaw06_CanonSame (f : Form) (g : Form) : Option (Bool) :=
  (epactlaw06_right f).bind fun x1 =>
  (
    (bif (!x1) then
      some true
    else
      (epactlaw06_right g).bind fun x2 =>
      some (!x2))).bind fun (y1 : Bool) =>
  (
    (bif y1 then
      some true
    else
      (epactlaw06_near f 200).bind fun x3 =>
      some (!x3))).bind fun (y2 : Bool) =>
  (
    (bif y2 then
      some true
    else
      (epactlaw06_near g 200).bind fun x4 =>
      some (!x4))).bind fun (y3 : Bool) =>
  (bif ((y3 || (decide (f.Period > 32768))) || (decide (g.Period > 32768))) then
    some epactlaw06_awake
  else
    (loopO (epactlaw06_CanonSame.s0 f g) (-2000)).bind fun (y4 : Jx (Bool) (Bool)) =>
    y4.elim (fun r' =>
        some r') fun a2 =>
    (canon_Same f g).bind fun x8 =>
    (
      (bif (x8 == a2) then
        (canon_Form f).bind fun x9 =>
        (canon_Form g).bind fun x10 =>
        (epactlow_AlikeForms x9 x10).bind fun x11 =>
        some (x11 == a2)
      else
        some false)).bind fun (y5 : Bool) =>
    some (y5 && epactlaw06_awake))

noncomputable def canon_Is (f : Form) : Option (Bool) :=
  (canon_Form f).bind fun x1 =>
  (canon_equal f x1).bind fun x2 =>
  some x2

noncomputable def epactlaw06_CanonKeeps.s0 (f : Form) (i : Int) (x2 : Form) (s1 : Int) : Option ((Int) ⊕ (Jx (Unit) (Bool))) :=
  (bif (decide (s1 < ([i, 0, 1, (-1), (w64 ((i.tmod 50) - 25))].length : Int))) then
    (at? [i, 0, 1, (-1), (w64 ((i.tmod 50) - 25))] s1).bind fun x9 =>
    (gran_Get f x9).bind fun x10 =>
    (gran_Get x2 x9).bind fun x11 =>
    (
      (bif (x10.2 != x11.2) then
        some true
      else
        (spans_Same x10.1 x11.1).bind fun x12 =>
        some (!x12))).bind fun (y5 : Bool) =>
    (bif y5 then
      some (.inr (.ret false))
    else
      some (.inl (w64 (s1 + 1))))
  else
    some (.inr (.go ())))

noncomputable def epactlaw06_CanonKeeps (f : Form) (i : Int) : Option (Bool) :=
  (epactlaw06_right f).bind fun x1 =>
  (bif (!x1) then
    some epactlaw06_awake
  else
    (canon_Form f).bind fun x2 =>
    (gran_Right x2).bind fun x3 =>
    (
      (bif (x3 != 0) then
        some true
      else
        (canon_Is x2).bind fun x4 =>
        some (!x4))).bind fun (y1 : Bool) =>
    (
      (bif y1 then
        some true
      else
        (canon_Form x2).bind fun x5 =>
        (epactlow_AlikeForms x5 x2).bind fun x6 =>
        some (!x6))).bind fun (y2 : Bool) =>
    (
      (bif (((y2 || (decide (x2.Count > f.Count))) || (decide (x2.Period > f.Period))) || (decide ((x2.Odd.length : Int) > (f.Odd.length : Int)))) then
        some true
      else
        (gran_Size x2).bind fun x7 =>
        (gran_Size f).bind fun x8 =>
        some (decide (x7 > x8)))).bind fun (y3 : Bool) =>
    (bif y3 then
      some false
    else
      (loopO (epactlaw06_CanonKeeps.s0 f i x2) 0).bind fun (y4 : Jx (Unit) (Bool)) =>
      y4.elim (fun r' =>
          some r') fun a2 =>
      (canon_Same f x2).bind fun x13 =>
      some (x13 && epactlaw06_awake)))

end Go.Dn
