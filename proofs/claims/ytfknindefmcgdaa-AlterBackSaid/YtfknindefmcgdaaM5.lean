/- Part 5 of what the row stands on. -/
import Derived.Test.YtfknindefmcgdaaM4
set_option linter.unusedVariables false
set_option linter.unusedSimpArgs false
namespace Go.Dn
open Go
theorem Z1D:reachBytes = 140737488351232:=rfl
def ZG (t:Int):Prop:=-1099511627776≤t∧t≤1099511627776
instance (t:Int):Decidable (ZG t):=by unfold ZG;infer_instance
theorem Z6Y (t:Int):Z0l t = decide (ZG t):=by
 rw [Bool.eq_iff_iff,decide_eq_true_iff];simp [Z0l,ZG]
theorem Z7J (t:Int):Z0x t = decide (ZG t):=by
 rw [Bool.eq_iff_iff,decide_eq_true_iff];simp [Z0x,ZG]
theorem Z1s {t:Int} (h:ZG t):In64 t:=by unfold ZG at h;unfold In64;omega
structure RightL (l:List Span):Prop where
 ok:∀ (k:Nat) (s:Span),l[k]? = some s→ZG s.From∧ZG s.To∧s.From≤s.To
 gap:∀ (k:Nat) (s t:Span),l[k]? = some s→l[k + 1]? = some t→s.To + 2≤t.From
abbrev Len (l:List Span):Prop:=l.length * 16≤reachBytes
abbrev Sp64 (l:List Span):Prop:=∀ s ∈ l,In64 s.From∧In64 s.To
theorem Span.ok64 {s:Span} (h:s.ok):In64 s.From∧In64 s.To:=h
theorem okSpans {l:List Span} (h:okL 16 Span.ok l):Len l∧Sp64 l:=⟨h.1,fun s hs => Span.ok64 (h.2 s hs)⟩
theorem RightL.sp64 {l:List Span} (h:RightL l):Sp64 l:=fun s hs => by
 obtain ⟨k,hk⟩:=YC hs
 have:=h.ok k s hk
 exact ⟨Z1s this.1,Z1s this.2.1⟩
def Z50 (l:List Span) (k:Nat) (s:Span):Prop:=ZG s.From∧ZG s.To∧s.From≤s.To∧∀ p,k ≠ 0→l[k - 1]? = some p→p.To + 2≤s.From
theorem Z7S {l:List Span}:RightL l ↔ ∀ k s,l[k]? = some s→Z50 l k s:=by
 constructor
 ·intro h k s hk;obtain ⟨h1,h2,h3⟩:=h.ok k s hk
  refine ⟨h1,h2,h3,fun p h0 hp => ?_⟩
  have:k - 1 + 1 = k:=by omega
  exact h.gap (k - 1) p s hp (by rw [this];exact hk)
 ·intro h;refine ⟨fun k s hk => ⟨(h k s hk).1,(h k s hk).2.1,(h k s hk).2.2.1⟩,fun k s t hs ht => (h (k + 1) t ht).2.2.2 s (by omega) (by simpa using hs)⟩
theorem Z83 {l:List Span} (hl:Len l) (h64:Sp64 l):∃ b,Z06 l = some b∧(b = true ↔ RightL l):=by
 have hlen:l.length≤maxLen:=by rw [ZAl];have:=Z1D;unfold Len at hl;omega
 have step:∀ (k:Nat) (s:Span),l[k]? = some s→(∀ j y,j < k→l[j]? = some y→Z50 l j y)→∃ b,Z06.s0 l (k:Int) = (if b = true then some (.inl ((k:Int) + 1)) else some (.inr (.ret false)))∧(b = true ↔ Z50 l k s):=by
  intro k s hk hprev;have hlt:=(List.getElem?_eq_some_iff.1 hk).1
  have hat:at? l (k:Int) = some s:=by rw [at?_nat hlt];rw [Y2 hlt] at hk;exact hk
  unfold Z06.s0;rw [ZX (show (k:Int) < l.length by omega),cond_true,hat]
  simp only [Y0,Z6Y];have hk1:w64 ((k:Int) + 1) = k + 1:=ZC (by rw [ZAl] at hlen;omega)
  by_cases h1:ZG s.From∧ZG s.To∧s.From≤s.To
  ·have:(!decide (ZG s.From) || !decide (ZG s.To) || decide (s.From > s.To)) = false:=by
    rw [ZX h1.1,ZX h1.2.1,ZW (by omega)];rfl
   rw [this,cond_false]
   by_cases h0:k = 0
   ·subst h0;refine ⟨true,by simp [w64];rw [Z6k];rfl,by simp [Z50,h1]⟩
   ·have hk0:(k:Int) > 0:=by omega
    have hpl:k - 1 < l.length:=by omega
    have hp:at? l (w64 ((k:Int) - 1)) = some l[k - 1]:=by
     rw [ZC (by rw [ZAl] at hlen;omega),show ((k:Int) - 1) = ((k - 1:Nat):Int) by omega,at?_nat hpl]
    have hpg:=hprev (k - 1) _ (by omega) (Y2 hpl)
    have hpt:w64 (l[k - 1].To + 2) = l[k - 1].To + 2:=by
     have:=hpg.2.1;unfold ZG at this;exact ZC (by omega)
    rw [ZX hk0,cond_true,hp];simp only [Y0,hpt];refine ⟨!decide (s.From < l[k - 1].To + 2),?_,?_⟩
    ·cases hd:decide (s.From < l[k - 1].To + 2) <;> simp [hk1]
    ·simp only [YV,decide_eq_false_iff_not,Z50]
     constructor
     ·intro h;refine ⟨h1.1,h1.2.1,h1.2.2,fun p _ hp' => ?_⟩
      rw [Y2 hpl] at hp';cases hp';omega
     ·intro h;have:=h.2.2.2 _ h0 (Y2 hpl);omega
  ·refine ⟨false,?_,by simp only [YA,Z50,false_iff];intro h;exact h1 ⟨h.1,h.2.1,h.2.2.1⟩⟩
   have:(!decide (ZG s.From) || !decide (ZG s.To) || decide (s.From > s.To)) = true:=by
    by_cases a1:ZG s.From
    ·by_cases a2:ZG s.To
     ·have a3:s.From > s.To:=by
       apply Classical.byContradiction;intro h;exact h1 ⟨a1,a2,by omega⟩
      rw [ZX a3];simp
     ·rw [ZW a2];simp
    ·rw [ZW a1];simp
   rw [this];rfl
 unfold Z06
 rcases Z3a (l:=l) (step:=Z06.s0 l) (Z50 l) (no:=.ret false) (yes:=.go ()) (fun k x hk hp => by
   obtain ⟨b,h1,h2⟩:=step k x hk hp
   cases b
   ·exact .inr ⟨h1,fun h => by have:=h2.2 h;cases this⟩
   ·exact .inl ⟨h1,h2.1 rfl⟩) (by
   unfold Z06.s0;rw [ZW (by omega)];rfl) with ⟨h1,h2⟩ | ⟨h1,h2⟩
 ·rw [h1];exact ⟨true,rfl,by simp [Z7S.2 h2]⟩
 ·rw [h1];exact ⟨false,rfl,by simp only [YA,false_iff];exact fun h => h2 (Z7S.1 h)⟩
def ZU (by_:Int) (s:Span):Span:=⟨s.From + by_,s.To + by_⟩
theorem Z4u {l:List Span} {b:Int} (hl:Len l) (h64:Sp64 l) (hb:In64 b) :
  ((∀ s ∈ l,ZG (s.From + b)∧ZG (s.To + b))∧Z0C l b = some (l.map (ZU b),0))∨((¬ ∀ s ∈ l,ZG (s.From + b)∧ZG (s.To + b))∧Z0C l b = some ([],20)):=by
 have hlen:(l.length:Int) < 9223372036854775807:=by have:=Z1D;unfold Len at hl;omega
 have step:∀ (k:Nat) (s:Span) (acc:List Span),l[k]? = some s→acc.length = k→Z0C.s0 l b ((k:Int),acc) = if ZG (s.From + b)∧ZG (s.To + b) then some (.inl ((k:Int) + 1,acc ++ [ZU b s])) else some (.inr (.ret ([],20))):=by
  intro k s acc hk hacc;have hlt:=(List.getElem?_eq_some_iff.1 hk).1
  have hat:at? l (k:Int) = some s:=by rw [at?_nat hlt];rw [Y2 hlt] at hk;exact hk
  obtain ⟨f64,t64⟩:=h64 s (Y6 hk)
  unfold Z0C.s0;rw [ZX (show (k:Int) < l.length by omega),cond_true,hat]
  simp only [Y0];rw [ZBh f64 hb,ZBh t64 hb,Z6Y,Z6Y];have hk1:w64 ((k:Int) + 1) = k + 1:=ZC (by omega)
  have happ:∀ x:Span,app? 16 acc [x] = some (acc ++ [x]):=fun x => app?_ok (by
   have:=Z1D;have:=Z4m;unfold Len at hl;simp;omega)
  rcases Z7Q (s.From + b) with ⟨q1,q2⟩ | ⟨q1,q2⟩ <;> rcases Z7Q (s.To + b) with ⟨q3,q4⟩ | ⟨q3,q4⟩ <;> rw [q2,q4]
  ·by_cases h:ZG (s.From + b)∧ZG (s.To + b)
   ·rw [if_pos h,ZX h.1,ZX h.2];simp [happ,hk1,ZU]
   ·rw [if_neg h];have:(!decide (ZG (s.From + b)) || !decide (ZG (s.To + b))) = true:=by
     by_cases h1:ZG (s.From + b)
     ·rw [ZW (fun h2 => h ⟨h1,h2⟩)];simp
     ·rw [ZW h1];simp
    simp only [bne_self_eq_false,Y0U,Bool.or_assoc] at this ⊢;rw [this];rfl
  ·rw [if_neg (fun h => q3 (Z1s h.2))];rfl
  ·rw [if_neg (fun h => q1 (Z1s h.1))];rfl
  ·rw [if_neg (fun h => q1 (Z1s h.1))];rfl
 have hend:∀ acc,Z0C.s0 l b ((l.length:Int),acc) = some (.inr (.go acc)):=fun acc => by unfold Z0C.s0;rw [ZW (by omega)];rfl
 unfold Z0C
 by_cases hall:∀ s ∈ l,ZG (s.From + b)∧ZG (s.To + b)
 ·refine .inl ⟨hall,?_⟩;have:loopO (Z0C.s0 l b) (0,[]) = some (.go (l.map (ZU b))):=by
   refine Z1G (I:=fun (s:Int × List Span) r => r = .go (l.map (ZU b))∧∃ k:Nat,k≤l.length∧s = ((k:Int),(l.take k).map (ZU b))) (fun s => l.length - s.1.toNat) ?_ ⟨rfl,0,YX _,by simp⟩
   rintro s r ⟨rfl,k,hk,rfl⟩
   by_cases hlt:k < l.length
   ·refine .inl ⟨_,by rw [step k l[k] _ (Y2 hlt) (by simp;omega),if_pos (hall _ (YW hlt))],⟨rfl,k + 1,hlt,?_⟩,by simp;omega⟩
    rw [Y0f hlt,Y00];push_cast;rfl
   ·have:k = l.length:=by omega
    subst this;rw [Y0Y];exact .inr (hend _)
  rw [this];rfl
 ·refine .inr ⟨hall,?_⟩;obtain ⟨k0,s0,hk0,hb0,hg⟩:=ZAg (l:=l) (good:=fun _ s => ZG (s.From + b)∧ZG (s.To + b)) (fun h => hall fun s hs => by
   obtain ⟨k,hk⟩:=YC hs;exact h k s hk)
  have hlt0:=(List.getElem?_eq_some_iff.1 hk0).1
  have:loopO (Z0C.s0 l b) (0,[]) = some (.ret ([],20)):=by
   refine Z1G (I:=fun (s:Int × List Span) r => r = .ret ([],20)∧∃ k:Nat,k≤k0∧s.1 = (k:Int)∧s.2.length = k) (fun s => l.length - s.1.toNat) ?_ ⟨rfl,0,YX _,rfl,rfl⟩
   rintro ⟨i,acc⟩ r ⟨rfl,k,hk,h1,h2⟩;simp only at h1 h2;subst h1
   by_cases hlt:k < k0
   ·have hkl:k < l.length:=by omega
    exact .inl ⟨_,by rw [step k l[k] _ (Y2 hkl) h2,if_pos (hg k _ hlt (Y2 hkl))],⟨rfl,k + 1,hlt,by push_cast;rfl,by simp;omega⟩,by simp;omega⟩
   ·have:k = k0:=by omega
    subst this;exact .inr (by rw [step k s0 _ hk0 h2,if_neg hb0])
  rw [this];rfl
theorem RightL.shift {l:List Span} {b:Int} (h:RightL l) (ht:∀ s ∈ l,ZG (s.From + b)∧ZG (s.To + b)):RightL (l.map (ZU b)):=by
 constructor
 ·intro k s hk;rw [YP,Y1] at hk;obtain ⟨s,hk,rfl⟩:=hk
  have h1:=h.ok k s hk
  have h2:=ht s (Y6 hk)
  exact ⟨h2.1,h2.2,by simp only [ZU];omega⟩
 ·intro k s t hk hk1;rw [YP,Y1] at hk hk1;obtain ⟨s,hk,rfl⟩:=hk
  obtain ⟨t,hk1,rfl⟩:=hk1
  have:=h.gap k s t hk hk1
  simp only [ZU];omega
def Z3p (a b:List Span):Prop:=∀ x,a.getLast? = some x→∀ y,b.head? = some y→x.To < y.From
theorem Z5z {a b:List Span} (ha:Len a):∃ r,Z0a a b = some r∧(r = true ↔ Z3p a b):=by
 unfold Z0a
 cases a with
 | nil => exact ⟨true,by simp,by simp [Z3p]⟩
 | cons x a =>
  cases b with
  | nil => exact ⟨true,by simp,by simp [Z3p]⟩
  | cons y b =>
   have hl:((x :: a).length:Int) < 9223372036854775807:=by have:=Z1D;unfold Len at ha;omega
   have e1:(((x :: a).length:Int) == 0 || ((y :: b).length:Int) == 0) = false:=by simp;omega
   have hlt:(x :: a).length - 1 < (x :: a).length:=by simp
   have e2:at? (x :: a) (w64 (((x :: a).length:Int) - 1)) = some (x :: a)[(x :: a).length - 1]:=by
    rw [ZC (by simp at hl ⊢;omega),show (((x :: a).length:Int) - 1) = (((x :: a).length - 1:Nat):Int) by simp,at?_nat hlt]
   have e3:at? (y :: b) 0 = some y:=rfl
   rw [e1,cond_false,e2,e3];refine ⟨decide ((x :: a)[(x :: a).length - 1].To < y.From),rfl,?_⟩;have hlast:(x :: a).getLast? = some (x :: a)[(x :: a).length - 1]:=by rw [Y0c,Y2 hlt]
   simp only [decide_eq_true_eq,Z3p,hlast,List.head?_cons,Y5];exact ⟨fun h x' hx y' hy => by rw [← hx,← hy];exact h,fun h => h _ rfl _ rfl⟩
theorem span_beq (x y:Span):((x.From == y.From) && ((x.To == y.To) && true)) = decide (x = y):=by
 obtain ⟨x1,x2⟩:=x
 obtain ⟨y1,y2⟩:=y
 by_cases h1:x1 = y1 <;> by_cases h2:x2 = y2 <;> simp [h1,h2]
theorem Z8v {a b:List Span} (ha:Len a):∃ r,Z0j a b = some r∧(r = true ↔ a = b):=by
 have hl:(a.length:Int) < 9223372036854775807:=by have:=Z1D;unfold Len at ha;omega
 unfold Z0j ZS
 by_cases hlen:a.length = b.length
 ·have e1:((a.length:Int) != (b.length:Int)) = false:=Z86 (by omega)
  rw [e1,cond_false]
  rcases Z3a (l:=a) (step:=ZS.s0 a b) (fun k x => b[k]? = some x) (no:=.ret false) (yes:=.go ()) (fun k x hk hp => by
   have hlt:=(List.getElem?_eq_some_iff.1 hk).1
   have hat:at? a (k:Int) = some x:=by rw [at?_nat hlt];rw [Y2 hlt] at hk;exact hk
   have hbt:at? b (k:Int) = some (b[k]'(by omega)):=at?_nat (by omega)
   unfold ZS.s0;rw [ZX (show (k:Int) < a.length by omega),cond_true,hat,hbt,ZC (show _ by omega)]
   simp only [Y0,span_beq];rw [Y2 (show k < b.length by omega)]
   by_cases h:x = b[k]'(by omega)
   ·rw [ZX h];exact .inl ⟨rfl,congrArg some h.symm⟩
   ·rw [ZW h];exact .inr ⟨rfl,fun e => h (Option.some.inj e).symm⟩) (by
   unfold ZS.s0;rw [ZW (by omega)];rfl) with ⟨h1,h2⟩ | ⟨h1,h2⟩
  ·rw [h1];refine ⟨true,rfl,⟨fun _ => Y0e fun k => ?_,fun _ => rfl⟩⟩
   by_cases hk:k < a.length
   ·rw [Y2 hk];exact (h2 k _ (Y2 hk)).symm
   ·rw [YZ (by omega),YZ (by omega)]
  ·rw [h1];refine ⟨false,rfl,by simp only [YA,false_iff];rintro rfl;exact h2 fun k x hk => hk⟩
 ·have e1:((a.length:Int) != (b.length:Int)) = true:=bne_t (by omega)
  rw [e1,cond_true];exact ⟨false,rfl,by simp only [YA,false_iff];rintro rfl;exact hlen rfl⟩
end Go.Dn

namespace Go.Dn
open Go
theorem ZCy (x y:Int):Z1t x y = if x < y then -1 else if y < x then 1 else 0:=by
 unfold Z1t Z2t
 simp only [bne_self_eq_false,cond_false,pickB,decide_eq_true_eq,gt_iff_lt,YA,if_false]
def Inc (l:List Granule):Prop:=∀ (j k:Nat) (a b:Granule),j < k→l[j]? = some a→l[k]? = some b→a.Index < b.Index
theorem bsearch_eq {l:List Granule} {t:Int} (hl:l.length * 32≤reachBytes) (hs:Inc l):∃ p:Nat,p≤l.length∧(∀ (k:Nat) (g:Granule),l[k]? = some g→(k < p ↔ g.Index < t)) ∧
  Z2 l t (fun z0 z1 => some (Z3n z0 z1)) = some ((p:Int),decide (∃ g,l[p]? = some g∧g.Index = t)):=by
 have hlen:(l.length:Int) < 4398046511104 * 4:=by have:=Z1D;omega
 have hcmp:∀ g i,Z3n g i = if g.Index < i then -1 else if i < g.Index then 1 else 0:=fun g i => ZCy _ _
 obtain ⟨r,h1,p,rfl,hp,hlow,hhigh⟩:=Z14 (step:=Z2.s0 l t (fun z0 z1 => some (Z3n z0 z1)))
  (I:=fun s => ∃ i j:Nat,s = ((i:Int),(j:Int))∧i≤j∧j≤l.length∧(∀ k g,l[k]? = some g→k < i→g.Index < t)∧(∀ k g,l[k]? = some g→j≤k→t≤g.Index))
  (fun s => (s.2 - s.1).toNat)
  (fun r => ∃ p:Nat,r = (p:Int)∧p≤l.length∧(∀ k g,l[k]? = some g→k < p→g.Index < t)∧(∀ k g,l[k]? = some g→p≤k→t≤g.Index)) (by
  rintro s ⟨i,j,rfl,hij,hj,hlow,hhigh⟩;unfold Z2.s0
  by_cases hlt:i < j
  ·have hm:w64 ((IntKind.u64.wrap (w64 ((i:Int) + j))).fdiv (2 ^ 1)) = ((i + j) / 2:Nat):=by
    rw [ZC (x:=(i:Int) + j) (by omega),Z5y,Y0a _ (by decide),ZC (by omega)]
    omega
   have hml:(i + j) / 2 < l.length:=by omega
   simp only [hm];rw [ZX (show (i:Int) < j by omega),cond_true,at?_nat hml]
   simp only [Y0,hcmp];refine .inl ?_;have hget:=Y2 hml
   by_cases hc:l[(i + j) / 2].Index < t
   ·rw [if_pos hc];refine ⟨((((i + j) / 2 + 1:Nat):Int),(j:Int)),?_,⟨(i + j) / 2 + 1,j,rfl,by omega,hj,fun k g hk hki => ?_,hhigh⟩,by simp;omega⟩
    ·rw [ZC (by omega)];simp
    ·rcases YI k ((i + j) / 2) with h | h
     ·have:=hs k _ g _ h hk hget;omega
     ·have:k = (i + j) / 2:=by omega
      subst this;rw [hget] at hk;cases hk;exact hc
   ·rw [if_neg hc];refine ⟨((i:Int),(((i + j) / 2:Nat):Int)),?_,⟨i,(i + j) / 2,rfl,by omega,by omega,hlow,fun k g hk hki => ?_⟩,by simp;omega⟩
    ·split <;> simp
    ·rcases YI ((i + j) / 2) k with h | h
     ·have:=hs _ k _ g h hget hk;omega
     ·have:k = (i + j) / 2:=by omega
      subst this;rw [hget] at hk;cases hk;omega
  ·refine .inr ⟨(i:Int),by rw [ZW (show ¬ (i:Int) < j by omega)];rfl,i,rfl,by omega,hlow,fun k g hk hki => hhigh k g hk (by omega)⟩) (0,(l.length:Int)) ⟨0,l.length,rfl,YX _,YB _,fun k g _ h => by omega,fun k g hk h => by
    rw [YZ h] at hk;cases hk⟩
 refine ⟨p,hp,fun k g hk => ⟨fun h => hlow k g hk h,fun h => ?_⟩,?_⟩
 ·rcases YI k p with h2 | h2
  ·exact h2
  ·have:=hhigh k g hk h2;omega
 ·unfold Z2;rw [h1];simp only [Y0]
  by_cases hlt:p < l.length
  ·rw [ZX (show (p:Int) < l.length by omega),cond_true,at?_nat hlt]
   simp only [Y0,hcmp,Y5,Y3,true_and];have:=hhigh p _ (Y2 hlt) (YB _)
   rw [Y2 hlt]
   by_cases he:l[p].Index = t
   ·rw [if_neg (by omega),if_neg (by omega)];simp [he]
   ·rw [if_neg (by omega),if_pos (by omega)];simp [he]
  ·rw [ZW (show ¬ (p:Int) < l.length by omega),cond_false]
   simp only [Y0,Y5,Y3,true_and];rw [YZ (by omega)]
   simp
structure Shape (f:Form):Prop where
 count:f.Count = f.Core.length
 zero:f.Count = 0 ↔ f.Period = 0
 per:0≤f.Period∧f.Period≤1099511627776
 core:∀ l ∈ f.Core,RightL l
 odd:∀ g ∈ f.Odd,RightL g.Ticks∧ZG g.Index
 inc:Inc f.Odd
structure Lim (f:Form):Prop where
 core:f.Core.length * 24≤reachBytes
 sets:∀ l ∈ f.Core,Len l∧Sp64 l
 odd:f.Odd.length * 32≤reachBytes
 ticks:∀ g ∈ f.Odd,In64 g.Index∧Len g.Ticks∧Sp64 g.Ticks
 count:In64 f.Count
 period:In64 f.Period
theorem Form.lim {f:Form} (h:f.ok):Lim f:=by
 obtain ⟨h1,h2,h3,h4⟩:=h
 exact ⟨h3.1,fun l hl => okSpans (h3.2 l hl),h4.1,fun g hg => ⟨(h4.2 g hg).1,okSpans (h4.2 g hg).2⟩,h2,h1⟩
theorem Z6J {f:Form} (hl:Lim f) (hs:Inc f.Odd) (i:Int):∃ p:Nat,p≤f.Odd.length∧(∀ (k:Nat) (g:Granule),f.Odd[k]? = some g→(k < p ↔ g.Index < i))∧Z58 f i = some ((p:Int),decide (∃ g,f.Odd[p]? = some g∧g.Index = i)):=by
 obtain ⟨p,h1,h2,h3⟩:=bsearch_eq (t:=i) hl.odd hs
 exact ⟨p,h1,h2,by unfold Z58;rw [h3];rfl⟩
def Z2y (f:Form) (i:Int):Prop:=∃ g ∈ f.Odd,g.Index = i
def Z03 (f:Form) (i:Int):List Span:=f.Core.getD (i % f.Count).toNat []
def Z4L (f:Form) (i:Int):Int:=i / f.Count * f.Period
open Classical in
noncomputable def ZK (f:Form) (i:Int):List Span:=if h:Z2y f i then h.choose.Ticks else if f.Count = 0 then [] else (Z03 f i).map (ZU (Z4L f i))
theorem Inc.uniq {l:List Granule} (h:Inc l) {a b:Granule} (ha:a ∈ l) (hb:b ∈ l) (he:a.Index = b.Index):a = b:=by
 obtain ⟨j,hj⟩:=YC ha
 obtain ⟨k,hk⟩:=YC hb
 rcases Nat.lt_trichotomy j k with hjk | rfl | hjk
 ·have:=h j k a b hjk hj hk;omega
 ·rw [hj] at hk;cases hk;rfl
 ·have:=h k j b a hjk hk hj;omega
theorem Z0q {f:Form} (hs:Inc f.Odd) {g:Granule} (hg:g ∈ f.Odd):ZK f g.Index = g.Ticks:=by
 have h:Z2y f g.Index:=⟨g,hg,rfl⟩
 unfold ZK
 rw [dif_pos h]
 rw [hs.uniq h.choose_spec.1 hg h.choose_spec.2]
theorem Z3L {f:Form} {i:Int} (h:¬ Z2y f i) (h0:f.Count = 0):ZK f i = []:=by unfold ZK;rw [dif_neg h,if_pos h0]
theorem Z37 {f:Form} {i:Int} (h:¬ Z2y f i) (h0:f.Count ≠ 0):ZK f i = (Z03 f i).map (ZU (Z4L f i)):=by unfold ZK;rw [dif_neg h,if_neg h0]
theorem ZA9 {f:Form} (hs:Shape f) (h0:f.Count ≠ 0):0 < f.Count:=by have:=hs.count;omega
theorem Z0E {f:Form} (hs:Shape f) (h0:f.Count ≠ 0) (i:Int):at? f.Core (i % f.Count) = some (Z03 f i)∧Z03 f i ∈ f.Core:=by
 have hp:=ZA9 hs h0
 have h1:=Ya i h0
 have h2:=Ye i hp
 have h3:(i % f.Count).toNat < f.Core.length:=by have:=hs.count;omega
 unfold Z03
 rw [at?_lt h1 (by have:=hs.count;omega),YE,Y2 h3]
 exact ⟨rfl,YW h3⟩
theorem Z96 {f:Form} (hl:Lim f) (hs:Shape f) {g:Granule} (hg:g ∈ f.Odd):Z2u f g.Index = some (g.Ticks,0,0):=by
 obtain ⟨p,h1,h2,h3⟩:=Z6J hl hs.inc g.Index
 obtain ⟨k,hk⟩:=YC hg
 have hkl:=(List.getElem?_eq_some_iff.1 hk).1
 have hpk:p≤k:=by
  rcases YI k p with h | h
  ·have:=(h2 k g hk).1 h;omega
  ·exact h
 have hpl:p < f.Odd.length:=by omega
 have hpg:=h2 p _ (Y2 hpl)
 have:p = k:=by
  rcases YI p k with h | h
  ·have:=hs.inc p k _ g h (Y2 hpl) hk
   exact absurd (hpg.2 this) (Nat.lt_irrefl _)
  ·omega
 subst this
 unfold Z2u
 rw [h3]
 simp only [Y0]
 rw [ZX ⟨g,hk,rfl⟩,cond_true,at?_nat hpl]
 rw [Y2 hpl] at hk
 cases hk;rfl
theorem Z8N {f:Form} (hl:Lim f) (hs:Shape f) {i:Int} (hi:In64 i) (ho:¬ Z2y f i):Z2u f i = if f.Count = 0 then some ([],0,0) else some (Z03 f i,(fitS (Z4L f i)).1,(fitS (Z4L f i)).2):=by
 obtain ⟨p,h1,h2,h3⟩:=Z6J hl hs.inc i
 unfold Z2u
 rw [h3]
 simp only [Y0]
 rw [ZW (by rintro ⟨g,hg,he⟩;exact ho ⟨g,Y6 hg,he⟩),cond_false]
 by_cases h0:f.Count = 0
 ·rw [Z98 h0,cond_true,if_pos h0]
 ·rw [Z4Q h0,cond_false,if_neg h0,Z1Z hi hl.count,Z3I (ZA9 hs h0)];simp only [Y0];rw [(Z0E hs h0 i).1];simp only [Y0];have hq:In64 (i / f.Count):=by
   have hp:=ZA9 hs h0
   unfold In64 at hi ⊢
   constructor
   ·have : -9223372036854775808≤i / f.Count:=by
     rw [Int.le_ediv_iff_mul_le hp];have:(-9223372036854775808) * f.Count≤-9223372036854775808:=by
      have:(-9223372036854775808) * f.Count≤(-9223372036854775808) * 1:=Int.mul_le_mul_of_nonpos_left (by omega) (by omega)
      omega
     omega
    exact this
   ·have:i / f.Count≤9223372036854775807:=by
     rcases Y0g i 0 with h | h
     ·have:i / f.Count < 0:=Int.ediv_neg_of_neg_of_pos h hp
      omega
     ·have:=Y12 f.Count h
      omega
    exact this
  rw [Z2V hq hl.period]
  rfl
def fits (f:Form) (i:Int):Prop:=∀ s ∈ ZK f i,ZG s.From∧ZG s.To
theorem Z9a (l:List Span):l.map (ZU 0) = l:=by
 have:ZU 0 = id:=by funext s;simp [ZU]
 rw [this,List.map_id]
theorem Z2K {f:Form} {i:Int} (ho:¬ Z2y f i) (h0:f.Count ≠ 0):ZK f i = [] ↔ Z03 f i = []:=by rw [Z37 ho h0,List.map_eq_nil_iff]
open Classical in
theorem Z54 {f:Form} (hl:Lim f) (hs:Shape f) {i:Int} (hi:In64 i):Z01 f i = some (if ZG i∧fits f i then (ZK f i,0) else ([],20)):=by
 unfold Z01
 rw [Z7J]
 by_cases ht:ZG i
 ·rw [ZX ht,Yg,cond_false]
  by_cases ho:Z2y f i
  ·obtain ⟨g,hg,rfl⟩:=ho
   have hset:=Z0q hs.inc hg
   have hr:=(hs.odd g hg).1
   have hf:fits f g.Index:=by
    intro s hsm;rw [hset] at hsm;obtain ⟨k,hk⟩:=YC hsm
    exact ⟨(hr.ok k s hk).1,(hr.ok k s hk).2.1⟩
   rw [Z96 hl hs hg,if_pos ⟨ht,hf⟩,hset];simp only [Y0]
   by_cases hn:g.Ticks = []
   ·rw [hn];rfl
   ·have:((g.Ticks.length:Int) == 0) = false:=Z4Q (by have:=List.length_pos_iff.2 hn;omega)
    rw [this,cond_false];simp only [bne_self_eq_false,cond_false]
    rcases Z4u (b:=0) (hl.ticks g hg).2.1 hr.sp64 ⟨by decide,by decide⟩ with ⟨_,h2⟩ | ⟨h1,_⟩
    ·rw [h2,Z9a];rfl
    ·refine absurd (fun s hsm => ?_) h1
     rw [← hset] at hsm
     simpa using hf s hsm
  ·rw [Z8N hl hs hi ho]
   by_cases h0:f.Count = 0
   ·rw [if_pos h0,if_pos ⟨ht,by intro s hsm;rw [Z3L ho h0] at hsm;cases hsm⟩,Z3L ho h0];rfl
   ·rw [if_neg h0];simp only [Y0]
    by_cases hn:Z03 f i = []
    ·rw [if_pos ⟨ht,by intro s hsm;rw [(Z2K ho h0).2 hn] at hsm;cases hsm⟩,(Z2K ho h0).2 hn,hn];rfl
    ·have:(((Z03 f i).length:Int) == 0) = false:=Z4Q (by have:=List.length_pos_iff.2 hn;omega)
     rw [this,cond_false];have hmem:=(Z0E hs h0 i).2
     have hr:=hs.core _ hmem
     have hfe:fits f i ↔ ∀ s ∈ Z03 f i,ZG (s.From + Z4L f i)∧ZG (s.To + Z4L f i):=by
      unfold fits;rw [Z37 ho h0]
      constructor
      ·intro h s hsm;exact h (ZU (Z4L f i) s) (List.mem_map.2 ⟨s,hsm,rfl⟩)
      ·intro h s hsm;obtain ⟨s,hsm',rfl⟩:=List.mem_map.1 hsm
       exact h s hsm'
     rcases Z7Q (Z4L f i) with ⟨q1,q2⟩ | ⟨q1,q2⟩ <;> rw [q2]
     ·simp only [bne_self_eq_false,cond_false]
      rcases Z4u (b:=Z4L f i) (hl.sets _ hmem).1 hr.sp64 q1 with ⟨h1,h2⟩ | ⟨h1,h2⟩
      ·rw [h2,if_pos ⟨ht,hfe.2 h1⟩,Z37 ho h0];rfl
      ·rw [h2,if_neg (fun h => h1 (hfe.1 h.2))];rfl
     ·rw [if_neg]
      ·rfl
      ·rintro ⟨_,h⟩;have h:=hfe.1 h
       obtain ⟨s,hsm⟩:=List.exists_mem_of_ne_nil _ hn
       have h1:=(h s hsm).1
       obtain ⟨k,hk⟩:=YC hsm
       have h2:=(hr.ok k s hk).1
       unfold ZG at h1 h2;exact q1 (by unfold In64;omega)
 ·rw [ZW ht,if_neg (fun h => ht h.1)];rfl
open Classical in
theorem Z9r {f:Form} (hl:Lim f) (hs:Shape f) {i:Int} (hi:In64 i):Z4i f i = some (decide (ZK f i ≠ [])):=by
 unfold Z4i
 by_cases ho:Z2y f i
 ·obtain ⟨g,hg,rfl⟩:=ho
  rw [Z96 hl hs hg,Z0q hs.inc hg];simp only [Y0];cases g.Ticks <;> simp
 ·rw [Z8N hl hs hi ho]
  by_cases h0:f.Count = 0
  ·rw [if_pos h0,Z3L ho h0];rfl
  ·rw [if_neg h0];simp only [Y0,Ne,Z2K ho h0];cases Z03 f i <;> simp
end Go.Dn

namespace Go.Dn
open Go
theorem Z2e {α:Type} {l:List α} {b:Nat} (h:l.length * (b + 1)≤reachBytes):(l.length:Int) < 4611686018427387904:=by
 have:=Z1D
 have:l.length≤l.length * (b + 1):=Y0j _ (by omega)
 omega
theorem ZB4 {α:Type} {l:List α} {k:Nat} {x:α} (h:l[k]? = some x):at? l (k:Int) = some x∧(k:Int) < l.length:=by
 have hlt:=(List.getElem?_eq_some_iff.1 h).1
 rw [Y2 hlt] at h
 exact ⟨by rw [at?_nat hlt];exact h,by omega⟩
theorem shape_core {f:Form} (hl:Lim f):(loopO (Zi.s0 f) 0 = some (.go ())∧∀ l ∈ f.Core,RightL l)∨(loopO (Zi.s0 f) 0 = some (.ret false)∧¬ ∀ l ∈ f.Core,RightL l):=by
 have hlen:=Z2e (b:=23) hl.core
 rcases Z3a (l:=f.Core) (step:=Zi.s0 f) (fun _ x => RightL x) (no:=.ret false) (yes:=.go ()) (fun k x hk _ => by
   obtain ⟨h1,h2⟩:=ZB4 hk
   obtain ⟨b,hb,hr⟩:=Z83 (hl.sets x (Y6 hk)).1 (hl.sets x (Y6 hk)).2
   unfold Zi.s0;rw [ZX h2,cond_true,h1];simp only [Y0,hb,ZC (show -9223372036854775808≤(k:Int) + 1∧(k:Int) + 1≤9223372036854775807 by omega)]
   cases b
   ·exact .inr ⟨rfl,fun h => by have:=hr.2 h;cases this⟩
   ·exact .inl ⟨rfl,hr.1 rfl⟩) (by unfold Zi.s0;rw [ZW (by omega)];rfl) with ⟨h1,h2⟩ | ⟨h1,h2⟩
 ·exact .inl ⟨h1,fun l hm => by obtain ⟨k,hk⟩:=YC hm;exact h2 k l hk⟩
 ·exact .inr ⟨h1,fun h => h2 fun k x hk => h x (Y6 hk)⟩
def goodOdd (f:Form) (k:Nat) (g:Granule):Prop:=RightL g.Ticks∧ZG g.Index∧∀ p,k ≠ 0→f.Odd[k - 1]? = some p→p.Index < g.Index
theorem shape_odd {f:Form} (hl:Lim f):(loopO (Zi.s1 f) 0 = some (.go ())∧∀ k g,f.Odd[k]? = some g→goodOdd f k g)∨(loopO (Zi.s1 f) 0 = some (.ret false)∧¬ ∀ k g,f.Odd[k]? = some g→goodOdd f k g):=by
 have hlen:=Z2e (b:=31) hl.odd
 refine Z3a (l:=f.Odd) (step:=Zi.s1 f) (goodOdd f) (no:=.ret false) (yes:=.go ()) (fun k x hk _ => ?_) (by unfold Zi.s1;rw [ZW (by omega)];rfl)
 obtain ⟨h1,h2⟩:=ZB4 hk
 have hx:=hl.ticks x (Y6 hk)
 obtain ⟨b,hb,hr⟩:=Z83 hx.2.1 hx.2.2
 unfold Zi.s1
 rw [ZX h2,cond_true,h1]
 simp only [Y0,hb,Z7J,ZC (show -9223372036854775808≤(k:Int) + 1∧(k:Int) + 1≤9223372036854775807 by omega)]
 by_cases hbt:b = true∧ZG x.Index
 ·rw [hbt.1,ZX hbt.2];simp only [Yg,Y0h,cond_false]
  by_cases h0:k = 0
  ·subst h0;exact .inl ⟨by simp,hr.1 hbt.1,hbt.2,fun p h => absurd rfl h⟩
  ·have hpl:k - 1 < f.Odd.length:=by omega
   rw [ZX (show (k:Int) > 0 by omega),cond_true,ZC (by omega),show (k:Int) - 1 = ((k - 1:Nat):Int) by omega,at?_nat hpl]
   simp only [Y0]
   by_cases hc:x.Index≤f.Odd[k - 1].Index
   ·rw [ZX hc];refine .inr ⟨rfl,fun h => ?_⟩
    have:=h.2.2 _ h0 (Y2 hpl);omega
   ·rw [ZW hc];refine .inl ⟨rfl,hr.1 hbt.1,hbt.2,fun p _ hp => ?_⟩
    rw [Y2 hpl] at hp;cases hp;omega
 ·have:(!b || !decide (ZG x.Index)) = true:=by
   cases b
   ·rfl
   ·rw [ZW (fun h => hbt ⟨rfl,h⟩)];rfl
  rw [this,cond_true];exact .inr ⟨rfl,fun h => hbt ⟨hr.2 h.1,h.2.1⟩⟩
theorem inc_of {f:Form} (h:∀ k g,f.Odd[k]? = some g→goodOdd f k g):Inc f.Odd:=by
 intro j k a b hjk ha hb
 induction k generalizing b with
 | zero => omega
 | succ k ih =>
  have hkl:=(List.getElem?_eq_some_iff.1 hb).1
  have h1:=(h (k + 1) b hb).2.2 f.Odd[k] (by omega) (by simp [Y2 (show k < f.Odd.length by omega)])
  rcases YI j k with h2 | h2
  ·have:=ih _ h2 (Y2 (show k < f.Odd.length by omega));omega
  ·have:j = k:=by omega
   subst this;rw [Y2 (show j < f.Odd.length by omega)] at ha;cases ha;exact h1
theorem gran_shape_eq {f:Form} (hl:Lim f):∃ b,Zi f = some b∧(b = true ↔ Shape f):=by
 unfold Zi
 by_cases h1:f.Count = f.Core.length∧(f.Count = 0 ↔ f.Period = 0)∧0≤f.Period∧f.Period≤1099511627776
 ·have e:(f.Count != (f.Core.length:Int) || (f.Count == 0) != (f.Period == 0) || decide (f.Period < 0) || decide (f.Period > 1099511627776)) = false:=by
   rw [Z86 h1.1,ZW (show ¬ f.Period < 0 by omega),ZW (show ¬ f.Period > 1099511627776 by omega)]
   simp only [Y0U,Bool.or_false,bne_eq_false_iff_eq,ibeq,decide_eq_decide];exact h1.2.1
  rw [e,cond_false]
  rcases shape_core hl with ⟨h2,h3⟩ | ⟨h2,h3⟩
  ·rw [h2];simp only [Y0,Jx.elim]
   rcases shape_odd hl with ⟨h4,h5⟩ | ⟨h4,h5⟩
   ·rw [h4];exact ⟨true,rfl,fun _ => ⟨h1.1,h1.2.1,h1.2.2,h3,fun g hg => by obtain ⟨k,hk⟩:=YC hg;exact ⟨(h5 k g hk).1,(h5 k g hk).2.1⟩,inc_of h5⟩,fun _ => rfl⟩
   ·rw [h4];refine ⟨false,rfl,fun h => (by cases h),fun h => absurd (fun k g hk => ⟨(h.odd g (Y6 hk)).1,(h.odd g (Y6 hk)).2,fun p h0 hp => h.inc (k - 1) k p g (by omega) hp hk⟩) h5⟩
  ·rw [h2];exact ⟨false,rfl,fun h => (by cases h),fun h => absurd h.core h3⟩
 ·have e:(f.Count != (f.Core.length:Int) || (f.Count == 0) != (f.Period == 0) || decide (f.Period < 0) || decide (f.Period > 1099511627776)) = true:=by
   apply Classical.byContradiction;intro hn;simp only [Y09,Bool.or_eq_false_iff,bne_eq_false_iff_eq,decide_eq_false_iff_not,ibeq,decide_eq_decide] at hn;exact h1 ⟨hn.1.1.1,hn.1.1.2,by omega,by omega⟩
  rw [e,cond_true];exact ⟨false,rfl,fun h => (by cases h),fun h => absurd ⟨h.count,h.zero,h.per⟩ h1⟩
def fstT (l:List Span):Int:=(l.head?.map Span.From).getD 0
def lstT (l:List Span):Int:=(l.getLast?.map Span.To).getD 0
theorem ZCl {a b:List Span} (ha:a ≠ []) (hb:b ≠ []):Z3p a b ↔ lstT a < fstT b:=by
 unfold Z3p lstT fstT
 rw [Y03 ha,Y0A hb]
 simp
theorem RightL.tail {s:Span} {l:List Span} (h:RightL (s :: l)):RightL l :=
 ⟨fun k x hk => h.ok (k + 1) x hk,fun k x y hx hy => h.gap (k + 1) x y hx hy⟩
theorem Z4h {l:List Span} (h:RightL l) (hn:l ≠ []):fstT l≤lstT l:=by
 induction l with
 | nil => exact absurd rfl hn
 | cons s l ih =>
  have h0:=h.ok 0 s rfl
  cases l with
  | nil => simp [fstT,lstT];exact h0.2.2
  | cons t l =>
   have h1:=h.gap 0 s t rfl rfl
   have h2:=ih h.tail (by simp)
   have e1:lstT (s :: t :: l) = lstT (t :: l):=by simp [lstT]
   have e2:fstT (t :: l) = t.From:=rfl
   have e3:fstT (s :: t :: l) = s.From:=rfl
   rw [e1,e3];rw [e2] at h2;omega
theorem ZAG {l:List Span} (h:RightL l) (hn:l ≠ []):ZG (lstT l)∧ZG (fstT l):=by
 have h1:l.getLast? = some (l.getLast hn):=Y03 hn
 have h2:l.head? = some (l.head hn):=Y0A hn
 obtain ⟨j,hj⟩:=YC (List.getLast_mem hn)
 obtain ⟨k,hk⟩:=YC (List.head_mem hn)
 unfold lstT fstT
 rw [h1,h2]
 exact ⟨(h.ok j _ hj).2.1,(h.ok k _ hk).1⟩
def full (f:Form):List (List Span):=f.Core.filter (fun l => decide (l.length > 0))
def Turns (f:Form):Prop:=(∀ (k:Nat) (a b:List Span),(full f)[k]? = some a→(full f)[k + 1]? = some b→lstT a < fstT b)∧∀ a b,(full f).getLast? = some a→(full f).head? = some b→lstT a < fstT b + f.Period
theorem full_loop {f:Form} (hl:Lim f):loopO (Z09.s0 f) (0,[]) = some (full f):=by
 have hlen:=Z2e (b:=23) hl.core
 refine Z1G (I:=fun s r => r = full f∧∃ k:Nat,k≤f.Core.length∧s = ((k:Int),(f.Core.take k).filter (fun l => decide (l.length > 0)))) (fun s => f.Core.length - s.1.toNat) ?_ ⟨rfl,0,YX _,by simp⟩
 rintro s r ⟨rfl,k,hk,rfl⟩
 unfold Z09.s0
 by_cases hlt:k < f.Core.length
 ·have htake:f.Core.take (k + 1) = f.Core.take k ++ [f.Core[k]]:=Y0f hlt
  simp only;rw [ZX (show (k:Int) < f.Core.length by omega),cond_true,at?_nat hlt,ZC (by omega)]
  simp only [Y0];refine .inl ?_;have hfl:((f.Core.take k).filter (fun l => decide (l.length > 0))).length≤k:=Yd (Y0O _ _) (by rw [YS];exact Nat.min_le_left _ _)
  by_cases hc:f.Core[k].length > 0
  ·rw [ZX (show ((f.Core[k].length:Int) > 0) by omega),cond_true,app?_ok (by have h1:=hl.core;rw [Z1D] at h1;rw [Z4m];simp only [Y05];omega)]
   exact ⟨_,rfl,⟨trivial,k + 1,hlt,by rw [htake,List.filter_append];simp [hc]⟩,by simp;omega⟩
  ·rw [ZW (show ¬ ((f.Core[k].length:Int) > 0) by omega),cond_false]
   exact ⟨_,rfl,⟨trivial,k + 1,hlt,by rw [htake,List.filter_append];simp [hc]⟩,by simp;omega⟩
 ·have:k = f.Core.length:=by omega
  subst this;simp only;rw [ZW (show ¬ ((f.Core.length:Int) < f.Core.length) by omega),cond_false,Y0Y]
  exact .inr rfl
theorem gran_turns_eq {f:Form} (hl:Lim f) (hs:Shape f):∃ b,Z09 f = some b∧(b = true ↔ Turns f):=by
 have hlen:=Z2e (b:=23) hl.core
 have hfl:(full f).length≤f.Core.length:=Y0O _ _
 have hmem:∀ x ∈ full f,x ∈ f.Core∧x ≠ []:=fun x hx => by
  have:=List.mem_filter.1 hx
  exact ⟨this.1,by rintro rfl;simp at this⟩
 unfold Z09
 rw [full_loop hl]
 simp only [Y0]
 rcases Z3a (l:=full f) (step:=Z09.s1 f (full f)) (fun k a => ∀ b,(full f)[(k + 1) % (full f).length]? = some b→lstT a < fstT b + (if k + 1 = (full f).length then f.Period else 0)) (no:=.ret false) (yes:=.go ()) (fun k a hk _ => by
   obtain ⟨h1,h2⟩:=ZB4 hk
   have hkl:k < (full f).length:=by omega
   have hmod:(k + 1) % (full f).length < (full f).length:=Nat.mod_lt _ (by omega)
   have hnext:at? (full f) ((((k + 1) % (full f).length:Nat):Int)) = some (full f)[(k + 1) % (full f).length]:=at?_nat hmod
   obtain ⟨ha1,ha2⟩:=hmem a (Y6 hk)
   obtain ⟨hb1,hb2⟩:=hmem _ (YW hmod)
   have hra:=hs.core a ha1
   have hrb:=hs.core _ hb1
   have hal:a.length - 1 < a.length:=by have:=List.length_pos_iff.2 ha2;omega
   have hlast:at? a (w64 ((a.length:Int) - 1)) = some a[a.length - 1]:=by
    have:=Z2e (b:=15) (hl.sets a ha1).1
    rw [ZC (by omega),show (a.length:Int) - 1 = ((a.length - 1:Nat):Int) by omega,at?_nat hal]
   have hlt:lstT a = a[a.length - 1].To:=by unfold lstT;rw [Y0c,Y2 hal];rfl
   unfold Z09.s1;rw [ZX h2,cond_true,h1,nz?_ok (by omega),ZC (x:=(k:Int) + 1) (by omega)]
   have htm:((k:Int) + 1).tmod ((full f).length:Int) = (((k + 1) % (full f).length:Nat):Int):=by
    rw [Yz (by omega)];push_cast;rfl
   simp only [Y0,htm,hnext,hlast];rw [Y2 hmod];generalize (full f)[(k + 1) % (full f).length] = b at *
   have hb0:at? b 0 = some (b.head hb2):=by
    cases b with
    | nil => exact absurd rfl hb2
    | cons y b => rfl
   have hbf:fstT b = (b.head hb2).From:=by unfold fstT;rw [Y0A hb2];rfl
   have htick:=(ZAG hrb hb2).2
   unfold ZG at htick;have hper:=hs.per
   by_cases hl1:k + 1 = (full f).length
   ·have e:((k:Int) + 1 == ((full f).length:Int)) = true:=Z98 (by omega)
    rw [e,cond_true];simp only [Y0,hb0,← hbf,ZC (show -9223372036854775808≤fstT b + f.Period∧fstT b + f.Period≤9223372036854775807 by omega),← hlt,if_pos hl1]
    by_cases hc:lstT a ≥ fstT b + f.Period
    ·rw [ZX hc];exact .inr ⟨rfl,fun h => by have:=h b rfl;omega⟩
    ·rw [ZW hc];exact .inl ⟨rfl,fun b' hb' => by cases hb';omega⟩
   ·have e:((k:Int) + 1 == ((full f).length:Int)) = false:=Z4Q (by omega)
    rw [e,cond_false];simp only [Y0,hb0,← hbf,ZC (show -9223372036854775808≤fstT b + 0∧fstT b + 0≤9223372036854775807 by omega),← hlt,if_neg hl1]
    by_cases hc:lstT a ≥ fstT b + 0
    ·rw [ZX hc];exact .inr ⟨rfl,fun h => by have:=h b rfl;omega⟩
    ·rw [ZW hc];exact .inl ⟨rfl,fun b' hb' => by cases hb';omega⟩) (by unfold Z09.s1;rw [ZW (by omega)];rfl) with ⟨h1,h2⟩ | ⟨h1,h2⟩
 ·rw [h1];refine ⟨true,rfl,fun _ => ⟨fun k a b ha hb => ?_,fun a b ha hb => ?_⟩,fun _ => rfl⟩
  ·have hkl:=(List.getElem?_eq_some_iff.1 hb).1
   have:=h2 k a ha b (by rw [Nat.mod_eq_of_lt hkl];exact hb)
   rw [if_neg (by omega)] at this;omega
  ·have hn:full f ≠ []:=by rintro e;rw [e] at ha;simp at ha
   have hpos:=List.length_pos_iff.2 hn
   rw [Y0c] at ha;have e1:(full f).length - 1 + 1 = (full f).length:=by omega
   have:=h2 _ a ha b (by rw [e1,Nat.mod_self,← List.head?_eq_getElem?];exact hb)
   rw [if_pos e1] at this;exact this
 ·rw [h1];refine ⟨false,rfl,fun h => (by cases h),fun h => absurd (fun k a hk b hb => ?_) h2⟩
  have hkl:=(List.getElem?_eq_some_iff.1 hk).1
  by_cases hl1:k + 1 = (full f).length
  ·rw [if_pos hl1];rw [hl1,Nat.mod_self,← List.head?_eq_getElem?] at hb;exact h.2 a b (by rw [Y0c,← hl1];exact hk) hb
  ·rw [if_neg hl1];rw [Nat.mod_eq_of_lt (by omega)] at hb
   have:=h.1 k a b hk hb;omega
end Go.Dn

namespace Go.Dn
open Go
theorem ZBx {l:List (List Span)} {p:List Span→Bool} (hl:l.length * 24≤reachBytes):ZV l (fun z => some (p z)) = some (decide (∃ x ∈ l,p x = true)):=by
 have hlen:=Z2e (b:=23) hl
 unfold ZV ZF
 by_cases hall:∀ (k:Nat) (x:List Span),l[k]? = some x→¬ p x = true
 ·have:loopO (ZF.s0 l (fun z => some (p z))) 0 = some (.go ()):=by
   refine Z1G (I:=fun (s:Int) r => r = .go ()∧∃ k:Nat,s = k∧k≤l.length) (fun s => l.length - s.toNat) ?_ ⟨rfl,0,rfl,YX _⟩
   rintro s r ⟨rfl,k,rfl,hk⟩;unfold ZF.s0
   by_cases hlt:k < l.length
   ·rw [ZX (show (k:Int) < l.length by omega),cond_true,at?_nat hlt,ZC (by omega)]
    have:=hall k _ (Y2 hlt)
    simp only [Y0,Y09] at this ⊢;rw [this];exact .inl ⟨_,rfl,⟨trivial,k + 1,by push_cast;rfl,hlt⟩,by simp;omega⟩
   ·rw [ZW (show ¬ (k:Int) < l.length by omega)];exact .inr rfl
  rw [this,ZW (by rintro ⟨x,hx,hp⟩;obtain ⟨k,hk⟩:=YC hx;exact hall k x hk hp)]
  rfl
 ·obtain ⟨k0,x0,hx0,hb0,hg⟩:=ZAg (good:=fun _ x => ¬ p x = true) hall
  have hb0:p x0 = true:=Classical.byContradiction hb0
  have hlt0:=(List.getElem?_eq_some_iff.1 hx0).1
  have:loopO (ZF.s0 l (fun z => some (p z))) 0 = some (.ret (k0:Int)):=by
   refine Z1G (I:=fun (s:Int) r => r = .ret (k0:Int)∧∃ k:Nat,s = k∧k≤k0) (fun s => l.length - s.toNat) ?_ ⟨rfl,0,rfl,YX _⟩
   rintro s r ⟨rfl,k,rfl,hk⟩;unfold ZF.s0;have hkl:k < l.length:=by omega
   rw [ZX (show (k:Int) < l.length by omega),cond_true,at?_nat hkl,ZC (by omega)]
   by_cases hlt:k < k0
   ·have:=hg k _ hlt (Y2 hkl)
    simp only [Y0,Y09] at this ⊢;rw [this];exact .inl ⟨_,rfl,⟨trivial,k + 1,by push_cast;rfl,hlt⟩,by simp;omega⟩
   ·have:k = k0:=by omega
    subst this;rw [Y2 hkl] at hx0;cases hx0;simp only [Y0,hb0];exact .inr rfl
  rw [this,ZX ⟨x0,Y6 hx0,hb0⟩];simp only [Y0,Jx.elim];rw [ZX (by omega)]
def Bare (f:Form):Prop:=∀ l ∈ f.Core,l = []
theorem Z7C {f:Form} (hl:Lim f):∃ b,Z3V f = some b∧(b = true ↔ Bare f):=by
 unfold Z3V
 rw [ZBx hl.core]
 refine ⟨_,rfl,?_⟩
 simp only [Z55,YV,decide_eq_false_iff_not,decide_eq_true_eq]
 constructor
 ·intro h l hm;apply Classical.byContradiction;intro hn;exact h ⟨l,hm,by have:=List.length_pos_iff.2 hn;omega⟩
 ·rintro h ⟨l,hm,hp⟩;rw [h l hm] at hp;simp at hp
theorem Z7G {f:Form} (hs:Shape f) (hb:Bare f) {i:Int} (ho:¬ Z2y f i):ZK f i = []:=by
 by_cases h0:f.Count = 0
 ·exact Z3L ho h0
 ·exact (Z2K ho h0).2 (hb _ (Z0E hs h0 i).2)
def UpTo (f:Form) (i:Int) (r:Int × Bool):Prop:=(r.2 = true∧i≤r.1∧ZG r.1∧ZK f r.1 ≠ []∧∀ k,i≤k→k < r.1→ZK f k = [])∨(r.2 = false∧r.1 = 0∧∀ k,i≤k→ZG k→ZK f k = [])
def DownTo (f:Form) (i:Int) (r:Int × Bool):Prop:=(r.2 = true∧r.1≤i∧ZG r.1∧ZK f r.1 ≠ []∧∀ k,k≤i→r.1 < k→ZK f k = [])∨(r.2 = false∧r.1 = 0∧∀ k,k≤i→ZG k→ZK f k = [])
theorem odd_split {f:Form} (hs:Shape f) {p:Nat} {i:Int} (hp:∀ (k:Nat) (g:Granule),f.Odd[k]? = some g→(k < p ↔ g.Index < i)) {j:Int} (hj:Z2y f j):∃ (k:Nat) (g:Granule),f.Odd[k]? = some g∧g.Index = j∧(k < p ↔ j < i):=by
 obtain ⟨g,hg,rfl⟩:=hj
 obtain ⟨k,hk⟩:=YC hg
 exact ⟨k,g,hk,rfl,hp k g hk⟩
theorem gran_step_up {f:Form} (hl:Lim f) (hs:Shape f) {i:Int} (hi : -1099511627776≤i∧i≤1099511627776):∃ r,Zq f i 1 = some r∧UpTo f i r:=by
 have hi64:In64 i:=by unfold In64;omega
 obtain ⟨b,hb,hbb⟩:=Z7C hl
 have holen:=Z2e (b:=31) hl.odd
 unfold Zq
 rw [hb]
 simp only [Y0]
 cases b with
 | true =>
  have hbare:=hbb.1 rfl
  rw [cond_true];obtain ⟨p,h1,h2,h3⟩:=Z6J hl hs.inc i
  rw [h3];simp only [Y0,ZW (show ¬ (1:Int) < 0 by omega),Y0m,cond_false]
  obtain ⟨r,hr,hpost⟩:=Z14 (step:=Zq.s0 f 1) (I:=fun (s:Int) => ∃ k:Nat,s = k∧p≤k∧k≤f.Odd.length∧∀ (j:Nat) (g:Granule),f.Odd[j]? = some g→p≤j→j < k→g.Ticks = []) (fun s => f.Odd.length - s.toNat)
   (fun r => (∃ (k:Nat) (g:Granule),r = .ret (g.Index,true)∧f.Odd[k]? = some g∧p≤k∧g.Ticks ≠ []∧∀ (j:Nat) (g':Granule),f.Odd[j]? = some g'→p≤j→j < k→g'.Ticks = [])∨(r = .go ()∧∀ (j:Nat) (g':Granule),f.Odd[j]? = some g'→p≤j→g'.Ticks = [])) (by
   rintro s ⟨k,rfl,hpk,hk,hn⟩;unfold Zq.s0
   by_cases hlt:k < f.Odd.length
   ·rw [ZX (show (k:Int) ≥ 0 by omega),ZX (show (k:Int) < f.Odd.length by omega),Y0P,cond_true,at?_nat hlt,ZC (by omega)]
    simp only [Y0];have hget:=Y2 hlt
    by_cases hc:f.Odd[k].Ticks = []
    ·rw [hc];refine .inl ⟨(k:Int) + 1,rfl,⟨k + 1,by push_cast;rfl,by omega,hlt,fun j g hj hpj hjk => ?_⟩,by simp;omega⟩
     rcases YI j k with h | h
     ·exact hn j g hj hpj h
     ·have:j = k:=by omega
      subst this;rw [hget] at hj;cases hj;exact hc
    ·rw [ZX (show ((f.Odd[k].Ticks.length:Int) > 0) by have:=List.length_pos_iff.2 hc;omega),cond_true]
     exact .inr ⟨_,rfl,.inl ⟨k,_,rfl,hget,hpk,hc,hn⟩⟩
   ·rw [ZW (show ¬ (k:Int) < f.Odd.length by omega),Bool.and_false,cond_false]
    refine .inr ⟨_,rfl,.inr ⟨rfl,fun j g hj hpj => hn j g hj hpj ?_⟩⟩
    have:=(List.getElem?_eq_some_iff.1 hj).1;omega) (p:Int) ⟨p,rfl,YB _,h1,fun j g _ h h' => by omega⟩
  rw [hr];simp only [Y0]
  rcases hpost with ⟨k,g,rfl,hk,hpk,hne,hn⟩ | ⟨rfl,hn⟩
  ·have hset:=Z0q hs.inc (Y6 hk)
   have hgi:¬ g.Index < i:=fun h => by have:=(h2 k g hk).2 h;omega
   refine ⟨_,rfl,.inl ⟨rfl,by simp only;omega,(hs.odd g (Y6 hk)).2,by simp only;rw [hset];exact hne,fun j hij hjg => ?_⟩⟩
   simp only at hjg
   by_cases ho:Z2y f j
   ·obtain ⟨k',g',hk',rfl,hiff⟩:=odd_split hs h2 ho
    rw [Z0q hs.inc (Y6 hk')];refine hn k' g' hk' ?_ ?_
    ·rcases YI k' p with h | h
     ·have:=hiff.1 h;omega
     ·exact h
    ·rcases YI k' k with h | h
     ·exact h
     ·rcases YI k k' with h' | h'
      ·have:=hs.inc k k' g g' h' hk hk';omega
      ·have:k = k':=by omega
       subst this;rw [hk] at hk';cases hk';omega
   ·exact Z7G hs hbare ho
  ·refine ⟨_,rfl,.inr ⟨rfl,rfl,fun j hij _ => ?_⟩⟩
   by_cases ho:Z2y f j
   ·obtain ⟨k',g',hk',rfl,hiff⟩:=odd_split hs h2 ho
    rw [Z0q hs.inc (Y6 hk')];refine hn k' g' hk' ?_
    rcases YI k' p with h | h
    ·have:=hiff.1 h;omega
    ·exact h
   ·exact Z7G hs hbare ho
 | false =>
  rw [cond_false];obtain ⟨r,hr,hpost⟩:=Z14 (step:=Zq.s1 f 1) (I:=fun (s:Int) => i≤s∧s≤1099511627777∧∀ k,i≤k→k < s→ZK f k = []) (fun s => (1099511627777 - s).toNat)
   (fun r => (∃ j,r = .ret (j,true)∧i≤j∧ZG j∧ZK f j ≠ []∧∀ k,i≤k→k < j→ZK f k = [])∨(r = .go ()∧∀ k,i≤k→ZG k→ZK f k = [])) (by
   rintro s ⟨hs1,hs2,hn⟩;unfold Zq.s1;rw [Z7J]
   by_cases ht:ZG s
   ·rw [ZX ht,cond_true,Z9r hl hs (Z1s ht),ZC (by unfold ZG at ht;omega)]
    simp only [Y0]
    by_cases hc:ZK f s = []
    ·rw [hc];refine .inl ⟨s + 1,by simp,⟨by omega,by unfold ZG at ht;omega,fun k hk hks => ?_⟩,by unfold ZG at ht;omega⟩
     by_cases h:k = s
     ·rw [h];exact hc
     ·exact hn k hk (by omega)
    ·rw [ZX hc,cond_true];exact .inr ⟨_,rfl,.inl ⟨s,rfl,hs1,ht,hc,hn⟩⟩
   ·rw [ZW ht,cond_false];exact .inr ⟨_,rfl,.inr ⟨rfl,fun k hk htk => hn k hk (by unfold ZG at ht htk;omega)⟩⟩) i ⟨Y0K _,by omega,fun k h h' => by omega⟩
  rw [hr];simp only [Y0]
  rcases hpost with ⟨j,rfl,h1,h2,h3,h4⟩ | ⟨rfl,hn⟩
  ·exact ⟨_,rfl,.inl ⟨rfl,h1,h2,h3,h4⟩⟩
  ·exact ⟨_,rfl,.inr ⟨rfl,rfl,hn⟩⟩
theorem ZCz {f:Form} (hl:Lim f) (hs:Shape f) {i:Int} (hi : -1099511627776≤i∧i≤1099511627776):∃ r,Zq f i (-1) = some r∧DownTo f i r:=by
 have hi64:In64 i:=by unfold In64;omega
 obtain ⟨b,hb,hbb⟩:=Z7C hl
 have holen:=Z2e (b:=31) hl.odd
 unfold Zq
 rw [hb]
 simp only [Y0]
 cases b with
 | true =>
  have hbare:=hbb.1 rfl
  rw [cond_true];obtain ⟨p,h1,h2,h3⟩:=Z6J hl hs.inc i
  rw [h3]
  -- the number of exceptions up to the index
  obtain ⟨q,hq1,hq2,hq3⟩ : ∃ q:Nat,q≤f.Odd.length∧(∀ (k:Nat) (g:Granule),f.Odd[k]? = some g→(k < q ↔ g.Index≤i))∧((bif (decide ((-1:Int) < 0) && !decide (∃ g,f.Odd[p]? = some g∧g.Index = i)) then some (w64 ((p:Int) - 1)) else some (p:Int)):Option Int) = some ((q:Int) - 1):=by
   by_cases he:∃ g,f.Odd[p]? = some g∧g.Index = i
   ·obtain ⟨g,hg,hgi⟩:=he
    have hpl:=(List.getElem?_eq_some_iff.1 hg).1
    refine ⟨p + 1,by omega,fun k g' hk => ?_,by rw [ZX (p:=∃ g,f.Odd[p]? = some g∧g.Index = i) ⟨g,hg,hgi⟩];simp⟩
    have:=h2 k g' hk
    constructor
    ·intro h
     rcases YI k p with h' | h'
     ·have:=this.1 h';omega
     ·have:k = p:=by omega
      subst this;rw [hg] at hk;cases hk;omega
    ·intro h
     rcases YI p k with h' | h'
     ·have:=hs.inc p k g g' h' hg hk;omega
     ·omega
   ·refine ⟨p,h1,fun k g' hk => ?_,by rw [ZW (p:=∃ g,f.Odd[p]? = some g∧g.Index = i) he,ZC (by omega)];simp⟩
    have:=h2 k g' hk
    constructor
    ·intro h;have:=this.1 h;omega
    ·intro h
     by_cases hgi:g'.Index = i
     ·exfalso
      have hkp:¬ k < p:=fun h' => by have:=this.1 h';omega
      rcases YI p k with h' | h'
      ·have hpl:p < f.Odd.length:=by have:=(List.getElem?_eq_some_iff.1 hk).1;omega
       have h5:=hs.inc p k _ g' h' (Y2 hpl) hk
       have h6:=(h2 p _ (Y2 hpl)).2 (by omega)
       omega
      ·have:k = p:=by omega
       subst this;exact he ⟨g',hk,hgi⟩
     ·exact this.2 (by omega)
  simp only [Y0];rw [hq3];simp only [Y0];obtain ⟨r,hr,hpost⟩:=Z14 (step:=Zq.s0 f (-1)) (I:=fun (s:Int) => ∃ k:Nat,s = (k:Int) - 1∧k≤q∧∀ (j:Nat) (g:Granule),f.Odd[j]? = some g→k≤j→j < q→g.Ticks = []) (fun s => (s + 1).toNat)
   (fun r => (∃ (k:Nat) (g:Granule),r = .ret (g.Index,true)∧f.Odd[k]? = some g∧k < q∧g.Ticks ≠ []∧∀ (j:Nat) (g':Granule),f.Odd[j]? = some g'→k < j→j < q→g'.Ticks = [])∨(r = .go ()∧∀ (j:Nat) (g':Granule),f.Odd[j]? = some g'→j < q→g'.Ticks = [])) (by
   rintro s ⟨k,rfl,hk,hn⟩;unfold Zq.s0
   by_cases h0:0 < k
   ·have hlt:k - 1 < f.Odd.length:=by omega
    rw [ZX (show (k:Int) - 1 ≥ 0 by omega),ZX (show (k:Int) - 1 < f.Odd.length by omega),Y0P,cond_true,show (k:Int) - 1 = ((k - 1:Nat):Int) by omega,at?_nat hlt,ZC (by omega)]
    simp only [Y0];have hget:=Y2 hlt
    by_cases hc:f.Odd[k - 1].Ticks = []
    ·rw [hc];refine .inl ⟨((k - 1:Nat):Int) + -1,rfl,⟨k - 1,by omega,by omega,fun j g hj hpj hjk => ?_⟩,by simp;omega⟩
     rcases YI j k with h | h
     ·have:j = k - 1:=by omega
      subst this;rw [hget] at hj;cases hj;exact hc
     ·exact hn j g hj h hjk
    ·rw [ZX (show ((f.Odd[k - 1].Ticks.length:Int) > 0) by have:=List.length_pos_iff.2 hc;omega),cond_true]
     exact .inr ⟨_,rfl,.inl ⟨k - 1,_,rfl,hget,by omega,hc,fun j g hj h1 h2 => hn j g hj (by omega) h2⟩⟩
   ·rw [ZW (show ¬ (k:Int) - 1 ≥ 0 by omega),Y0m,cond_false]
    exact .inr ⟨_,rfl,.inr ⟨rfl,fun j g hj hjq => hn j g hj (by omega) hjq⟩⟩) ((q:Int) - 1) ⟨q,rfl,YB _,fun j g _ h h' => by omega⟩
  rw [hr];simp only [Y0]
  rcases hpost with ⟨k,g,rfl,hk,hkq,hne,hn⟩ | ⟨rfl,hn⟩
  ·have hset:=Z0q hs.inc (Y6 hk)
   have hgi:=(hq2 k g hk).1 hkq
   refine ⟨_,rfl,.inl ⟨rfl,hgi,(hs.odd g (Y6 hk)).2,by simp only;rw [hset];exact hne,fun j hij hjg => ?_⟩⟩
   simp only at hjg
   by_cases ho:Z2y f j
   ·obtain ⟨g',hg',rfl⟩:=ho
    obtain ⟨k',hk'⟩:=YC hg'
    rw [Z0q hs.inc hg'];refine hn k' g' hk' ?_ ((hq2 k' g' hk').2 hij)
    rcases YI k k' with h | h
    ·exact h
    ·rcases YI k' k with h' | h'
     ·have:=hs.inc k' k g' g h' hk' hk;omega
     ·have:k = k':=by omega
      subst this;rw [hk] at hk';cases hk';omega
   ·exact Z7G hs hbare ho
  ·refine ⟨_,rfl,.inr ⟨rfl,rfl,fun j hij _ => ?_⟩⟩
   by_cases ho:Z2y f j
   ·obtain ⟨g',hg',rfl⟩:=ho
    obtain ⟨k',hk'⟩:=YC hg'
    rw [Z0q hs.inc hg'];exact hn k' g' hk' ((hq2 k' g' hk').2 hij)
   ·exact Z7G hs hbare ho
 | false =>
  rw [cond_false];obtain ⟨r,hr,hpost⟩:=Z14 (step:=Zq.s1 f (-1)) (I:=fun (s:Int) => s≤i∧-1099511627777≤s∧∀ k,k≤i→s < k→ZK f k = []) (fun s => (s + 1099511627777).toNat)
   (fun r => (∃ j,r = .ret (j,true)∧j≤i∧ZG j∧ZK f j ≠ []∧∀ k,k≤i→j < k→ZK f k = [])∨(r = .go ()∧∀ k,k≤i→ZG k→ZK f k = [])) (by
   rintro s ⟨hs1,hs2,hn⟩;unfold Zq.s1;rw [Z7J]
   by_cases ht:ZG s
   ·rw [ZX ht,cond_true,Z9r hl hs (Z1s ht),ZC (by unfold ZG at ht;omega)]
    simp only [Y0]
    by_cases hc:ZK f s = []
    ·rw [hc];refine .inl ⟨s + -1,by simp,⟨by omega,by unfold ZG at ht;omega,fun k hk hks => ?_⟩,by unfold ZG at ht;omega⟩
     by_cases h:k = s
     ·rw [h];exact hc
     ·exact hn k hk (by omega)
    ·rw [ZX hc,cond_true];exact .inr ⟨_,rfl,.inl ⟨s,rfl,hs1,ht,hc,hn⟩⟩
   ·rw [ZW ht,cond_false];exact .inr ⟨_,rfl,.inr ⟨rfl,fun k hk htk => hn k hk (by unfold ZG at ht htk;omega)⟩⟩) i ⟨Y0K _,by omega,fun k h h' => by omega⟩
  rw [hr];simp only [Y0]
  rcases hpost with ⟨j,rfl,h1,h2,h3,h4⟩ | ⟨rfl,hn⟩
  ·exact ⟨_,rfl,.inl ⟨rfl,h1,h2,h3,h4⟩⟩
  ·exact ⟨_,rfl,.inr ⟨rfl,rfl,hn⟩⟩
def Above (f:Form) (i:Int) (r:Int × Bool):Prop:=(r.2 = true∧i < r.1∧ZG r.1∧ZK f r.1 ≠ []∧∀ k,i < k→k < r.1→ZG k→ZK f k = [])∨(r.2 = false∧r.1 = 0∧∀ k,i < k→ZG k→ZK f k = [])
def Under (f:Form) (i:Int) (r:Int × Bool):Prop:=(r.2 = true∧r.1 < i∧ZG r.1∧ZK f r.1 ≠ []∧∀ k,k < i→r.1 < k→ZG k→ZK f k = [])∨(r.2 = false∧r.1 = 0∧∀ k,k < i→ZG k→ZK f k = [])
theorem Z43 {f:Form} (hl:Lim f) (hs:Shape f) {i:Int} (hi:In64 i):∃ r,Z0o f i = some r∧Above f i r:=by
 unfold Z0o
 by_cases h:i ≥ 1099511627776
 ·rw [ZX h,cond_true];exact ⟨_,rfl,.inr ⟨rfl,rfl,fun k hk ht => by unfold ZG at ht;omega⟩⟩
 ·rw [ZW h,cond_false,ZC (by unfold In64 at hi;omega)]
  have hm:iMax (i + 1) (-1099511627776) = max (i + 1) (-1099511627776):=by unfold iMax;omega
  rw [hm];obtain ⟨r,h1,h2⟩:=gran_step_up hl hs (i:=max (i + 1) (-1099511627776)) (by omega)
  rw [h1];refine ⟨r,rfl,?_⟩
  rcases h2 with ⟨a,b,c,d,e⟩ | ⟨a,b,e⟩
  ·exact .inl ⟨a,by omega,c,d,fun k hk hkr ht => e k (by unfold ZG at ht;omega) hkr⟩
  ·exact .inr ⟨a,b,fun k hk ht => e k (by have:=ht;unfold ZG at this;omega) ht⟩
theorem Z5c {f:Form} (hl:Lim f) (hs:Shape f) {i:Int} (hi:In64 i):∃ r,Z1b f i = some r∧Under f i r:=by
 unfold Z1b
 by_cases h:i≤-1099511627776
 ·rw [ZX h,cond_true];exact ⟨_,rfl,.inr ⟨rfl,rfl,fun k hk ht => by unfold ZG at ht;omega⟩⟩
 ·rw [ZW h,cond_false,ZC (by unfold In64 at hi;omega)]
  have hm:iMin (i - 1) 1099511627776 = min (i - 1) 1099511627776:=by unfold iMin;omega
  rw [hm];obtain ⟨r,h1,h2⟩:=ZCz hl hs (i:=min (i - 1) 1099511627776) (by omega)
  rw [h1];refine ⟨r,rfl,?_⟩
  rcases h2 with ⟨a,b,c,d,e⟩ | ⟨a,b,e⟩
  ·exact .inl ⟨a,by omega,c,d,fun k hk hkr ht => e k (by unfold ZG at ht;omega) hkr⟩
  ·exact .inr ⟨a,b,fun k hk ht => e k (by have:=ht;unfold ZG at this;omega) ht⟩
end Go.Dn

namespace Go.Dn
open Go
def BesideR (f:Form) (i:Int) (lo hi:Int × Bool):Prop :=
 fits f i∧(lo.2 = true→fits f lo.1∧Z3p (ZK f lo.1) (ZK f i))∧(hi.2 = true→fits f hi.1∧Z3p (ZK f i) (ZK f hi.1))∧(lo.2 = true→hi.2 = true→Z3p (ZK f lo.1) (ZK f hi.1))
theorem aheadL_nil_l (b:List Span):Z3p [] b:=by intro x hx;cases hx
theorem aheadL_nil_r (a:List Span):Z3p a []:=by intro x _ y hy;cases hy
theorem Z6m {f:Form} (hl:Lim f) (hs:Shape f) (i:Int):Len (ZK f i):=by
 by_cases ho:Z2y f i
 ·obtain ⟨g,hg,rfl⟩:=ho
  rw [Z0q hs.inc hg];exact (hl.ticks g hg).2.1
 ·by_cases h0:f.Count = 0
  ·rw [Z3L ho h0];unfold Len;simp
  ·rw [Z37 ho h0];unfold Len;rw [YY];exact (hl.sets _ (Z0E hs h0 i).2).1
theorem Z7y {f:Form} (hs:Shape f) {i:Int} (hf:fits f i):RightL (ZK f i):=by
 by_cases ho:Z2y f i
 ·obtain ⟨g,hg,rfl⟩:=ho
  rw [Z0q hs.inc hg];exact (hs.odd g hg).1
 ·by_cases h0:f.Count = 0
  ·rw [Z3L ho h0];exact ⟨by simp,by simp⟩
  ·unfold fits at hf;rw [Z37 ho h0] at hf ⊢;exact (hs.core _ (Z0E hs h0 i).2).shift fun s hs' => hf (ZU (Z4L f i) s) (List.mem_map.2 ⟨s,hs',rfl⟩)
theorem near_l {c:Bool} {X S:List Span}:Z3p (if c = true then X else []) S ↔ (c = true→Z3p X S):=by
 cases c
 ·simp [aheadL_nil_l]
 ·simp
theorem near_r {c:Bool} {X S:List Span}:Z3p S (if c = true then X else []) ↔ (c = true→Z3p S X):=by
 cases c
 ·simp [aheadL_nil_r]
 ·simp
noncomputable def sideG (f:Form) (r:Int × Bool):Option (Jx (List Span) Bool) :=
 (bif r.2 then (Z01 f r.1).bind fun x => (bif (x.2 != 0) then some (.ret false) else some (.go x.1)) else some (.go []))
open Classical in
theorem sideG_eq {f:Form} (hl:Lim f) (hs:Shape f) {r:Int × Bool} (ht:r.2 = true→ZG r.1):(r.2 = true∧¬ fits f r.1∧sideG f r = some (.ret false))∨((r.2 = true→fits f r.1)∧sideG f r = some (.go (if r.2 = true then ZK f r.1 else []))):=by
 obtain ⟨j,c⟩:=r
 unfold sideG
 cases c with
 | false => exact .inr ⟨by simp,by simp⟩
 | true =>
  simp only [cond_true];rw [Z54 hl hs (Z1s (ht rfl))]
  by_cases hfl:fits f j
  ·rw [if_pos ⟨ht rfl,hfl⟩];exact .inr ⟨fun _ => hfl,by simp⟩
  ·rw [if_neg (fun h => hfl h.2)];exact .inl ⟨trivial,hfl,rfl⟩
open Classical in
theorem ZCC {f:Form} (hl:Lim f) (hs:Shape f) {i:Int} (hi:ZG i) {lo hi':Int × Bool} (hlo:Z1b f i = some lo) (hhi:Z0o f i = some hi') (tlo:lo.2 = true→ZG lo.1) (thi:hi'.2 = true→ZG hi'.1) :
  ∃ b,Z1y f i = some b∧(b = true ↔ BesideR f i lo hi'):=by
 have e:Z1y f i = (Z01 f i).bind fun x1 => (bif (x1.2 != 0) then some false else (sideG f lo).bind fun y1 => y1.elim (fun r' => some r') fun a2 => (sideG f hi').bind fun y2 => y2.elim (fun r' => some r') fun a4 =>
   (Z0a a2 x1.1).bind fun x6 => ((bif x6 then (Z0a x1.1 a4).bind fun x7 => some x7 else some false)).bind fun y3 => ((bif y3 then (Z0a a2 a4).bind fun x8 => some x8 else some false)).bind fun y4 => some y4):=by
  unfold Z1y sideG;rw [hlo,hhi];simp only [Y0]
 rw [e,Z54 hl hs (Z1s hi)]
 clear e
 by_cases hf:fits f i
 ·rw [if_pos ⟨hi,hf⟩];simp only [Y0,bne_self_eq_false,cond_false]
  rcases sideG_eq hl hs tlo with ⟨h1,h2,h0⟩ | ⟨h1,h0⟩
  ·rw [h0];exact ⟨false,rfl,fun h => (by cases h),fun h => absurd (h.2.1 h1).1 h2⟩
  ·rw [h0];simp only [Y0,Jx.elim]
   rcases sideG_eq hl hs thi with ⟨h3,h4,h0'⟩ | ⟨h3,h0'⟩
   ·rw [h0'];exact ⟨false,rfl,fun h => (by cases h),fun h => absurd (h.2.2.1 h3).1 h4⟩
   ·rw [h0'];simp only [Y0];have lenA:Len (if lo.2 = true then ZK f lo.1 else []):=by
     by_cases hc:lo.2 = true
     ·rw [if_pos hc];exact Z6m hl hs _
     ·rw [if_neg hc];unfold Len;simp
    generalize hA:(if lo.2 = true then ZK f lo.1 else []) = A at lenA
    generalize hB:(if hi'.2 = true then ZK f hi'.1 else []) = B
    obtain ⟨r1,q1,p1⟩:=Z5z (b:=ZK f i) lenA
    obtain ⟨r2,q2,p2⟩:=Z5z (a:=ZK f i) (b:=B) (Z6m hl hs i)
    obtain ⟨r3,q3,p3⟩:=Z5z (b:=B) lenA
    rw [q1,q2,q3];subst hA hB;rw [near_l] at p1;rw [near_r] at p2;rw [near_l,near_r] at p3;refine ⟨r1 && r2 && r3,by cases r1 <;> cases r2 <;> rfl,?_⟩
    rw [Y9,Y9,p1,p2,p3]
    constructor
    ·rintro ⟨⟨a,b⟩,c⟩;exact ⟨hf,fun h => ⟨h1 h,a h⟩,fun h => ⟨h3 h,b h⟩,c⟩
    ·rintro ⟨_,a,b,c⟩;exact ⟨⟨fun h => (a h).2,fun h => (b h).2⟩,c⟩
 ·rw [if_neg (fun h => hf h.2)]
  exact ⟨false,rfl,fun h => (by cases h),fun h => absurd h.1 hf⟩
def Beside (f:Form) (i:Int):Prop:=∀ lo hi,Under f i lo→Above f i hi→BesideR f i lo hi
theorem Under.uniq {f:Form} {i:Int} {r r':Int × Bool} (h:Under f i r) (h':Under f i r'):r = r':=by
 obtain ⟨a,b⟩:=r
 obtain ⟨a',b'⟩:=r'
 rcases h with ⟨rfl,h1,h2,h3,h4⟩ | ⟨rfl,rfl,h4⟩ <;> rcases h' with ⟨rfl,k1,k2,k3,k4⟩ | ⟨rfl,rfl,k4⟩
 ·simp only at *
  rcases Int.lt_trichotomy a a' with h | h | h
  ·exact absurd (h4 a' k1 h k2) k3
  ·rw [h]
  ·exact absurd (k4 a h1 h h2) h3
 ·exact absurd (k4 a h1 h2) h3
 ·exact absurd (h4 a' k1 k2) k3
 ·rfl
theorem Above.uniq {f:Form} {i:Int} {r r':Int × Bool} (h:Above f i r) (h':Above f i r'):r = r':=by
 obtain ⟨a,b⟩:=r
 obtain ⟨a',b'⟩:=r'
 rcases h with ⟨rfl,h1,h2,h3,h4⟩ | ⟨rfl,rfl,h4⟩ <;> rcases h' with ⟨rfl,k1,k2,k3,k4⟩ | ⟨rfl,rfl,k4⟩
 ·simp only at *
  rcases Int.lt_trichotomy a a' with h | h | h
  ·exact absurd (k4 a h1 h h2) h3
  ·rw [h]
  ·exact absurd (h4 a' k1 h k2) k3
 ·exact absurd (k4 a h1 h2) h3
 ·exact absurd (h4 a' k1 k2) k3
 ·rfl
theorem ZBw {f:Form} (hl:Lim f) (hs:Shape f) {i:Int} (hi:ZG i):∃ b,Z1y f i = some b∧(b = true ↔ Beside f i):=by
 obtain ⟨lo,h1,h2⟩:=Z5c hl hs (Z1s hi)
 obtain ⟨hi',h3,h4⟩:=Z43 hl hs (Z1s hi)
 obtain ⟨b,h5,h6⟩:=ZCC hl hs hi h1 h3 (fun h => by rcases h2 with ⟨_,_,h,_⟩ | ⟨h',_⟩ <;> simp_all) (fun h => by rcases h4 with ⟨_,_,h,_⟩ | ⟨h',_⟩ <;> simp_all)
 refine ⟨b,h5,h6.trans ⟨fun h lo' hi'' q1 q2 => ?_,fun h => h lo hi' h2 h4⟩⟩
 rw [q1.uniq h2,q2.uniq h4];exact h
def Z5u (f:Form):Nat:=(f.Core.map List.length).sum + (f.Odd.map (·.Ticks.length)).sum
theorem sum_take {α:Type} (g:α→Nat) {l:List α} {k:Nat} (h:k < l.length):((l.take (k + 1)).map g).sum = ((l.take k).map g).sum + g l[k]:=by
 rw [Y0f h,Y00,List.sum_append];simp
theorem ZAC {f:Form} (hl:Lim f) (hc:f.Core.length≤6000) (ho:f.Odd.length≤6000):Z04 f = some (Z5u f:Int):=by
 have hr:=Z1D
 have lenC:∀ l ∈ f.Core,l.length≤8796093022207:=fun l hm => by have:=(hl.sets l hm).1;unfold Len at this;omega
 have lenO:∀ g ∈ f.Odd,g.Ticks.length≤8796093022207:=fun l hm => by have:=(hl.ticks l hm).2.1;unfold Len at this;omega
 obtain ⟨a,h1,h2,h3⟩:=fold_loop (l:=f.Core) (step:=Z04.s0 f) (f:=fun a _ x => a + (x.length:Int)) (fin:=id) (a0:=(0:Int)) (fun k a => a = ((((f.Core.take k).map List.length).sum:Nat):Int)∧a≤k * 8796093022207) ⟨by simp,by simp⟩ (fun k x a hk ⟨ha,hb⟩ => by
   obtain ⟨q1,q2⟩:=ZB4 hk
   have hx:=lenC x (Y6 hk)
   have hkl:k < f.Core.length:=by omega
   have h0:0≤a:=by rw [ha];omega
   unfold Z04.s0;simp only;rw [ZX q2,cond_true,q1,ZC (x:=(k:Int) + 1) (by omega)]
   simp only [Y0];rw [ZC (x:=a + (x.length:Int)) (by omega)]
   refine ⟨rfl,?_,by push_cast;omega⟩
   rw [sum_take _ hkl];rw [Y2 hkl] at hk;cases hk;rw [ha];push_cast;rfl) (fun a _ => by unfold Z04.s0;simp only;rw [ZW (by omega)];rfl)
 rw [Y0Y] at h2
 obtain ⟨b,h4,h5,h6⟩:=fold_loop (l:=f.Odd) (step:=Z04.s1 f) (f:=fun a _ x => a + (x.Ticks.length:Int)) (fin:=id) (a0:=a) (fun k b => b = a + ((((f.Odd.take k).map (·.Ticks.length)).sum:Nat):Int)∧b≤a + k * 8796093022207) ⟨by simp,by simp⟩ (fun k x b hk ⟨ha,hb⟩ => by
   obtain ⟨q1,q2⟩:=ZB4 hk
   have hx:=lenO x (Y6 hk)
   have hkl:k < f.Odd.length:=by omega
   have h0:0≤b:=by rw [ha,h2];omega
   unfold Z04.s1;simp only;rw [ZX q2,cond_true,q1,ZC (x:=(k:Int) + 1) (by omega)]
   simp only [Y0];rw [ZC (x:=b + (x.Ticks.length:Int)) (by omega)]
   refine ⟨rfl,?_,by push_cast;omega⟩
   rw [sum_take _ hkl];rw [Y2 hkl] at hk;cases hk;rw [ha];push_cast;omega) (fun a _ => by unfold Z04.s1;simp only;rw [ZW (by omega)];rfl)
 rw [Y0Y] at h5
 unfold Z04
 rw [h1]
 simp only [Y0,id]
 rw [h4]
 simp only [Y0,id,h5,h2,Z5u]
 push_cast;rfl
structure RightF (f:Form):Prop where
 shape:Shape f
 turns:Turns f
 beside:∀ g ∈ f.Odd,Beside f g.Index
def Z4z (f:Form):Prop:=6000 < f.Core.length∨6000 < f.Odd.length∨60000 < Z5u f
theorem Z6Q {f:Form} (hl:Lim f):(Z4z f∧Z00 f = some 3)∨(¬ Z4z f∧RightF f∧Z00 f = some 0)∨(¬ Z4z f∧¬ RightF f∧Z00 f = some 50):=by
 have holen:=Z2e (b:=31) hl.odd
 unfold Z00
 by_cases h1:6000 < f.Core.length∨6000 < f.Odd.length
 ·have e:(decide ((f.Core.length:Int) > 6000) || decide ((f.Odd.length:Int) > 6000)) = true:=by
   rcases h1 with h | h
   ·rw [ZX (show (f.Core.length:Int) > 6000 by omega)];rfl
   ·rw [ZX (show (f.Odd.length:Int) > 6000 by omega)];simp
  rw [e];exact .inl ⟨h1.elim .inl (fun h => .inr (.inl h)),rfl⟩
 ·have e:(decide ((f.Core.length:Int) > 6000) || decide ((f.Odd.length:Int) > 6000)) = false:=by
   rw [ZW (show ¬ (f.Core.length:Int) > 6000 by omega),ZW (show ¬ (f.Odd.length:Int) > 6000 by omega)];rfl
  rw [e,cond_false,ZAC hl (by omega) (by omega)]
  simp only [Y0]
  by_cases h2:60000 < Z5u f
  ·rw [ZX (show (Z5u f:Int) > 60000 by omega)]
   exact .inl ⟨.inr (.inr h2),rfl⟩
  ·have hnl:¬ Z4z f:=by unfold Z4z;omega
   rw [ZW (show ¬ (Z5u f:Int) > 60000 by omega),cond_false]
   obtain ⟨b,hb,hbs⟩:=gran_shape_eq hl
   rw [hb];simp only [Y0];refine .inr ?_;cases b with
   | false => exact .inr ⟨hnl,fun h => (by have:=hbs.2 h.shape;cases this),rfl⟩
   | true =>
    have hs:=hbs.1 rfl
    obtain ⟨c,hc,hct⟩:=gran_turns_eq hl hs
    rw [hc];simp only [Y0,Yg,cond_false];cases c with
    | false => exact .inr ⟨hnl,fun h => (by have:=hct.2 h.turns;cases this),rfl⟩
    | true =>
     simp only [Yg,cond_false]
     rcases Z3a (l:=f.Odd) (step:=Z00.s0 f) (fun _ g => Beside f g.Index) (no:=.ret 50) (yes:=.go ()) (fun k g hk _ => by
       obtain ⟨q1,q2⟩:=ZB4 hk
       obtain ⟨b,hb,hbb⟩:=ZBw hl hs (hs.odd g (Y6 hk)).2
       unfold Z00.s0;rw [ZX q2,cond_true,q1,ZC (by omega)]
       simp only [Y0,hb];cases b
       ·exact .inr ⟨rfl,fun h => by have:=hbb.2 h;cases this⟩
       ·exact .inl ⟨rfl,hbb.1 rfl⟩) (by unfold Z00.s0;rw [ZW (by omega)];rfl) with ⟨q1,q2⟩ | ⟨q1,q2⟩
     ·rw [q1];exact .inl ⟨hnl,⟨hs,hct.1 rfl,fun g hg => by obtain ⟨k,hk⟩:=YC hg;exact q2 k g hk⟩,rfl⟩
     ·rw [q1];exact .inr ⟨hnl,fun h => q2 fun k g hk => h.beside g (Y6 hk),rfl⟩
def Z6a (f:Form):Prop:=f.Core.length≤12∧f.Odd.length≤8∧Z5u f≤60
theorem Z8o {f:Form} (hl:Lim f):∃ b,Z0n f = some b∧(b = true ↔ Z6a f):=by
 unfold Z0n
 by_cases h:f.Core.length≤12∧f.Odd.length≤8
 ·rw [ZX (show (f.Core.length:Int)≤12 by omega),ZX (show (f.Odd.length:Int)≤8 by omega),ZAC hl (by omega) (by omega)]
  refine ⟨decide ((Z5u f:Int)≤60),rfl,?_⟩;rw [decide_eq_true_iff];exact ⟨fun h' => ⟨h.1,h.2,by omega⟩,fun h' => by have:=h'.2.2;omega⟩
 ·have e:(decide ((f.Core.length:Int)≤12) && decide ((f.Odd.length:Int)≤8)) = false:=by
   by_cases h1:f.Core.length≤12
   ·rw [ZW (show ¬ (f.Odd.length:Int)≤8 by omega)];simp
   ·rw [ZW (show ¬ (f.Core.length:Int)≤12 by omega)];rfl
  rw [e];exact ⟨false,rfl,fun h => (by cases h),fun h' => absurd ⟨h'.1,h'.2.1⟩ h⟩
end Go.Dn

namespace Go.Dn
open Go
theorem Z3c {f:Form} {l:List Span}:l ∈ full f ↔ l ∈ f.Core∧l ≠ []:=by
 unfold full
 rw [List.mem_filter,decide_eq_true_iff,gt_iff_lt,List.length_pos_iff]
theorem full_pair {f:Form} (hs:Shape f) (ht:Turns f):(full f).Pairwise (fun a b => lstT a < fstT b):=by
 have hm:∀ x ∈ full f,fstT x≤lstT x:=fun x hx => Z4h (hs.core x (Z3c.1 hx).1) (Z3c.1 hx).2
 have h1:=ht.1
 generalize full f = l at hm h1
 induction l with
 | nil => exact .nil
 | cons x l ih =>
  have ih:=ih (fun y hy => hm y (YH _ hy)) (fun k a b ha hb => h1 (k + 1) a b ha hb)
  refine List.pairwise_cons.2 ⟨fun y hy => ?_,ih⟩
  cases l with
  | nil => cases hy
  | cons z l =>
   have hxz:=h1 0 x z rfl rfl
   rcases List.mem_cons.1 hy with rfl | hy
   ·exact hxz
   ·have:=(List.pairwise_cons.1 ih).1 y hy
    have:=hm z (by simp)
    omega
theorem core_pair {f:Form} (hs:Shape f) (ht:Turns f) {j k:Nat} {a b:List Span} (hjk:j < k) (ha:f.Core[j]? = some a) (hb:f.Core[k]? = some b) (na:a ≠ []) (nb:b ≠ []):lstT a < fstT b:=by
 have h:=full_pair hs ht
 unfold full at h
 rw [List.pairwise_filter] at h
 have hj:=(List.getElem?_eq_some_iff.1 ha)
 have hk:=(List.getElem?_eq_some_iff.1 hb)
 obtain ⟨hj,rfl⟩:=hj
 obtain ⟨hk,rfl⟩:=hk
 exact List.pairwise_iff_getElem.1 h j k hj hk hjk (by rw [decide_eq_true_iff];exact List.length_pos_iff.2 na) (by rw [decide_eq_true_iff];exact List.length_pos_iff.2 nb)
theorem core_turn {f:Form} (hs:Shape f) (ht:Turns f) {a b:List Span} (ha:a ∈ f.Core) (hb:b ∈ f.Core) (na:a ≠ []) (nb:b ≠ []):lstT a < fstT b + f.Period:=by
 have hA:=Z3c.2 ⟨ha,na⟩
 have hB:=Z3c.2 ⟨hb,nb⟩
 have hm:∀ x ∈ full f,fstT x≤lstT x:=fun x hx => Z4h (hs.core x (Z3c.1 hx).1) (Z3c.1 hx).2
 have hn:full f ≠ []:=List.ne_nil_of_mem hA
 have hlast:=Y03 hn
 have hhead:=Y0A hn
 have h2:=ht.2 _ _ hlast hhead
 have hp:=full_pair hs ht
 have e1:lstT a≤lstT ((full f).getLast hn):=by
  obtain ⟨j,hj⟩:=YC hA
  obtain ⟨hjl,hj⟩:=List.getElem?_eq_some_iff.1 hj
  by_cases hc:j = (full f).length - 1
  ·subst hc;rw [List.getLast_eq_getElem,hj];exact Y0K _
  ·have:=List.pairwise_iff_getElem.1 hp j ((full f).length - 1) hjl (by omega) (by omega)
   rw [hj] at this;have h5:=hm _ (List.getLast_mem hn)
   rw [List.getLast_eq_getElem] at h5 ⊢;omega
 have e2:fstT ((full f).head hn)≤fstT b:=by
  obtain ⟨j,hj⟩:=YC hB
  obtain ⟨hjl,hj⟩:=List.getElem?_eq_some_iff.1 hj
  have hh:(full f).head hn = (full f)[0]'(by omega):=List.head_eq_getElem hn
  by_cases hc:j = 0
  ·subst hc;rw [hh,hj];exact Y0K _
  ·have:=List.pairwise_iff_getElem.1 hp 0 j (by omega) hjl (by omega)
   rw [hj,← hh] at this;have h5:=hm _ (List.head_mem hn)
   omega
 omega
theorem ZC5 {f:Form} (hs:Shape f) (h0:f.Count ≠ 0) (i:Int):f.Core[(i % f.Count).toNat]? = some (Z03 f i):=by
 have:=(Z0E hs h0 i).1
 unfold at? at this
 rwa [if_pos (Ya i h0)] at this
theorem ZCm {f:Form} (hs:Shape f) (ht:Turns f) (h0:f.Count ≠ 0) {i k:Int} (hik:i < k) (ni:Z03 f i ≠ []) (nk:Z03 f k ≠ []):lstT (Z03 f i) + Z4L f i < fstT (Z03 f k) + Z4L f k:=by
 have hp:=ZA9 hs h0
 have di:=Yb i f.Count
 have dk:=Yb k f.Count
 have mi:=Ya i h0
 have mk:=Ya k h0
 have li:=Ye i hp
 have lk:=Ye k hp
 have hq:i / f.Count≤k / f.Count:=Int.ediv_le_ediv hp (by omega)
 unfold Z4L
 rcases Int.lt_or_eq_of_le hq with h | h
 ·have h1:=core_turn hs ht (Z0E hs h0 i).2 (Z0E hs h0 k).2 ni nk
  have h2:(i / f.Count + 1) * f.Period≤k / f.Count * f.Period:=YM (by omega) hs.per.1
  rw [Y0S,Y17] at h2;omega
 ·rw [h] at di ⊢;have:i % f.Count < k % f.Count:=by omega
  have h1:=core_pair hs ht (j:=(i % f.Count).toNat) (k:=(k % f.Count).toNat) (by omega) (ZC5 hs h0 i) (ZC5 hs h0 k) ni nk
  omega
theorem Z1j {l:List Span} (d:Int) (hn:l ≠ []):lstT (l.map (ZU d)) = lstT l + d∧fstT (l.map (ZU d)) = fstT l + d:=by
 unfold lstT fstT
 rw [List.getLast?_map,List.head?_map,Y03 hn,Y0A hn]
 exact ⟨rfl,rfl⟩
theorem under_some {f:Form} (hl:Lim f) (hs:Shape f) {i k:Int} (hk:In64 k) (hik:i < k) (ti:ZG i) (ni:ZK f i ≠ []):∃ j,Under f k (j,true)∧i≤j:=by
 obtain ⟨r,_,h⟩:=Z5c hl hs hk
 obtain ⟨j,b⟩:=r
 have h':=h
 rcases h with ⟨rfl,h1,h2,h3,h4⟩ | ⟨rfl,_,h4⟩
 ·refine ⟨j,h',?_⟩;apply Classical.byContradiction;intro hc;exact ni (h4 i hik (by simp only;omega) ti)
 ·exact absurd (h4 i hik ti) ni
theorem above_some {f:Form} (hl:Lim f) (hs:Shape f) {i k:Int} (hk:In64 k) (hik:k < i) (ti:ZG i) (ni:ZK f i ≠ []):∃ j,Above f k (j,true)∧j≤i:=by
 obtain ⟨r,_,h⟩:=Z43 hl hs hk
 obtain ⟨j,b⟩:=r
 have h':=h
 rcases h with ⟨rfl,h1,h2,h3,h4⟩ | ⟨rfl,_,h4⟩
 ·refine ⟨j,h',?_⟩;apply Classical.byContradiction;intro hc;exact ni (h4 i hik (by simp only;omega) ti)
 ·exact absurd (h4 i hik ti) ni
theorem RightF.order {f:Form} (hl:Lim f) (hr:RightF f):∀ (n:Nat) (i k:Int),(k - i).toNat = n→i < k→ZG i→ZG k→fits f i→fits f k→ZK f i ≠ []→ZK f k ≠ []→lstT (ZK f i) < fstT (ZK f k):=by
 have hs:=hr.shape
 intro n
 induction n using Nat.strongRecOn with
 | _ n ih =>
  intro i k hn hik ti tk fi fk ni nk
  by_cases ok:Z2y f k
  ·obtain ⟨g,hg,rfl⟩:=ok
   obtain ⟨j,hj,hij⟩:=under_some hl hs (Z1s tk) hik ti ni
   obtain ⟨hi',_,hab⟩:=Z43 hl hs (Z1s tk)
   obtain ⟨_,hlo,_,_⟩:=hr.beside g hg _ _ hj hab
   obtain ⟨fj,aj⟩:=hlo rfl
   have hj2:=hj
   rcases hj2 with ⟨_,j1,j2,j3,j4⟩ | ⟨h,_⟩
   ·simp only at fj aj j1 j2 j3;have hjk:=(ZCl j3 nk).1 aj
    by_cases hji:i = j
    ·rw [hji];exact hjk
    ·have h1:=ih (j - i).toNat (by omega) i j rfl (by omega) ti j2 fi fj ni j3
     have h2:=Z4h (Z7y hs fj) j3
     omega
   ·cases h
  ·by_cases oi:Z2y f i
   ·obtain ⟨g,hg,rfl⟩:=oi
    obtain ⟨j,hj,hij⟩:=above_some hl hs (Z1s ti) hik tk nk
    obtain ⟨lo',_,hun⟩:=Z5c hl hs (Z1s ti)
    obtain ⟨_,_,hhi,_⟩:=hr.beside g hg _ _ hun hj
    obtain ⟨fj,aj⟩:=hhi rfl
    have hj2:=hj
    rcases hj2 with ⟨_,j1,j2,j3,j4⟩ | ⟨h,_⟩
    ·simp only at fj aj j1 j2 j3;have hjk:=(ZCl ni j3).1 aj
     by_cases hji:j = k
     ·rw [← hji];exact hjk
     ·have h1:=ih (k - j).toNat (by omega) j k rfl (by omega) j2 tk fj fk j3 nk
      have h2:=Z4h (Z7y hs fj) j3
      omega
    ·cases h
   ·have h0:f.Count ≠ 0:=fun h => ni (Z3L oi h)
    have ni':=fun h => ni ((Z2K oi h0).2 h)
    have nk':=fun h => nk ((Z2K ok h0).2 h)
    rw [Z37 oi h0,Z37 ok h0,(Z1j _ ni').1,(Z1j _ nk').2];exact ZCm hs hr.turns h0 hik ni' nk'
theorem iMin_eq (a b:Int):iMin a b = min a b:=by unfold iMin;omega
theorem iMax_eq (a b:Int):iMax a b = max a b:=by unfold iMax;omega
end Go.Dn

namespace Go.Dn
open Go
theorem Above.tick {f:Form} {i:Int} {r:Int × Bool} (h:Above f i r) (hr:r.2 = true):i < r.1∧ZG r.1∧ZK f r.1 ≠ []∧∀ k,i < k→k < r.1→ZG k→ZK f k = []:=by
 rcases h with ⟨_,h1,h2,h3,h4⟩ | ⟨h,_⟩
 ·exact ⟨h1,h2,h3,h4⟩
 ·rw [hr] at h;cases h
theorem Under.tick {f:Form} {i:Int} {r:Int × Bool} (h:Under f i r) (hr:r.2 = true):r.1 < i∧ZG r.1∧ZK f r.1 ≠ []∧∀ k,k < i→r.1 < k→ZG k→ZK f k = []:=by
 rcases h with ⟨_,h1,h2,h3,h4⟩ | ⟨h,_⟩
 ·exact ⟨h1,h2,h3,h4⟩
 ·rw [hr] at h;cases h
end Go.Dn

namespace Go.Dn
open Go
theorem ZAW {α β:Type} {a:List α} {b:List β} {step:Int→Option (Int ⊕ Jx Unit Bool)} {eq:α→β→Option Bool} (P:α→β→Prop)
  (hl:(a.length:Int) < 9223372036854775807) (hab:a.length = b.length)
  (heq:∀ (k:Nat) x y,a[k]? = some x→b[k]? = some y→∃ r,eq x y = some r∧(r = true ↔ P x y))
  (hstep:∀ s,step s = bif decide (s < (a.length:Int)) then (at? a s).bind fun x1 => (at? b s).bind fun x2 => (eq x1 x2).bind fun x3 => bif (!x3) then some (.inr (.ret false)) else some (.inl (w64 (s + 1))) else some (.inr (.go ()))) :
  (loopO step 0 = some (.go ())∧∀ (k:Nat) x y,a[k]? = some x→b[k]? = some y→P x y)∨(loopO step 0 = some (.ret false)∧¬ ∀ (k:Nat) x y,a[k]? = some x→b[k]? = some y→P x y):=by
 rcases Z3a (l:=a) (step:=step) (fun k x => ∀ y,b[k]? = some y→P x y) (no:=.ret false) (yes:=.go ()) (fun k x hk hp => by
  have hlt:=(List.getElem?_eq_some_iff.1 hk).1
  have hat:at? a (k:Int) = some x:=by rw [at?_nat hlt];rw [Y2 hlt] at hk;exact hk
  have hbt:at? b (k:Int) = some (b[k]'(by omega)):=at?_nat (by omega)
  have hbk:b[k]? = some (b[k]'(by omega)):=Y2 (by omega)
  obtain ⟨r,h1,h2⟩:=heq k x _ hk hbk
  rw [hstep,ZX (show (k:Int) < a.length by omega),cond_true,hat,hbt,ZC (show _ by omega)]
  simp only [Y0,h1];cases r with
  | true => exact .inl ⟨rfl,fun y hy => by rw [hbk] at hy;cases hy;exact h2.1 rfl⟩
  | false => exact .inr ⟨rfl,fun h => by have:=h2.2 (h _ hbk);cases this⟩) (by
  rw [hstep,ZW (by omega)];rfl) with ⟨h1,h2⟩ | ⟨h1,h2⟩
 ·exact .inl ⟨h1,fun k x y hx hy => h2 k x hx y hy⟩
 ·exact .inr ⟨h1,fun h => h2 fun k x hx y hy => h k x y hx hy⟩
theorem ZBZ {a b:List Span} {d:Int} (hl:a.length = b.length):(∀ (k:Nat) x y,a[k]? = some x→b[k]? = some y→y.From - x.From = d∧y.To - x.To = d) ↔ b = a.map (ZU d):=by
 constructor
 ·intro h;apply Y0e;intro k
  by_cases hk:k < a.length
  ·have h1:a[k]? = some a[k]:=Y2 hk
   have h2:b[k]? = some (b[k]'(by omega)):=Y2 (by omega)
   rw [h2,YP,h1];obtain ⟨q1,q2⟩:=h k _ _ h1 h2
   simp only [Y8,ZU,Y5];generalize b[k]'(by omega) = y at q1 q2 ⊢
   obtain ⟨y1,y2⟩:=y
   simp only at q1 q2;simp only [Span.mk.injEq];omega
  ·rw [YZ (by omega),YZ (by simp;omega)]
 ·rintro rfl k x y hx hy;rw [YP,hx] at hy;simp only [Y8,Y5] at hy;subst hy;simp only [ZU];omega
theorem ZBG {a b:List Span} {d:Int} (ha:RightL a) (hb:RightL b) (hl:Len a):∃ r,Z25 a b d = some r∧(r = true ↔ b = a.map (ZU d)):=by
 have hl':(a.length:Int) < 9223372036854775807:=by have:=Z1D;unfold Len at hl;omega
 unfold Z25 ZA
 by_cases hlen:a.length = b.length
 ·rw [Z86 (by omega),cond_false]
  have tk:∀ {l:List Span},RightL l→∀ (k:Nat) s,l[k]? = some s→ZG s.From∧ZG s.To:=fun {l} h k s hs => by
   have:=Z7S.1 h k s hs
   unfold Z50 at this;exact ⟨this.1,this.2.1⟩
  rcases ZAW (a:=a) (b:=b) (step:=ZA.s0 a b (fun z0 z1 => some (Z1N z0 z1 d))) (eq:=fun z0 z1 => some (Z1N z0 z1 d)) (fun x y => y.From - x.From = d∧y.To - x.To = d) hl' hlen (fun k x y hx hy => by
   refine ⟨_,rfl,?_⟩;obtain ⟨x1,x2⟩:=tk ha k x hx
   obtain ⟨y1,y2⟩:=tk hb k y hy
   unfold ZG at x1 x2 y1 y2;unfold Z1N;rw [ZC (by omega),ZC (by omega)]
   simp) (fun s => rfl) with ⟨h1,h2⟩ | ⟨h1,h2⟩
  ·rw [h1];exact ⟨true,rfl,⟨fun _ => (ZBZ hlen).1 h2,fun _ => rfl⟩⟩
  ·rw [h1];refine ⟨false,rfl,by simp only [YA,false_iff];exact fun h => h2 ((ZBZ hlen).2 h)⟩
 ·rw [bne_t (by omega),cond_true]
  refine ⟨false,rfl,by simp only [YA,false_iff];rintro rfl;exact hlen (by simp)⟩
end Go.Dn

namespace Go.Dn
open Go
noncomputable def cs (f:Form) (i:Int):List Span:=(Z03 f i).map (ZU (Z4L f i))
theorem Z1h (l:List Span) (a b:Int):(l.map (ZU a)).map (ZU b) = l.map (ZU (a + b)):=by
 rw [List.map_map]
 congr 1
 funext s
 simp only [Function.comp,ZU,Span.mk.injEq]
 omega
theorem shift_inj {a b:List Span} {d:Int} (h:a.map (ZU d) = b.map (ZU d)):a = b:=by
 have:=congrArg (List.map (ZU (-d))) h
 rw [Z1h,Z1h,Int.add_right_neg,Z9a,Z9a] at this
 exact this
theorem Z6y {f:Form} (h0:f.Count ≠ 0) (i:Int):cs f (i + f.Count) = (cs f i).map (ZU f.Period):=by
 unfold cs Z03 Z4L
 rw [Z1h,Int.add_emod_right,Int.add_ediv_of_dvd_right (Int.dvd_refl _),Int.ediv_self h0,Y0S,Y17]
theorem Z4X {f:Form} (h0:f.Count ≠ 0) (i k:Int):cs f (i + f.Count * k) = (cs f i).map (ZU (k * f.Period)):=by
 unfold cs Z03 Z4L
 rw [Z1h,Int.add_mul_emod_self_left,Int.add_mul_ediv_left _ _ h0,Y0S]
theorem Z3b {f:Form} {i:Int} (h0:0≤i) (h1:i < f.Count):cs f i = f.Core.getD i.toNat []:=by
 unfold cs Z03 Z4L
 rw [Int.emod_eq_of_lt h0 h1,Int.ediv_eq_zero_of_lt h0 h1,Int.zero_mul,Z9a]
def TurnZ (f:Form) (d q:Int):Prop:=∀ i,cs f (i + d) = (cs f i).map (ZU q)
theorem turn_of {f:Form} (h0:0 < f.Count) {d q:Int} (h:∀ i,0≤i→i < f.Count→cs f (i + d) = (cs f i).map (ZU q)):TurnZ f d q:=by
 intro i
 have e:i = i % f.Count + f.Count * (i / f.Count):=(Yb i f.Count).symm
 have h1:=h (i % f.Count) (Ya i (by omega)) (Ye i h0)
 have e2:i + d = (i % f.Count + d) + f.Count * (i / f.Count):=by omega
 rw [e2,Z4X (by omega),h1]
 conv => rhs;rw [e,Z4X (by omega)]
 rw [Z1h,Z1h,Int.add_comm]
def Z75 (f:Form) (d k:Int):Int:=if k + d ≥ f.Count then k + d - f.Count else k + d
def Z8F (f:Form) (d k:Int):Int:=if k + d ≥ f.Count then f.Period else 0
theorem wrap_cs {f:Form} {d k:Int} (hd:1≤d) (hdn:d≤f.Count) (h0:0≤k) (h1:k < f.Count):0≤Z75 f d k∧Z75 f d k < f.Count∧cs f (k + d) = (cs f (Z75 f d k)).map (ZU (Z8F f d k)):=by
 unfold Z75 Z8F
 by_cases h:k + d ≥ f.Count
 ·rw [if_pos h,if_pos h];refine ⟨by omega,by omega,?_⟩
  rw [← Z6y (by omega)]
  congr 1;omega
 ·rw [if_neg h,if_neg h,Z9a];exact ⟨by omega,by omega,rfl⟩
theorem canon_turn_eq {f:Form} (hl:Lim f) (hs:Shape f) {d q:Int} (hd:1≤d) (hdn:d≤f.Count) (hq:0≤q∧q≤1099511627776):∃ r,Z0i f d q = some r∧(r = true ↔ TurnZ f d q):=by
 have hcl:(f.Core.length:Int) < 4611686018427387904:=Z2e (b:=23) hl.core
 have hcnt:=hs.count
 have key:∀ k:Int,0≤k→k < f.Count→(cs f (Z75 f d k) = (cs f k).map (ZU (q - Z8F f d k)) ↔ cs f (k + d) = (cs f k).map (ZU q)):=fun k k0 k1 => by
  obtain ⟨_,_,h⟩:=wrap_cs hd hdn k0 k1
  rw [h]
  constructor
  ·intro e;rw [e,Z1h]
   congr 2;omega
  ·intro e;apply shift_inj (d:=Z8F f d k)
   rw [e,Z1h]
   congr 2;omega
 unfold Z0i
 rcases Z3a (l:=f.Core) (step:=Z0i.s0 f d q) (fun k x => cs f (Z75 f d k) = x.map (ZU (q - Z8F f d k))) (no:=.ret false) (yes:=.go ()) (fun k x hk hp => by
  have hlt:=(List.getElem?_eq_some_iff.1 hk).1
  have hat:at? f.Core (k:Int) = some x:=by rw [at?_nat hlt];rw [Y2 hlt] at hk;exact hk
  obtain ⟨w0,w1,_⟩:=wrap_cs (f:=f) (k:=(k:Int)) hd hdn (by omega) (by omega)
  have hx:=hs.core x (Y6 hk)
  have hlx:=(hl.sets x (Y6 hk)).1
  have hwl:(Z75 f d k).toNat < f.Core.length:=by omega
  have hgw:cs f (Z75 f d k) = f.Core[(Z75 f d k).toNat]:=by rw [Z3b w0 w1,YE,Y2 hwl];rfl
  have hy:=hs.core _ (YW hwl)
  have hat2:at? f.Core (Z75 f d k) = some f.Core[(Z75 f d k).toNat]:=at?_lt w0 (by omega)
  have hpk:(bif decide (w64 ((k:Int) + d) ≥ f.Count) then some (w64 (w64 ((k:Int) + d) - f.Count),f.Period) else some (w64 ((k:Int) + d),0)) = some (Z75 f d k,Z8F f d k):=by
   rw [ZC (show _ by omega)]
   unfold Z75 Z8F
   by_cases h:(k:Int) + d ≥ f.Count
   ·rw [ZX h,cond_true,if_pos h,if_pos h,ZC (show _ by omega)]
   ·rw [ZW h,cond_false,if_neg h,if_neg h]
  obtain ⟨r,h1,h2⟩:=ZBG (d:=q - Z8F f d k) hx hy hlx
  have hwp:0≤Z8F f d k∧Z8F f d k≤1099511627776:=by have:=hs.per;unfold Z8F;split <;> omega
  unfold Z0i.s0;rw [ZX (show (k:Int) < f.Core.length by omega),cond_true,hat]
  simp only [Y0,hpk,hat2];rw [ZC (show _ by omega),h1]
  simp only [Y0];rw [hgw];cases r with
  | true => exact .inl ⟨by simp only [Yg,cond_false,Y0,Jx.elim];rw [ZC (show _ by omega)],h2.1 rfl⟩
  | false => exact .inr ⟨rfl,fun h => by have:=h2.2 h;cases this⟩) (by
  unfold Z0i.s0;rw [ZW (by omega)];rfl) with ⟨h1,h2⟩ | ⟨h1,h2⟩
 ·rw [h1];refine ⟨true,rfl,⟨fun _ => turn_of (by omega) fun i i0 i1 => ?_,fun _ => rfl⟩⟩
  have hlt:i.toNat < f.Core.length:=by omega
  have:=h2 i.toNat _ (Y2 hlt)
  rw [Yo i0] at this;refine (key i i0 i1).1 ?_;rw [this,Z3b i0 i1,YE,Y2 hlt];rfl
 ·rw [h1];refine ⟨false,rfl,⟨(fun h => nomatch h),fun ht => absurd (fun k x hk => ?_) h2⟩⟩
  have hlt:=(List.getElem?_eq_some_iff.1 hk).1
  have:=(key k (by omega) (by omega)).2 (ht k)
  rw [this,Z3b (by omega) (by omega),YE,Y0D,hk];rfl
end Go.Dn

namespace Go.Dn
open Go
structure Good (f:Form) (d:Int):Prop where
 pos:1≤d
 dvd:d ∣ f.Count
 rest:f.Period % (f.Count / d) = 0
 turn:TurnZ f d (f.Period / (f.Count / d))
theorem good_self {f:Form} (h0:0 < f.Count):Good f f.Count:=by
 have e:f.Count / f.Count = 1:=Int.ediv_self (by omega)
 exact ⟨by omega,Int.dvd_refl _,by rw [e];omega,by rw [e,Int.ediv_one];exact Z6y (by omega)⟩
theorem copy_loop {x4:List (List Span)} (hc:x4.length * 24≤reachBytes) (hs:∀ l ∈ x4,Len l):loopO (Zn.s1 x4) (0,[]) = some x4:=by
 have hcl:(x4.length:Int) < 4611686018427387904:=Z2e (b:=23) hc
 have hr:=Z1D
 have hro:=Z4m
 refine Z1G (I:=fun s r => r = x4∧∃ k:Nat,k≤x4.length∧s = ((k:Int),x4.take k)) (fun s => x4.length - s.1.toNat) ?_ ⟨rfl,0,YX _,rfl⟩
 rintro s r ⟨rfl,k,hk,rfl⟩
 unfold Zn.s1
 by_cases hlt:k < r.length
 ·left
  have hl:=hs _ (YW hlt)
  unfold Len at hl;have hcp:clone? 16 r[k] = some r[k]:=by unfold clone?;rw [if_pos (by omega)]
  have hap:app? 24 (r.take k) [r[k]] = some (r.take (k + 1)):=by
   rw [app?_ok (by simp only [YS,Yv,Yt];have:min k r.length + 1≤r.length:=(by omega);have:=YL 24 this;omega)]
   rw [List.take_append_getElem hlt]
  refine ⟨((k:Int) + 1,r.take (k + 1)),?_,⟨rfl,k + 1,hlt,by push_cast;rfl⟩,by simp;omega⟩
  rw [ZX (show (k:Int) < r.length by omega),cond_true,at?_nat hlt]
  simp only [Y0,hcp,hap];rw [ZC (show _ by omega)]
 ·right
  have:k = r.length:=by omega
  subst this;rw [ZW (show ¬ ((r.length:Int) < r.length) by omega),cond_false,Y0Y]
theorem core_b0_eq {f:Form} (hl:Lim f) (hs:Shape f) {d:Int} (hd:1≤d) (hdn:d ∣ f.Count) (h0:0 < f.Count) :
  (Good f d∧Zn.b0 f ([],0,0) d = some ((f.Core.take d.toNat,f.Period / (f.Count / d),d),1))∨(¬ Good f d∧Zn.b0 f ([],0,0) d = some (([],0,0),0)):=by
 have hle:d≤f.Count:=Y0V h0 hdn
 have hcl:(f.Core.length:Int) < 4611686018427387904:=Z2e (b:=23) hl.core
 have hcnt:=hs.count
 have hm:0 < f.Count / d:=Y0y h0 (by omega) hdn
 have hmle:f.Count / d≤f.Count:=Y12 _ (by omega)
 have htd:f.Count.tdiv d = f.Count / d:=Int.tdiv_eq_ediv_of_nonneg (by omega)
 have hq:0≤f.Period / (f.Count / d)∧f.Period / (f.Count / d)≤1099511627776:=by
  have h1:=hs.per
  have h2:f.Period / (f.Count / d)≤f.Period:=Y12 _ h1.1
  have h3:0≤f.Period / (f.Count / d):=Int.ediv_nonneg h1.1 (by omega)
  omega
 have hfl:Z0A f.Period (w64 (f.Count.tdiv d)) = some (f.Period / (f.Count / d),f.Period % (f.Count / d),0):=by
  rw [htd,ZC (show _ by omega),Z1Z hl.period (by unfold In64;omega),Z3I hm]
 unfold Zn.b0
 rw [nz?_ok (by omega),hfl]
 simp only [Y0]
 by_cases hr:f.Period % (f.Count / d) = 0
 ·rw [Z86 hr,cond_false];obtain ⟨r,h1,h2⟩:=canon_turn_eq hl hs hd hle hq
  rw [h1];cases r with
  | true =>
   left
   refine ⟨⟨hd,hdn,hr,h2.1 rfl⟩,?_⟩;have hcut:cut? f.Core 0 d = some (f.Core.take d.toNat):=by
    unfold cut?;rw [if_pos ⟨by omega,by omega,by omega⟩]
    rfl
   simp only [Y0,Yg,cond_false,hcut];have:=copy_loop (x4:=f.Core.take d.toNat) (by have:=hl.core;simp only [YS];have h:=YL 24 (Nat.min_le_right d.toNat f.Core.length);omega) (fun l hl' => (hl.sets l (Yq hl')).1)
   rw [this]
   rfl
  | false =>
   right
   exact ⟨fun g => (by have:=h2.2 g.turn;cases this),rfl⟩
 ·right
  refine ⟨fun g => hr g.rest,?_⟩
  rw [bne_t hr]
  rfl
theorem least_good {f:Form} (h0:0 < f.Count):∃ d,Good f d∧∀ d',Good f d'→d≤d':=by
 have:∃ n:Nat,Good f n:=⟨f.Count.toNat,by rw [Yo (by omega)];exact good_self h0⟩
 obtain ⟨n,hn⟩:=this
 induction n using Nat.strongRecOn with
 | _ n ih =>
  by_cases h:∃ m:Nat,m < n∧Good f m
  ·obtain ⟨m,h1,h2⟩:=h
   exact ih m h1 h2
  ·refine ⟨n,hn,fun d' hd' => ?_⟩
   apply Classical.byContradiction;intro hlt;have:=hd'.pos
   exact h ⟨d'.toNat,by omega,by rw [Yo (by omega)];exact hd'⟩
theorem canon_bare_eq {f:Form} (hl:Lim f):Z3l f = Z3V f:=by
 unfold Z3l Z3V
 rfl
theorem canon_core_eq {f:Form} (hl:Lim f) (hs:Shape f):(Bare f∧Zn f = some (Form.mk 0 0 [] [])) ∨
  (¬ Bare f∧0 < f.Count∧∃ d,Good f d∧(∀ d',Good f d'→d≤d')∧Zn f = some (Form.mk (f.Period / (f.Count / d)) d (f.Core.take d.toNat) [])):=by
 have hcl:(f.Core.length:Int) < 4611686018427387904:=Z2e (b:=23) hl.core
 have hcnt:=hs.count
 obtain ⟨b,h1,h2⟩:=Z7C hl
 unfold Zn
 rw [canon_bare_eq hl,h1]
 cases b with
 | true => exact .inl ⟨h2.1 rfl,rfl⟩
 | false =>
  right
  have hnb:¬ Bare f:=fun h => by have:=h2.2 h;cases this
  have h0:0 < f.Count:=by
   rcases Y0Z f.Core.length with h | h
   ·exact absurd (fun l hl' => by rw [List.length_eq_zero_iff.1 h] at hl';cases hl') hnb
   ·omega
  obtain ⟨d,hg,hmin⟩:=least_good h0
  refine ⟨hnb,h0,d,hg,hmin,?_⟩;have hdn:d≤f.Count:=Y0V h0 hg.dvd
  have hd1:=hg.pos
  have hloop:loopO (Zr.s0 f.Count (Z1J (Zn.b0 f))) (1,(([],0,0),0)) = some (.ret ((f.Core.take d.toNat,f.Period / (f.Count / d),d),1)):=by
   refine Z1G (I:=fun s r => r = .ret ((f.Core.take d.toNat,f.Period / (f.Count / d),d),1)∧∃ k:Int,1≤k∧k≤d∧s = (k,(([],0,0),0))) (fun s => (d - s.1).toNat) ?_ ⟨rfl,1,by omega,hd1,rfl⟩
   rintro s r ⟨rfl,k,k1,k2,rfl⟩;unfold Zr.s0;rw [ZX (show k≤f.Count by omega),cond_true,nz?_ok (by omega)]
   simp only [Y0]
   by_cases hkd:k ∣ f.Count
   ·rw [Z98 (show f.Count.tmod k = 0 from Int.tmod_eq_zero_of_dvd hkd),cond_true]
    rcases core_b0_eq hl hs k1 hkd h0 with ⟨g,e⟩ | ⟨g,e⟩
    ·have:k = d:=by have:=hmin k g;omega
     subst this
     right
     simp only [Z1J,if_true,e,Y8,Y0]
     rfl
    ·left
     have hne:k ≠ d:=fun h => g (h ▸ hg)
     refine ⟨(k + 1,(([],0,0),0)),?_,⟨trivial,k + 1,by omega,by omega,rfl⟩,by simp;omega⟩
     simp only [Z1J,if_true,e,Y8,Y0];rw [ZC (show _ by omega)]
     rfl
   ·left
    have hne:k ≠ d:=fun h => hkd (h ▸ hg.dvd)
    refine ⟨(k + 1,(([],0,0),0)),?_,⟨trivial,k + 1,by omega,by omega,rfl⟩,by simp;omega⟩
    rw [Z4Q (fun h => hkd (Int.dvd_of_tmod_eq_zero h)),cond_false]
    simp only [Y0,cond_false];rw [ZC (show _ by omega)]
  unfold Zr;rw [hloop]
  rfl
end Go.Dn

namespace Go.Dn
open Go
def Turn (h:Int→List Span) (d q:Int):Prop:=∀ i,h (i + d) = (h i).map (ZU q)
theorem Turn.neg {h:Int→List Span} {d q:Int} (t:Turn h d q):Turn h (-d) (-q):=fun i => by
 have:=t (i + -d)
 rw [show i + -d + d = i by omega] at this
 rw [this,Z1h,Int.add_right_neg,Z9a]
theorem Turn.add {h:Int→List Span} {d q d' q':Int} (t:Turn h d q) (t':Turn h d' q'):Turn h (d + d') (q + q'):=fun i => by
 rw [show i + (d + d') = (i + d) + d' by omega,t',t,Z1h]
theorem Turn.zero (h:Int→List Span):Turn h 0 0:=fun i => by rw [Int.add_zero,Z9a]
theorem Turn.nat {h:Int→List Span} {d q:Int} (t:Turn h d q):∀ k:Nat,Turn h (k * d) (k * q)
 | 0 => by simpa using Turn.zero h
 | k + 1 => by
  have:=(Turn.nat t k).add t
  push_cast
  rw [Y0S,Y17,Y0S,Y17];exact this
theorem Turn.mul {h:Int→List Span} {d q:Int} (t:Turn h d q) (k:Int):Turn h (k * d) (k * q):=by
 rcases Int.natAbs_eq k with e | e
 ·rw [e];exact t.nat _
 ·rw [e,Int.neg_mul,Int.neg_mul];exact (t.nat _).neg
theorem Turn.agree {h h':Int→List Span} {d q a:Int} (t:Turn h d q) (t':Turn h' d q) (hd:0 < d) (he:∀ i,a≤i→i < a + d→h i = h' i):h = h':=by
 funext i
 have e:i = ((i - a) % d + a) + (i - a) / d * d:=by
  have:=Yb (i - a) d
  rw [Yp] at this;omega
 have h1:=Ya (i - a) (show d ≠ 0 by omega)
 have h2:=Ye (i - a) hd
 rw [e,t.mul,t'.mul,he _ (by omega) (by omega)]
noncomputable def csz (f:Form) (i:Int):List Span:=if f.Count = 0 then [] else cs f i
theorem Z0r {f:Form} (h0:0 < f.Count):csz f = cs f:=by funext i;exact if_neg (by omega)
theorem Z2r {f:Form} {i:Int} (h:¬ Z2y f i):ZK f i = csz f i:=by
 unfold csz
 by_cases h0:f.Count = 0
 ·rw [if_pos h0,Z3L h h0]
 ·rw [if_neg h0,Z37 h h0];rfl
theorem csz_bare {f:Form} (hs:Shape f) (hb:Bare f) (i:Int):csz f i = []:=by
 unfold csz
 by_cases h0:f.Count = 0
 ·rw [if_pos h0]
 ·rw [if_neg h0];unfold cs;rw [hb _ (Z0E hs h0 i).2];rfl
def Z1V (f c:Form):Prop:=(Bare f∧c = Form.mk 0 0 [] [])∨(¬ Bare f∧0 < f.Count∧∃ d,Good f d∧(∀ d',Good f d'→d≤d')∧c = Form.mk (f.Period / (f.Count / d)) d (f.Core.take d.toNat) [])
theorem canon_core_ok {f:Form} (hl:Lim f) (hs:Shape f):∃ c,Zn f = some c∧Z1V f c:=by
 rcases canon_core_eq hl hs with ⟨h1,h2⟩ | ⟨h1,h2,d,h3,h4,h5⟩
 ·exact ⟨_,h2,.inl ⟨h1,rfl⟩⟩
 ·exact ⟨_,h5,.inr ⟨h1,h2,d,h3,h4,rfl⟩⟩
theorem Z1V.odd {f c:Form} (h:Z1V f c):c.Odd = []:=by
 rcases h with ⟨_,rfl⟩ | ⟨_,_,d,_,_,rfl⟩ <;> rfl
theorem Z1V.csz {f c:Form} (hs:Shape f) (h:Z1V f c):csz c = csz f:=by
 rcases h with ⟨hb,rfl⟩ | ⟨hb,h0,d,hg,_,rfl⟩
 ·funext i;rw [csz_bare hs hb];rfl
 ·have hd:=hg.pos
  have hdn:d≤f.Count:=Y0V h0 hg.dvd
  have hcnt:=hs.count
  rw [Z0r h0,Z0r (show 0 < (Form.mk (f.Period / (f.Count / d)) d (f.Core.take d.toNat) []).Count by show 0 < d;omega)]
  refine Turn.agree (a:=0) (d:=d) (q:=f.Period / (f.Count / d)) (Z6y (f:=Form.mk (f.Period / (f.Count / d)) d (f.Core.take d.toNat) []) (show d ≠ 0 by omega)) hg.turn (by omega) (fun i i0 i1 => ?_)
  rw [Z3b i0 (show i < d by omega),Z3b i0 (by omega)]
  show (f.Core.take d.toNat).getD i.toNat [] = _
  rw [YE,YE,List.getElem?_take_of_lt (by omega)]
theorem Z1V.shape {f c:Form} (hs:Shape f) (h:Z1V f c):Shape c:=by
 rcases h with ⟨hb,rfl⟩ | ⟨hb,h0,d,hg,_,rfl⟩
 ·exact ⟨rfl,by simp,by simp,by simp,by simp,fun j k a b _ h => by simp at h⟩
 ·have hd:=hg.pos
  have hdn:d≤f.Count:=Y0V h0 hg.dvd
  have hcnt:=hs.count
  have hm:0 < f.Count / d:=Y0y h0 (by omega) hg.dvd
  have hp:0 < f.Period:=by
   have:=hs.per;have:=hs.zero
   rcases Y0g 0 f.Period with h | h
   ·exact h
   ·have:f.Period = 0:=by omega
    have:=hs.zero.2 this
    omega
  have hq:0 < f.Period / (f.Count / d):=Y0y hp (by omega) (Y0n hg.rest)
  have hq2:f.Period / (f.Count / d)≤f.Period:=Y12 _ (by omega)
  refine ⟨?_,?_,?_,?_,by simp,fun j k a b _ h => by simp at h⟩
  ·simp only [YS];omega
  ·simp only;omega
  ·simp only;have:=hs.per;omega
  ·intro l hl';exact hs.core l (Yq hl')
theorem Z1V.lim {f c:Form} (hl:Lim f) (hs:Shape f) (h:Z1V f c):Lim c:=by
 have hsc:=h.shape hs
 have hn:c.Core.length≤f.Core.length∧∀ l ∈ c.Core,l ∈ f.Core:=by
  rcases h with ⟨hb,rfl⟩ | ⟨hb,h0,d,hg,_,rfl⟩
  ·exact ⟨YX _,fun l hl' => by cases hl'⟩
  ·exact ⟨by simp only [YS];omega,fun l hl' => Yq hl'⟩
 have hc:=hl.core
 have h24:=YL 24 hn.1
 have hp:=hsc.per
 have hcnt:=hsc.count
 have hcl:(f.Core.length:Int) < 4611686018427387904:=Z2e (b:=23) hl.core
 exact ⟨by omega,fun l hl' => hl.sets l (hn.2 l hl'),by rw [h.odd];simp [Z1D],by rw [h.odd];simp,by unfold In64;omega,by unfold In64;omega⟩
theorem Z1V.ZK {f c:Form} (hs:Shape f) (h:Z1V f c) (i:Int):ZK c i = Go.Dn.csz f i:=by
 rw [Z2r (by rintro ⟨g,hg,_⟩;rw [h.odd] at hg;cases hg),h.csz hs]
theorem ZCc {f c:Form} (hl:Lim f) (hs:Shape f) (h:Z1V f c) {g:Granule} (hg:g ∈ f.Odd):∃ r,Z35 c g = some r∧(r = true ↔ csz f g.Index = g.Ticks):=by
 obtain ⟨hr,ht⟩:=hs.odd g hg
 have hlc:=h.lim hl hs
 have hsc:=h.shape hs
 unfold Z35
 rw [Z54 hlc hsc (Z1s ht)]
 by_cases hf:fits c g.Index
 ·rw [if_pos ⟨ht,hf⟩];obtain ⟨r,h1,h2⟩:=Z8v (a:=Go.Dn.ZK c g.Index) (b:=g.Ticks) (Z6m hlc hsc _)
  refine ⟨r,?_,?_⟩
  ·simp only [Y0];rw [Z98 rfl,cond_true,h1];rfl
  ·rw [h2,h.ZK hs]
 ·rw [if_neg (fun h' => hf h'.2)]
  refine ⟨false,rfl,⟨(fun h' => nomatch h'),fun e => absurd (fun s hs' => ?_) hf⟩⟩
  rw [h.ZK hs,e] at hs';obtain ⟨k,hk⟩:=YC hs'
  have:=Z7S.1 hr k s hk
  exact ⟨this.1,this.2.1⟩
open Classical in
noncomputable def oddly (f:Form) (g:Granule):Bool:=decide (¬ csz f g.Index = g.Ticks)
noncomputable def Z1T (f c:Form):Form:=Form.mk c.Period c.Count c.Core (f.Odd.filter (oddly f))
theorem Z1a {f:Form} (hl:Lim f) (hs:Shape f):∃ c,Z1V f c∧ZT f = some (Z1T f c):=by
 obtain ⟨c,h1,hc⟩:=canon_core_ok hl hs
 refine ⟨c,hc,?_⟩
 unfold ZT
 rw [h1]
 simp only [Y0]
 have hol:(f.Odd.length:Int) < 4611686018427387904:=Z2e (b:=31) hl.odd
 have hr:=Z1D
 have hro:=Z4m
 have:loopO (ZT.s0 f c) (0,[]) = some (f.Odd.filter (oddly f)):=by
  refine Z1G (I:=fun s r => r = f.Odd.filter (oddly f)∧∃ k:Nat,k≤f.Odd.length∧s = ((k:Int),(f.Odd.take k).filter (oddly f))) (fun s => f.Odd.length - s.1.toNat) ?_ ⟨rfl,0,YX _,rfl⟩
  rintro s r ⟨rfl,k,hk,rfl⟩;unfold ZT.s0
  by_cases hlt:k < f.Odd.length
  ·left
   have hmem:=YW hlt
   obtain ⟨r,p1,p2⟩:=ZCc hl hs hc hmem
   have htk:f.Odd.take (k + 1) = f.Odd.take k ++ [f.Odd[k]]:=(List.take_append_getElem hlt).symm
   have hlen:=(hl.ticks _ hmem).2.1
   unfold Len at hlen;refine ⟨((k:Int) + 1,(f.Odd.take (k + 1)).filter (oddly f)),?_,⟨rfl,k + 1,hlt,by push_cast;rfl⟩,by simp;omega⟩
   rw [ZX (show (k:Int) < f.Odd.length by omega),cond_true,at?_nat hlt]
   simp only [Y0,p1];rw [ZC (show _ by omega),htk,List.filter_append]
   cases r with
   | true =>
    have:oddly f f.Odd[k] = false:=by unfold oddly;rw [decide_eq_false_iff_not];exact fun h => h (p2.1 rfl)
    simp only [Yg,cond_false,Y0,List.filter_cons,this,YA,if_false,List.filter_nil,YQ]
   | false =>
    have:oddly f f.Odd[k] = true:=by unfold oddly;rw [decide_eq_true_iff];exact fun h => by have:=p2.2 h;cases this
    have hcp:clone? 16 f.Odd[k].Ticks = some f.Odd[k].Ticks:=by unfold clone?;rw [if_pos (by omega)]
    have hfl:((f.Odd.take k).filter (oddly f)).length≤k:=by
     have:=Y0O (oddly f) (f.Odd.take k)
     simp only [YS] at this;omega
    have hap:app? 32 ((f.Odd.take k).filter (oddly f)) [Granule.mk f.Odd[k].Index f.Odd[k].Ticks] = some ((f.Odd.take k).filter (oddly f) ++ [f.Odd[k]]):=by
     rw [app?_ok (by simp only [Yv,Yt];have h3:=hl.odd;have:=YL 32 (show ((f.Odd.take k).filter (oddly f)).length + 1≤f.Odd.length by omega);omega)]
    simp only [Y0l,cond_true,Y0,hcp,hap,List.filter_cons,this,if_true,List.filter_nil]
  ·right
   have:k = f.Odd.length:=by omega
   subst this;rw [ZW (show ¬ ((f.Odd.length:Int) < f.Odd.length) by omega),cond_false,Y0Y]
 rw [this]
 rfl
end Go.Dn

namespace Go.Dn
open Go
theorem ext_of {α:Type} {a b:List α} (hl:a.length = b.length) (h:∀ (k:Nat) x y,a[k]? = some x→b[k]? = some y→x = y):a = b:=by
 apply List.ext_getElem hl
 intro k h1 h2
 exact h k _ _ (Y2 h1) (Y2 h2)
theorem ZBc {x y:Granule}:x = y ↔ x.Index = y.Index∧x.Ticks = y.Ticks:=by
 obtain ⟨a,b⟩:=x
 obtain ⟨c,d⟩:=y
 simp
theorem Z74 {a b:Form}:a = b ↔ a.Period = b.Period∧a.Count = b.Count∧a.Core = b.Core∧a.Odd = b.Odd:=by
 obtain ⟨a1,a2,a3,a4⟩:=a
 obtain ⟨b1,b2,b3,b4⟩:=b
 simp
theorem alike_eq {a b:List Span} (ha:Len a):∃ r,Zh a b = some r∧(r = true ↔ a = b):=by
 have hl:(a.length:Int) < 9223372036854775807:=by have:=Z1D;unfold Len at ha;omega
 unfold Zh
 by_cases hlen:a.length = b.length
 ·rw [Z86 (by omega),cond_false]
  rcases ZAW (a:=a) (b:=b) (step:=Zh.s0 a b) (eq:=fun x y => some (decide (y = x))) (fun p q => p = q) hl hlen (fun k p q hp hq => ⟨_,rfl,by rw [decide_eq_true_iff];exact ⟨Eq.symm,Eq.symm⟩⟩) (fun s => by
   unfold Zh.s0;simp only [span_beq]
   rfl) with ⟨h1,h2⟩ | ⟨h1,h2⟩
  ·rw [h1];exact ⟨true,rfl,⟨fun _ => ext_of hlen h2,fun _ => rfl⟩⟩
  ·rw [h1];exact ⟨false,rfl,⟨(fun h => nomatch h),fun e => absurd (fun k p q hp hq => by rw [e,hq] at hp;exact (Option.some.inj hp).symm) h2⟩⟩
 ·rw [bne_t (by omega),cond_true]
  exact ⟨false,rfl,⟨(fun h => nomatch h),fun e => absurd (congrArg List.length e) hlen⟩⟩
theorem alikeForms_eq {a b:Form} (hl:Lim a):∃ r,Z3 a b = some r∧(r = true ↔ a = b):=by
 have hc:(a.Core.length:Int) < 4611686018427387904:=Z2e (b:=23) hl.core
 have ho:(a.Odd.length:Int) < 4611686018427387904:=Z2e (b:=31) hl.odd
 unfold Z3
 rw [Z74]
 by_cases hp:a.Period = b.Period∧a.Count = b.Count∧a.Core.length = b.Core.length∧a.Odd.length = b.Odd.length
 ·obtain ⟨p1,p2,p3,p4⟩:=hp
  rw [Z86 p1,Z86 p2,Z86 (show (a.Core.length:Int) = b.Core.length by omega),Z86 (show (a.Odd.length:Int) = b.Odd.length by omega)]
  simp only [Y0h,cond_false]
  rcases ZAW (a:=a.Core) (b:=b.Core) (step:=Z3.s0 a b) (eq:=Zh) (fun p q => p = q) (by omega) p3 (fun k p q hp hq => alike_eq (hl.sets p (Y6 hp)).1) (fun s => rfl) with ⟨h1,h2⟩ | ⟨h1,h2⟩
  ·rw [h1];simp only [Y0,Jx.elim];have ec:=ext_of p3 h2
   rcases ZAW (a:=a.Odd) (b:=b.Odd) (step:=Z3.s1 a b) (eq:=fun x y => bif x.Index != y.Index then some false else Zh x.Ticks y.Ticks) (fun p q => p = q) (by omega) p4 (fun k p q hp hq => by
    rw [ZBc]
    by_cases hi:p.Index = q.Index
    ·rw [Z86 hi,cond_false];obtain ⟨r,q1,q2⟩:=alike_eq (b:=q.Ticks) (hl.ticks p (Y6 hp)).2.1
     exact ⟨r,q1,by rw [q2];exact ⟨fun e => ⟨hi,e⟩,fun e => e.2⟩⟩
    ·rw [bne_t hi,cond_true];exact ⟨false,rfl,⟨(fun h => nomatch h),fun e => absurd e.1 hi⟩⟩) (fun s => by
    unfold Z3.s1
    rcases e1:at? a.Odd s with _ | x
    ·rfl
    rcases e2:at? b.Odd s with _ | y
    ·rfl
    simp only [Y0];cases x.Index != y.Index with
    | true => rfl
    | false =>
     simp only [cond_false]
     rcases Zh x.Ticks y.Ticks with _ | r
     ·rfl
     ·rfl) with ⟨h3,h4⟩ | ⟨h3,h4⟩
   ·rw [h3];exact ⟨true,rfl,⟨fun _ => ⟨p1,p2,ec,ext_of p4 h4⟩,fun _ => rfl⟩⟩
   ·rw [h3];exact ⟨false,rfl,⟨(fun h => nomatch h),fun e => absurd (fun k p q hp hq => by rw [e.2.2.2,hq] at hp;exact (Option.some.inj hp).symm) h4⟩⟩
  ·rw [h1];exact ⟨false,rfl,⟨(fun h => nomatch h),fun e => absurd (fun k p q hp hq => by rw [e.2.2.1,hq] at hp;exact (Option.some.inj hp).symm) h2⟩⟩
 ·refine ⟨false,?_,⟨(fun h => nomatch h),fun e => absurd ⟨e.1,e.2.1,by rw [e.2.2.1],by rw [e.2.2.2]⟩ hp⟩⟩
  have:((((a.Period != b.Period) || (a.Count != b.Count)) || ((a.Core.length:Int) != (b.Core.length:Int))) || ((a.Odd.length:Int) != (b.Odd.length:Int))) = true:=by
   simp only [Yk,bne_iff_ne,ne_eq];apply Classical.byContradiction;intro hn;apply hp;refine ⟨?_,?_,?_,?_⟩ <;> apply Classical.byContradiction <;> intro h <;> apply hn
   ·exact .inl (.inl (.inl h))
   ·exact .inl (.inl (.inr h))
   ·exact .inl (.inr (by omega))
   ·exact .inr (by omega)
  rw [this];rfl
end Go.Dn

namespace Go.Dn
open Go
theorem Z5R {l:List Granule}:Inc l ↔ l.Pairwise (fun a b => a.Index < b.Index):=by
 rw [Yr]
 constructor
 ·intro h i j hi hj hij;exact h i j _ _ hij (Y2 hi) (Y2 hj)
 ·intro h j k a b hjk ha hb;obtain ⟨h1,rfl⟩:=List.getElem?_eq_some_iff.1 ha
  obtain ⟨h2,rfl⟩:=List.getElem?_eq_some_iff.1 hb
  exact h j k h1 h2 hjk
theorem Inc.filter {l:List Granule} (h:Inc l) (p:Granule→Bool):Inc (l.filter p):=Z5R.2 ((Z5R.1 h).filter p)
theorem Z5a {f c:Form} (hs:Shape f) (h:Z1V f c):csz (Z1T f c) = csz f:=by
 rw [← h.csz hs];rfl
theorem Z8Z {f:Form} {g:Granule}:oddly f g = true ↔ ¬ csz f g.Index = g.Ticks:=by unfold oddly;rw [decide_eq_true_iff]
theorem Z2a {f c:Form} {g:Granule}:g ∈ (Z1T f c).Odd ↔ g ∈ f.Odd∧oddly f g = true:=List.mem_filter
theorem ZAE {f c:Form} (hs:Shape f) (h:Z1V f c):ZK (Z1T f c) = ZK f:=by
 funext i
 by_cases ho:Z2y f i
 ·obtain ⟨g,hg,rfl⟩:=ho
  rw [Z0q hs.inc hg]
  by_cases hod:oddly f g = true
  ·exact Z0q (hs.inc.filter _) (Z2a.2 ⟨hg,hod⟩)
  ·have he:csz f g.Index = g.Ticks:=Classical.byContradiction fun hn => hod (Z8Z.2 hn)
   rw [Z2r (f:=Z1T f c),Z5a hs h,he]
   rintro ⟨g',hg',e⟩;obtain ⟨m1,m2⟩:=Z2a.1 hg'
   have:=hs.inc.uniq m1 hg e
   subst this;exact hod m2
 ·rw [Z2r ho,Z2r (f:=Z1T f c),Z5a hs h]
  rintro ⟨g',hg',e⟩;exact ho ⟨g',(Z2a.1 hg').1,e⟩
theorem Z7Y {f c:Form} (hs:Shape f) (h:Z1V f c):Shape (Z1T f c):=by
 have:=h.shape hs
 exact ⟨this.count,this.zero,this.per,this.core,fun g hg => hs.odd g (Z2a.1 hg).1,hs.inc.filter _⟩
theorem canonF_lim {f c:Form} (hl:Lim f) (hs:Shape f) (h:Z1V f c):Lim (Z1T f c):=by
 have:=h.lim hl hs
 refine ⟨this.core,this.sets,?_,fun g hg => hl.ticks g (Z2a.1 hg).1,this.count,this.period⟩
 have h1:(Z1T f c).Odd.length≤f.Odd.length:=Y0O _ _
 have:=hl.odd
 have:=YL 32 h1
 omega
theorem turns_of {f:Form} (hs:Shape f) (h:0 < f.Count→∀ i k,i < k→cs f i ≠ []→cs f k ≠ []→lstT (cs f i) < fstT (cs f k)):Turns f:=by
 have hcnt:=hs.count
 have at_:∀ (j:Nat) (a:List Span),f.Core[j]? = some a→cs f j = a:=fun j a ha => by
  have:=(List.getElem?_eq_some_iff.1 ha).1
  rw [Z3b (by omega) (by omega),YE,Y0D,ha];rfl
 have hpw:f.Core.Pairwise (fun a b => a ≠ []→b ≠ []→lstT a < fstT b):=by
  rw [Yr];intro i j hi hj hij na nb;have h1:=at_ i _ (Y2 hi)
  have h2:=at_ j _ (Y2 hj)
  have:=h (by omega) i j (by omega) (by rw [h1];exact na) (by rw [h2];exact nb)
  rw [h1,h2] at this;exact this
 constructor
 ·intro k a b ha hb;have hp:=hpw.filter (fun l => decide (l.length > 0))
  rw [Yr] at hp;obtain ⟨h1,rfl⟩:=List.getElem?_eq_some_iff.1 ha
  obtain ⟨h2,rfl⟩:=List.getElem?_eq_some_iff.1 hb
  exact hp k (k + 1) h1 h2 (by omega) (Z3c.1 (YW h1)).2 (Z3c.1 (YW h2)).2
 ·intro a b ha hb;obtain ⟨ma,na⟩:=Z3c.1 (List.mem_of_getLast? ha)
  obtain ⟨mb,nb⟩:=Z3c.1 (List.mem_of_head? hb)
  obtain ⟨j,hj⟩:=YC ma
  obtain ⟨k,hk⟩:=YC mb
  have hjl:=(List.getElem?_eq_some_iff.1 hj).1
  have h1:=at_ j _ hj
  have h2:=at_ k _ hk
  have h3:cs f ((k:Int) + f.Count) = b.map (ZU f.Period):=by rw [Z6y (by omega),h2]
  have:=h (by omega) j ((k:Int) + f.Count) (by omega) (by rw [h1];exact na) (by rw [h3];simpa using nb)
  rw [h1,h3,(Z1j _ nb).2] at this;exact this
theorem Z6c {f:Form} (hs:Shape f) (ht:Turns f) {i k:Int} (hik:i < k) (ni:csz f i ≠ []) (nk:csz f k ≠ []):lstT (csz f i) < fstT (csz f k):=by
 have h0:f.Count ≠ 0:=fun h => ni (by unfold csz;rw [if_pos h])
 unfold csz at ni nk ⊢
 rw [if_neg h0] at ni nk ⊢
 rw [if_neg h0]
 have n1:Z03 f i ≠ []:=fun h => ni (by unfold cs;rw [h];rfl)
 have n2:Z03 f k ≠ []:=fun h => nk (by unfold cs;rw [h];rfl)
 have:=ZCm hs ht h0 hik n1 n2
 unfold cs
 rw [(Z1j _ n1).1,(Z1j _ n2).2]
 exact this
theorem beside_congr {f g:Form} (h:ZK g = ZK f) {i:Int} (hb:Beside f i):Beside g i:=by
 intro lo hi hlo hhi
 have hu:Under f i lo:=by unfold Under at hlo ⊢;rw [h] at hlo;exact hlo
 have ha:Above f i hi:=by unfold Above at hhi ⊢;rw [h] at hhi;exact hhi
 have:=hb lo hi hu ha
 unfold BesideR fits at this ⊢
 rw [h]
 exact this
theorem canonF_right {f c:Form} (hr:RightF f) (h:Z1V f c):RightF (Z1T f c):=by
 have hs:=hr.shape
 refine ⟨Z7Y hs h,turns_of (Z7Y hs h) (fun h0 i k hik ni nk => ?_),fun g hg => beside_congr (ZAE hs h) (hr.beside g (Z2a.1 hg).1)⟩
 rw [← Z0r h0,Z5a hs h] at ni nk ⊢
 exact Z6c hs hr.turns hik ni nk
theorem canonF_fix {f c:Form} (hs:Shape f) (h:Z1V f c):Z1V (Z1T f c) c∧Z1T (Z1T f c) c = Z1T f c:=by
 have hcz:=Z5a hs h
 have hodd:(Z1T f c).Odd.filter (oddly (Z1T f c)) = (Z1T f c).Odd:=by
  rw [List.filter_eq_self];intro g hg;have:=(Z2a.1 hg).2
  rw [Z8Z] at this ⊢;rw [hcz];exact this
 have hco:=h.odd
 refine ⟨?_,by unfold Z1T at hodd ⊢;rw [Z74];exact ⟨rfl,rfl,rfl,hodd⟩⟩
 rcases h with ⟨hb,rfl⟩ | ⟨hb,h0,d,hg,hmin,rfl⟩
 ·exact .inl ⟨(fun l hl => by cases hl),rfl⟩
 ·right
  have hd:=hg.pos
  have hdn:d≤f.Count:=Y0V h0 hg.dvd
  have hcnt:=hs.count
  generalize hc':Z1T f (Form.mk (f.Period / (f.Count / d)) d (f.Core.take d.toNat) []) = c' at hcz;have e1:c'.Count = d:=by rw [← hc'];rfl
  have e2:c'.Period = f.Period / (f.Count / d):=by rw [← hc'];rfl
  have e3:c'.Core = f.Core.take d.toNat:=by rw [← hc'];rfl
  have hcs:cs c' = cs f:=by rw [← Z0r (show 0 < c'.Count by omega),← Z0r h0,hcz]
  have hlen:(f.Core.take d.toNat).length = d.toNat:=by rw [YS];omega
  have good_up:∀ d',Good c' d'→Good f d':=fun d' g => by
   have q1:=g.pos
   have q2:=g.dvd
   have q3:=g.rest
   have q4:=g.turn
   rw [e1] at q2 q3 q4;rw [e2] at q3 q4;have hdd:d' ∣ f.Count:=Int.dvd_trans q2 hg.dvd
   obtain ⟨a,ha⟩:=q2
   obtain ⟨b,hb'⟩:=hg.dvd
   have hbp:0 < b:=by
    rcases Y0g 0 b with h | h
    ·exact h
    ·have:d * b≤0:=Y08 (by omega) h
     omega
   have hap:0 < a:=by
    rcases Y0g 0 a with h | h
    ·exact h
    ·have:d' * a≤0:=Y08 (by omega) h
     omega
   have f1:f.Count / d = b:=by rw [hb',Y0Q _ (by omega)]
   have f2:d / d' = a:=by rw [ha,Y0Q _ (by omega)]
   have f3:f.Count / d' = a * b:=by rw [hb',ha,Yc,Y0Q _ (by omega)]
   have hrest:=hg.rest
   rw [f1] at hrest q3 q4;rw [f2] at q3 q4;have f4:f.Period = a * (f.Period / b / a) * b:=by
    have z1:=Int.ediv_mul_cancel (Y0n hrest)
    have z2:=Int.ediv_mul_cancel (Y0n q3)
    rw [Yp a,z2,z1]
   have f5:f.Period = (f.Period / b / a) * (a * b):=by
    conv => lhs;rw [f4]
    rw [Yp a,Yc]
   have hab:a * b ≠ 0:=by
    have:=Int.mul_pos hap hbp
    omega
   have f6:f.Period / (a * b) = f.Period / b / a:=by
    conv => lhs;rw [f5]
    exact Int.mul_ediv_cancel _ hab
   refine ⟨q1,hdd,?_,?_⟩
   ·rw [f3];exact Int.emod_eq_zero_of_dvd ⟨f.Period / b / a,by rw [Yp];exact f5⟩
   ·rw [f3,f6];intro i;have:=q4 i;rw [hcs] at this;exact this
  have hself:Good c' c'.Count:=good_self (by omega)
  refine ⟨fun hbare => hb ?_,by omega,d,by rw [← e1];exact hself,fun d' g => hmin d' (good_up d' g),?_⟩
  ·intro l hl;obtain ⟨k,hk⟩:=YC hl
   have hkl:=(List.getElem?_eq_some_iff.1 hk).1
   have hbz:∀ i,cs f i = []:=fun i => by
    rw [← hcs];have hcore:∀ i,Z03 c' i ∈ c'.Core:=fun i => by
     unfold Z03;have h1:=Ya i (show c'.Count ≠ 0 by omega)
     have h2:=Ye i (show 0 < c'.Count by omega)
     have:(i % c'.Count).toNat < c'.Core.length:=by rw [e3,hlen];omega
     rw [YE,Y2 this];exact YW _
    unfold cs;rw [hbare _ (hcore i)];rfl
   have:=hbz k
   rw [Z3b (by omega) (by omega),YE,Y0D,hk] at this
   exact this
  ·rw [Z74];have hdd:d / d = 1:=Int.ediv_self (by omega)
   refine ⟨?_,rfl,?_,rfl⟩
   ·show _ = c'.Period / (c'.Count / d)
    rw [e1,e2,hdd,Int.ediv_one]
   ·show _ = c'.Core.take d.toNat
    rw [e3,List.take_take,Nat.min_self]
end Go.Dn

namespace Go.Dn
open Go
theorem Z93 {α:Type} (g:α→Nat) (p:α→Bool):∀ l:List α,((l.filter p).map g).sum≤(l.map g).sum
 | [] => YB _
 | x :: l => by
  have:=Z93 g p l
  rw [List.filter_cons]
  split <;> simp only [Y0B,List.sum_cons] <;> omega
theorem ZBf {α:Type} (g:α→Nat):∀ (n:Nat) (l:List α),((l.take n).map g).sum≤(l.map g).sum
 | 0,l => by simp
 | n + 1,[] => by simp
 | n + 1,x :: l => by
  have:=ZBf g n l
  simp only [List.take_succ_cons,Y0B,List.sum_cons];omega
theorem coreOf_le {f c:Form} (hs:Shape f) (h:Z1V f c):c.Count≤f.Count∧c.Period≤f.Period∧c.Core.length≤f.Core.length∧(c.Core.map List.length).sum≤(f.Core.map List.length).sum:=by
 have hp:=hs.per
 have hcnt:=hs.count
 rcases h with ⟨hb,rfl⟩ | ⟨hb,h0,d,hg,hmin,rfl⟩
 ·exact ⟨by simp only;omega,by simp only;omega,YX _,YX _⟩
 ·exact ⟨Y0V h0 hg.dvd,Y12 _ hp.1,by simp only [YS];omega,ZBf _ _ _⟩
theorem canon_facts {f:Form} (hl:Lim f) (hr:RightF f):∃ g,ZT f = some g∧Lim g∧RightF g∧ZK g = ZK f∧ZT g = some g∧g.Count≤f.Count∧g.Period≤f.Period∧g.Core.length≤f.Core.length∧g.Odd.length≤f.Odd.length∧Z5u g≤Z5u f:=by
 have hs:=hr.shape
 obtain ⟨c,hc,hf⟩:=Z1a hl hs
 have hl':=canonF_lim hl hs hc
 have hs':=Z7Y hs hc
 obtain ⟨hfx,hfe⟩:=canonF_fix hs hc
 have hcl:=coreOf_le hs hc
 refine ⟨_,hf,hl',canonF_right hr hc,ZAE hs hc,?_,hcl.1,hcl.2.1,hcl.2.2.1,Y0O _ _,?_⟩
 ·obtain ⟨c2,hc2,hf2⟩:=Z1a hl' hs'
  have:c2 = c:=by
   rcases hfx with ⟨b1,e1⟩ | ⟨b1,z1,d1,g1,m1,e1⟩ <;> rcases hc2 with ⟨b2,e2⟩ | ⟨b2,z2,d2,g2,m2,e2⟩
   ·rw [e1,e2]
   ·exact absurd b1 b2
   ·exact absurd b2 b1
   ·have:d1 = d2:=by have:=m1 d2 g2;have:=m2 d1 g1;omega
    subst this;rw [e2];exact e1.symm
  rw [hf2,this,hfe]
 ·have h1:=hcl.2.2.2
  have h2:=Z93 (fun g:Granule => g.Ticks.length) (oddly f) f.Odd
  unfold Z5u
  show (c.Core.map List.length).sum + ((f.Odd.filter (oddly f)).map (fun g => g.Ticks.length)).sum≤_
  omega
end Go.Dn

namespace Go.Dn
open Go
theorem shift_ne {l:List Span} (hn:l ≠ []) {a b:Int} (h:l.map (ZU a) = l.map (ZU b)):a = b:=by
 cases l with
 | nil => exact absurd rfl hn
 | cons s l =>
  simp only [Y0B,List.cons.injEq,ZU,Span.mk.injEq] at h;omega
theorem Turn.uniq {h:Int→List Span} {d q q':Int} (t:Turn h d q) (t':Turn h d q') {i:Int} (hn:h i ≠ []):q = q':=shift_ne hn ((t i).symm.trans (t' i))
theorem Z4H {f:Form} (h0:0 < f.Count):Turn (cs f) f.Count f.Period:=Z6y (by omega)
theorem cs_some {f:Form} (hs:Shape f) (hb:¬ Bare f) (h0:0 < f.Count) (a:Int):∃ i,a≤i∧i < a + f.Count∧cs f i ≠ []:=by
 apply Classical.byContradiction
 intro hn
 apply hb
 have hz:cs f = fun _ => []:=Turn.agree (a:=a) (Z4H h0) (fun i => rfl) h0 (fun i i0 i1 => Classical.byContradiction fun h => hn ⟨i,i0,i1,h⟩)
 intro l hl
 obtain ⟨k,hk⟩:=YC hl
 have hkl:=(List.getElem?_eq_some_iff.1 hk).1
 have hcnt:=hs.count
 have:=congrFun hz (k:Int)
 rw [Z3b (by omega) (by omega),YE,Y0D,hk] at this
 exact this
theorem good_of_turn {f:Form} (hs:Shape f) (hb:¬ Bare f) (h0:0 < f.Count) {d q:Int} (hd:1≤d) (hdn:d ∣ f.Count) (t:Turn (cs f) d q):Good f d∧f.Period / (f.Count / d) = q:=by
 obtain ⟨i,_,_,hi⟩:=cs_some hs hb h0 0
 obtain ⟨m,hm⟩:=hdn
 have hmp:0 < m:=by
  rcases Y0g 0 m with h | h
  ·exact h
  ·have:d * m≤0:=Y08 (by omega) h
   omega
 have e1:f.Count / d = m:=by rw [hm,Y0Q _ (by omega)]
 have e2:f.Period = m * q:=by
  have t1:=t.mul m
  have t2:=Z4H h0
  rw [hm,Yp d m] at t2;exact t2.uniq t1 hi
 have e3:f.Period / m = q:=by rw [e2,Y0Q _ (by omega)]
 exact ⟨⟨hd,⟨m,hm⟩,by rw [e1,e2];exact Int.mul_emod_right _ _,by rw [e1,e3];exact t⟩,by rw [e1,e3]⟩
theorem least_turn {h:Int→List Span} {n p:Int} (hn:0 < n) (t:Turn h n p):∃ d q,1≤d∧Turn h d q∧∀ d' q',Turn h d' q'→d ∣ d':=by
 have:∃ m:Nat,1≤m∧∃ q,Turn h m q:=⟨n.toNat,by omega,p,by rw [Yo (by omega)];exact t⟩
 obtain ⟨m,hm⟩:=this
 induction m using Nat.strongRecOn with
 | _ m ih =>
  by_cases hex:∃ m':Nat,m' < m∧1≤m'∧∃ q,Turn h m' q
  ·obtain ⟨m',h1,h2⟩:=hex
   exact ih m' h1 h2
  ·obtain ⟨h1,q,hq⟩:=hm
   refine ⟨m,q,by omega,hq,fun d' q' t' => ?_⟩
   apply Classical.byContradiction;intro hnd;have r0:=Ya d' (show (m:Int) ≠ 0 by omega)
   have r1:=Ye d' (show (0:Int) < m by omega)
   have hr:d' % m ≠ 0:=fun e => hnd (Y0n e)
   have tt:=t'.add ((hq.mul (d' / m)).neg)
   have e:d' + -(d' / m * m) = d' % m:=by
    have:=Yb d' m
    rw [Yp] at this;omega
   rw [e] at tt;exact hex ⟨(d' % m).toNat,by omega,by omega,_,by rw [Yo r0];exact tt⟩
theorem least_is {f:Form} (hs:Shape f) (hb:¬ Bare f) (h0:0 < f.Count) {d:Int} (hg:Good f d) (hmin:∀ d',Good f d'→d≤d') {t q:Int} (ht:1≤t) (tt:Turn (cs f) t q) (hall:∀ d' q',Turn (cs f) d' q'→t ∣ d'):d = t∧f.Period / (f.Count / d) = q:=by
 have h1:=hall _ _ (Z4H h0)
 obtain ⟨g1,g2⟩:=good_of_turn hs hb h0 ht h1 tt
 have h2:=hmin t g1
 have h3:=Y0V hg.pos (hall _ _ hg.turn)
 have:d = t:=by omega
 subst this
 exact ⟨rfl,g2⟩
theorem coreOf_eq {f g c c':Form} (hf:Shape f) (hg:Shape g) (h:csz f = csz g) (hbb:Bare f ↔ Bare g) (hc:Z1V f c) (hc':Z1V g c'):c = c':=by
 rcases hc with ⟨b1,rfl⟩ | ⟨b1,z1,d1,g1,m1,rfl⟩ <;> rcases hc' with ⟨b2,rfl⟩ | ⟨b2,z2,d2,g2,m2,rfl⟩
 ·rfl
 ·exact absurd (hbb.1 b1) b2
 ·exact absurd (hbb.2 b2) b1
 ·rw [Z0r z1,Z0r z2] at h;obtain ⟨t,q,t1,t2,t3⟩:=least_turn z1 (Z4H z1)
  obtain ⟨e1,e2⟩:=least_is hf b1 z1 g1 m1 t1 t2 t3
  rw [h] at t2 t3;obtain ⟨e3,e4⟩:=least_is hg b2 z2 g2 m2 t1 t2 t3
  have:d1 = d2:=by omega
  subst this;have l1:d1≤f.Count:=Y0V z1 g1.dvd
  have l2:d1≤g.Count:=Y0V z2 g2.dvd
  have c1:=hf.count
  have c2:=hg.count
  have p1:=g1.pos
  rw [Z74];refine ⟨by rw [e2,e4],rfl,?_,rfl⟩
  apply Y0e;intro k
  show (f.Core.take d1.toNat)[k]? = (g.Core.take d1.toNat)[k]?
  by_cases hk:k < d1.toNat
  ·rw [List.getElem?_take_of_lt hk,List.getElem?_take_of_lt hk];have:=congrFun h (k:Int)
   rw [Z3b (by omega) (by omega),Z3b (by omega) (by omega),YE,YE,Y0D] at this
   rw [Y2 (show k < f.Core.length by omega),Y2 (show k < g.Core.length by omega)] at this ⊢
   exact congrArg some this
  ·rw [YZ (by rw [YS];omega),YZ (by rw [YS];omega)]
theorem inc_ext:∀ {a b:List Granule},a.Pairwise (fun x y => x.Index < y.Index)→b.Pairwise (fun x y => x.Index < y.Index)→(∀ x,x ∈ a ↔ x ∈ b)→a = b
 | [],[],_,_,_ => rfl
 | [],y :: b,_,_,h => absurd ((h y).2 (YG)) (List.not_mem_nil)
 | x :: a,[],_,_,h => absurd ((h x).1 (YG)) (List.not_mem_nil)
 | x :: a,y :: b,ha,hb,h => by
  obtain ⟨a1,a2⟩:=List.pairwise_cons.1 ha
  obtain ⟨b1,b2⟩:=List.pairwise_cons.1 hb
  have hxy:x = y:=by
   rcases List.mem_cons.1 ((h x).1 YG) with e | e
   ·exact e
   ·rcases List.mem_cons.1 ((h y).2 YG) with e' | e'
    ·exact e'.symm
    ·have:=b1 x e;have:=a1 y e';omega
  subst hxy;rw [inc_ext a2 b2 fun z => ⟨fun hz => ?_,fun hz => ?_⟩]
  ·rcases List.mem_cons.1 ((h z).1 (YH _ hz)) with e | e
   ·subst e;have:=a1 z hz;omega
   ·exact e
  ·rcases List.mem_cons.1 ((h z).2 (YH _ hz)) with e | e
   ·subst e;have:=b1 z hz;omega
   ·exact e
def NearF (f:Form) (m:Int):Prop:=∀ g ∈ f.Odd,-m≤g.Index∧g.Index≤m
end Go.Dn

namespace Go.Dn
open Go
end Go.Dn

namespace Go.Dn
open Go
end Go.Dn

namespace Go.Dn
open Go
def Mid (x:Int):Prop:=-1000000000000000000≤x∧x≤1000000000000000000
end Go.Dn

namespace Go.Dn
open Go
end Go.Dn

namespace Go.Dn
open Go
theorem u64_id {a:Int} (h:0≤a∧a < 18446744073709551616):IntKind.u64.wrap a = a:=by rw [Z5y];omega
def Dig (x:Int):Prop:=0≤x∧x < 65536
structure Digs (d:Arr9_u32):Prop where
 h0:Dig d.d0
 h1:Dig d.d1
 h2:Dig d.d2
 h3:Dig d.d3
 h4:Dig d.d4
 h5:Dig d.d5
 h6:Dig d.d6
 h7:Dig d.d7
 h8:Dig d.d8
def lsz (d:Arr9_u32):Int:=d.d0 + 65536 * (d.d1 + 65536 * (d.d2 + 65536 * (d.d3 + 65536 * (d.d4 + 65536 * (d.d5 + 65536 * (d.d6 + 65536 * (d.d7 + 65536 * d.d8)))))))
def lval (x:epactref01_long):Int:=if x.minus = true then -lsz x.digits else lsz x.digits
end Go.Dn

namespace Go.Dn
open Go
structure Low (d:Arr9_u32):Prop where
 z4:d.d4 = 0
 z5:d.d5 = 0
 z6:d.d6 = 0
 z7:d.d7 = 0
 z8:d.d8 = 0
end Go.Dn

namespace Go.Dn
open Go
theorem gcd_ok {a b:Int} (ha:In64 a) (hb:In64 b):gcd? (a.natAbs:Int) b.natAbs = some ((Nat.gcd a.natAbs b.natAbs:Nat):Int):=by
 unfold gcd?
 rw [if_pos (by unfold In64 at *;omega)]
 rfl
theorem gcd_lt {a b:Int} (ha:In64 a) (hb:In64 b):Nat.gcd a.natAbs b.natAbs≤9223372036854775808:=by
 unfold In64 at *
 by_cases h:a = 0
 ·subst h;simp;omega
 ·exact Yd (Nat.gcd_le_left _ (by omega)) (by omega)
theorem safe_Gcd_eq' {a b:Int} (ha:In64 a) (hb:In64 b):Z5b a b = some (fitS ((Nat.gcd a.natAbs b.natAbs:Nat):Int)):=by
 have:=gcd_lt ha hb
 unfold Z5b
 rw [Z3R ha,Z3R hb,gcd_ok ha hb]
 simp only [Y0]
 rw [Z5t _ (by unfold Z70;omega)]
 rfl
def lcmS (a b:Int):Int × Int:=if a = 0∨b = 0 then (0,0) else fitS (((a.natAbs / Nat.gcd a.natAbs b.natAbs:Nat):Int) * b.natAbs)
theorem Z7o {a b:Int} (ha:In64 a) (hb:In64 b):Z3X a b = some (lcmS a b):=by
 have:=gcd_lt ha hb
 unfold Z3X lcmS
 rw [Z3R ha,Z3R hb]
 by_cases h0:a = 0∨b = 0
 ·rw [if_pos h0];have:(((a.natAbs:Int) == 0) || ((b.natAbs:Int) == 0)) = true:=by simp;omega
  rw [this,cond_true]
 rw [if_neg h0]
 have h1:(((a.natAbs:Int) == 0) || ((b.natAbs:Int) == 0)) = false:=by simp;omega
 rw [h1,cond_false,gcd_ok ha hb]
 simp only [Y0]
 have gp:0 < Nat.gcd a.natAbs b.natAbs:=Y0T _ (by omega)
 rw [nz?_ok (by omega)]
 simp only [Y0]
 have hd:((a.natAbs:Int)).tdiv ((Nat.gcd a.natAbs b.natAbs:Nat):Int) = ((a.natAbs / Nat.gcd a.natAbs b.natAbs:Nat):Int):=by
  rw [Int.tdiv_eq_ediv_of_nonneg (by omega)];rfl
 have hle:a.natAbs / Nat.gcd a.natAbs b.natAbs≤a.natAbs:=Nat.div_le_self _ _
 rw [hd]
 generalize a.natAbs / Nat.gcd a.natAbs b.natAbs = q at *
 rw [u64_id (a:=(q:Int)) (by unfold In64 at ha;omega),mul64_eq (by unfold Z70;unfold In64 at ha;omega) (inU_abs hb)]
 simp only
 have hnn:0≤(q:Int) * b.natAbs:=Y0G (by omega) (by omega)
 generalize (q:Int) * b.natAbs = p at *
 by_cases hp:p / 18446744073709551616 = 0
 ·rw [Z86 hp,cond_false,Z5t _ (by unfold Z70;omega)]
  have:p % 18446744073709551616 = p:=by omega
  rw [this];rfl
 ·rw [bne_t hp,cond_true,fitS_not (by unfold In64;omega)]
end Go.Dn

namespace Go.Dn
open Go
theorem hull_eq {l:List Span} (hl:Len l):Z2f l = some (if l = [] then (⟨0,0⟩,false) else (⟨fstT l,lstT l⟩,true)):=by
 have hlen:=Z2e (b:=15) hl
 unfold Z2f
 by_cases h:l = []
 ·subst h;rfl
 ·have hp:0 < l.length:=List.length_pos_iff.2 h
  rw [if_neg h,Z4Q (by omega),cond_false,ZC (by omega)]
  have e1:at? l 0 = some (l.head h):=by
   have:=at?_nat (l:=l) (k:=0) hp
   rw [show ((0:Nat):Int) = 0 from rfl] at this
   rw [this,List.head_eq_getElem]
  have e2:at? l ((l.length:Int) - 1) = some (l.getLast h):=by
   have:=at?_nat (l:=l) (k:=l.length - 1) (by omega)
   rw [show ((l.length - 1:Nat):Int) = (l.length:Int) - 1 by omega] at this
   rw [this,List.getLast_eq_getElem]
  rw [e1,e2];simp only [Y0];unfold fstT lstT;rw [Y0A h,Y03 h]
  rfl
def spotOf (g:Form) (j:Nat):Option size_spot:=if g.Core.getD j [] = [] then none else some ⟨(j:Int),⟨fstT (g.Core.getD j []),lstT (g.Core.getD j [])⟩⟩
def spotsUp (g:Form) (k:Nat):List size_spot:=(List.range k).filterMap (spotOf g)
abbrev spotsOf (g:Form):List size_spot:=spotsUp g g.Core.length
structure Spots (g:Form) (l:List size_spot):Prop where
 mem:∀ s ∈ l,0≤s.index∧s.index < g.Count∧cs g s.index ≠ []∧s.place.first = fstT (cs g s.index)∧s.place.last = lstT (cs g s.index)
 all:∀ j,0≤j→j < g.Count→cs g j ≠ []→∃ s ∈ l,s.index = j
 inc:l.Pairwise (fun a b => a.index < b.index)
def LastC (g:Form) (t i:Int):Prop:=cs g i ≠ []∧fstT (cs g i)≤t∧∀ k,i < k→cs g k ≠ []→t < fstT (cs g k)
def FirstC (g:Form) (t i:Int):Prop:=cs g i ≠ []∧t≤lstT (cs g i)∧∀ k,k < i→cs g k ≠ []→lstT (cs g k) < t
structure Fit (g:Form):Prop where
 lim:Lim g
 shape:Shape g
 turns:Turns g
 few:g.Core.length≤12
 odds:g.Odd.length≤8
theorem Fit.per {g:Form} (h:Fit g) (h0:0 < g.Count):0 < g.Period:=by
 have h1:=h.shape.per
 have h2:=h.shape.zero
 omega
def BigT (t:Int):Prop:=-4398046511104≤t∧t≤4398046511104
end Go.Dn

namespace Go.Dn
open Go
def putB (b:Int × Bool) (n:Int):Int × Bool:=if b.2 = false∨n > b.1 then (n,true) else b
structure Best (S:Int→Prop) (b:Int × Bool):Prop where
 yes:b.2 = true→S b.1∧∀ n,S n→n≤b.1
 no:b.2 = false→b.1 = 0∧∀ n,¬ S n
theorem Best.put {S S':Int→Prop} {b:Int × Bool} {n:Int} (h:Best S b) (hS:∀ m,S' m ↔ S m∨m = n):Best S' (putB b n):=by
 unfold putB
 split
 ·rename_i hc;refine ⟨fun _ => ⟨(hS n).2 (.inr rfl),fun m hm => ?_⟩,fun h => by cases h⟩
  rcases (hS m).1 hm with h1 | h1
  ·cases hb:b.2 with
   | false => exact absurd h1 ((h.no hb).2 m)
   | true =>
    have:=(h.yes hb).2 m h1
    rcases hc with h2 | h2
    ·rw [hb] at h2;cases h2
    ·simp only;omega
  ·subst h1;exact Y0K _
 ·rename_i hc;have hb:b.2 = true:=by cases hb:b.2 <;> simp_all
  refine ⟨fun _ => ⟨(hS b.1).2 (.inl (h.yes hb).1),fun m hm => ?_⟩,fun h => by rw [hb] at h;cases h⟩
  rcases (hS m).1 hm with h1 | h1
  ·exact (h.yes hb).2 m h1
  ·subst h1;have:¬ (m > b.1):=fun h => hc (.inr h)
   omega
theorem Best.congr {S S':Int→Prop} {b:Int × Bool} (h:Best S b) (hS:∀ m,S' m ↔ S m):Best S' b :=
 ⟨fun hb => ⟨(hS _).2 (h.yes hb).1,fun n hn => (h.yes hb).2 n ((hS n).1 hn)⟩,fun hb => ⟨(h.no hb).1,fun n hn => (h.no hb).2 n ((hS n).1 hn)⟩⟩
theorem Best.none {S:Int→Prop} (h:∀ n,¬ S n):Best S (0,false):=⟨fun h => by (cases h),fun _ => ⟨rfl,h⟩⟩
end Go.Dn

namespace Go.Dn
open Go
def byU (up:Bool):Int:=if up then 1 else -1
def sgU (up:Bool):Int:=if up then -1 else 1
def AtP (g:Form) (up:Bool) (t i:Int):Prop:=ZK g i ≠ []∧(if up then t≤lstT (ZK g i) else fstT (ZK g i)≤t)
end Go.Dn

namespace Go.Dn
open Go
def CoreP (g:Form) (up:Bool) (d i j:Int):Prop:=cs g i ≠ []∧cs g j ≠ []∧(if up then d≤lstT (cs g j) - fstT (cs g i) else fstT (cs g j) - lstT (cs g i)≤d)
def Z7e (g:Form) (up:Bool) (d i j:Int):Prop:=ZK g i ≠ []∧ZK g j ≠ []∧(if up then d≤lstT (ZK g j) - fstT (ZK g i) else fstT (ZK g j) - lstT (ZK g i)≤d)
def BigI (n:Int):Prop:=-600000000000000≤n∧n≤600000000000000
end Go.Dn

namespace Go.Dn
open Go
def FewF (f:Form):Prop:=f.Core.length≤12∧f.Odd.length≤8
theorem Z6a.few {f:Form} (h:Z6a f):FewF f:=⟨h.1,h.2.1⟩
structure DownS (f:Form) (d:Int) (r:Int × Bool):Prop where
 yes:r.2 = true→(∃ i j,Z7e f false d i j∧r.1 = j - i)∧∀ i j,Z7e f false d i j→j - i≤r.1
 no:r.2 = false→∀ i j,¬ Z7e f false d i j
structure UpS (f:Form) (d:Int) (r:Int × Bool):Prop where
 yes:r.2 = true→(∃ i j,Z7e f true d i j∧r.1 = j - i)∧∀ i j,Z7e f true d i j→r.1≤j - i
 no:r.2 = false→∀ i j,¬ Z7e f true d i j
theorem down_mono {f:Form} {d d' i j:Int} (h:Z7e f false d i j) (hd:d≤d'):Z7e f false d' i j:=by
 unfold Z7e at *
 simp only [YA,if_false] at *
 exact ⟨h.1,h.2.1,by omega⟩
noncomputable def bad (low high:Bound):Bool:=(((!(Z0v low)) || (!(Z0v high))) || (low.Inf == 1)) || (high.Inf == (-1))
structure RangeS (f:Form) (low high:Bound) (r:Range) (ok:Bool):Prop where
 none:ok = false→r = Range.mk 0 0 false false
 hi:ok = true→(r.HasHigh = true ↔ high.Inf = 0∧high.N≤1099511627776)
 lo:ok = true→(r.HasLow = true ↔ low.Inf = 0∧-1099511627776≤low.N)
 atH:ok = true→r.HasHigh = true→DownS f (max high.N (-1099511627776)) (r.High,true)
 atL:ok = true→r.HasLow = true→UpS f (min low.N 1099511627776) (r.Low,true)
 nhi:ok = true→r.HasHigh = false→r.High = 0
 nlo:ok = true→r.HasLow = false→r.Low = 0
 not:ok = false→(high.Inf = 0∧high.N≤1099511627776∧∀ i j,¬ Z7e f false (max high.N (-1099511627776)) i j)∨(low.Inf = 0∧-1099511627776≤low.N∧∀ i j,¬ Z7e f true (min low.N 1099511627776) i j)
def Near (f:Form) (m d:Int):Prop:=∃ i j,Z7e f false d i j∧m≤j - i
theorem Near.mono {f:Form} {m m' d d':Int} (h:Near f m d) (hm:m'≤m) (hd:d≤d'):Near f m' d':=by
 obtain ⟨i,j,h1,h2⟩:=h
 exact ⟨i,j,down_mono h1 hd,by omega⟩
def farI (m:Int):Int:=min (max m (-4611686018427387904)) 4611686018427387904
def LowD (f:Form) (m d:Int):Prop:=-1099511627776≤d∧d≤1099511627776∧(∀ z,-1099511627776≤z→z < d→¬ Near f m z)∧(d < 1099511627776→Near f m d)
def boundD (d:Int):Bound:=if d = -1099511627776 then ⟨-1,0⟩ else ⟨0,d⟩
theorem LowD.mono {f:Form} {m m' d d':Int} (h:LowD f m d) (h':LowD f m' d') (hm:m≤m'):d≤d':=by
 obtain ⟨a1,a2,a3,a4⟩:=h
 obtain ⟨b1,b2,b3,b4⟩:=h'
 by_cases hd:d≤d'
 ·exact hd
 ·exact absurd ((b4 (by omega)).mono hm (Y0K _)) (a3 d' b1 (by omega))
def boundH (d:Int):Bound:=if d = -1099511627776 then ⟨1,0⟩ else ⟨0,-d⟩
def goodB (x:Bound):Prop:=Z0v x = true∧x.N≤1099511627776∧-1099511627776≤x.N
end Go.Dn

namespace Go.Dn
open Go
def bareF (f:Form):Form:=Form.mk f.Period f.Count f.Core []
def Bears (f:Form) (i t:Int):Prop:=ZG i∧fits f i∧∃ s ∈ ZK f i,s.From≤t∧t≤s.To
theorem Bears.ends {f:Form} (hs:Shape f) {i t:Int} (h:Bears f i t):ZK f i ≠ []∧fstT (ZK f i)≤t∧t≤lstT (ZK f i)∧ZG t:=by
 obtain ⟨h1,h2,s,h3,h4,h5⟩:=h
 have hr:=Z7y hs h2
 have hn:ZK f i ≠ []:=fun e => by rw [e] at h3;cases h3
 obtain ⟨k,hk,he⟩:=Yj h3
 have hlt:=hk
 have key:fstT (ZK f i)≤s.From∧s.To≤lstT (ZK f i):=by
  have h0:∀ (l:List Span),RightL l→∀ (s:Span),s ∈ l→fstT l≤s.From∧s.To≤lstT l:=by
   intro l
   induction l with
   | nil => intro _ s hs;cases hs
   | cons a l ih =>
    intro hr s hs;have ha:=hr.ok 0 a rfl
    have e1:fstT (a :: l) = a.From:=rfl
    cases l with
    | nil =>
     rw [YF] at hs;subst hs;exact ⟨by rw [e1];omega,by show s.To≤s.To;omega⟩
    | cons b l =>
     have hg:=hr.gap 0 a b rfl rfl
     have e2:lstT (a :: b :: l) = lstT (b :: l):=by unfold lstT;rw [List.getLast?_cons_cons]
     have hrt:=hr.tail
     rcases List.mem_cons.1 hs with rfl | hs
     ·have:=ih hrt b (by simp)
      have hb:=hrt.ok 0 b rfl
      refine ⟨by rw [e1];omega,by rw [e2];omega⟩
     ·have:=ih hrt s hs
      have e3:fstT (b :: l) = b.From:=rfl
      rw [e3] at this;refine ⟨by rw [e1];omega,by rw [e2];exact this.2⟩
  exact h0 _ hr s h3
 have hl:=ZAG hr hn
 unfold ZG at *
 exact ⟨hn,by omega,by omega,by omega⟩
end Go.Dn

namespace Go.Dn
open Go
theorem canon_same {f h:Form} (hlf:Lim f) (hlh:Lim h) (sf:Shape f) (sh:Shape h) (hc:csz h = csz f) (ha:ZK h = ZK f):ZT h = ZT f:=by
 have bare:∀ {f:Form},Shape f→(Bare f ↔ ∀ i,csz f i = []):=fun {f} hs => by
  constructor
  ·exact fun hb i => csz_bare hs hb i
  ·intro h
   by_cases hb:Bare f
   ·exact hb
   ·exfalso
    have h0:0 < f.Count:=by
     have hcnt:=hs.count
     by_cases h0:f.Core = []
     ·exact absurd (fun l hl => by rw [h0] at hl;cases hl) hb
     ·have:=List.length_pos_iff.2 h0;omega
    obtain ⟨i,_,_,i3⟩:=cs_some hs hb h0 0
    have:=h i
    rw [Z0r h0] at this;exact i3 this
 have mem:∀ {f c:Form},Shape f→∀ x:Granule,x ∈ (Z1T f c).Odd ↔ ZG x.Index∧ZK f x.Index = x.Ticks∧csz f x.Index ≠ x.Ticks∧Z2y f x.Index:=fun {f c} hs x => by
  rw [Z2a,Z8Z]
  constructor
  ·rintro ⟨h1,h2⟩;exact ⟨(hs.odd x h1).2,Z0q hs.inc h1,h2,⟨x,h1,rfl⟩⟩
  ·rintro ⟨_,h1,h2,⟨y,hy,e⟩⟩;have h3:=Z0q hs.inc hy
   rw [e,h1] at h3;have:x = y:=by rw [ZBc];exact ⟨e.symm,h3⟩
   rw [this];refine ⟨hy,?_⟩;rw [← this];exact h2
 have odd_of:∀ {f:Form} {i:Int} {l:List Span},ZK f i = l→csz f i ≠ l→Z2y f i:=fun {f i l} h1 h2 => Classical.byContradiction fun ho => h2 (by rw [← Z2r ho,h1])
 obtain ⟨c,c1,c2⟩:=Z1a hlf sf
 obtain ⟨d,d1,d2⟩:=Z1a hlh sh
 have e:d = c:=coreOf_eq sh sf hc (by rw [bare sh,bare sf,hc]) d1 c1
 subst e
 rw [c2,d2]
 have ho:(Z1T h d).Odd = (Z1T f d).Odd:=by
  refine inc_ext (Z5R.1 (sh.inc.filter _)) (Z5R.1 (sf.inc.filter _)) fun x => ?_
  rw [mem sh,mem sf,hc,ha]
  constructor
  ·rintro ⟨h1,h2,h3,_⟩;exact ⟨h1,h2,h3,odd_of h2 h3⟩
  ·rintro ⟨h1,h2,h3,_⟩;have h2':ZK h x.Index = x.Ticks:=by rw [ha];exact h2
   have h3':csz h x.Index ≠ x.Ticks:=by rw [hc];exact h3
   exact ⟨h1,h2,h3,odd_of h2' h3'⟩
 congr 1
 rw [Z74]
 exact ⟨rfl,rfl,rfl,ho⟩
noncomputable def shiftF (f:Form) (m:Int):Form:=Form.mk f.Period f.Count ((List.range f.Core.length).map fun (j:Nat) => csz f ((j:Int) - m)) (f.Odd.map fun g => Granule.mk (g.Index + m) g.Ticks)
theorem raw_eq {f:Form} (hl:Lim f) (hs:Shape f) {i:Int} (hi:In64 i):(Z0k f i = some (csz f i,0)∧(∀ s ∈ csz f i,ZG s.From∧ZG s.To)∧Len (csz f i))∨Z0k f i = some ([],20):=by
 unfold Z0k
 have hcnt:=hs.count
 have len0:Len ([] : List Span):=by show ([] : List Span).length * 16≤reachBytes;simp
 by_cases h0:f.Count = 0
 ·rw [Z98 h0,cond_true];have:csz f i = []:=if_pos h0
  rw [this];exact .inl ⟨rfl,by simp,len0⟩
 ·have hp:0 < f.Count:=by omega
  rw [Z4Q h0,cond_false,Z1Z hi hl.count,Z3I hp];simp only [Y0];obtain ⟨c1,c2⟩:=Z0E hs h0 i
  rw [c1];simp only [Y0];have hcsz:csz f i = (Z03 f i).map (ZU (i / f.Count * f.Period)):=by rw [Z0r hp];rfl
  by_cases hn:Z03 f i = []
  ·rw [hcsz,hn];exact .inl ⟨rfl,by simp,len0⟩
  ·have hlen:¬ ((Z03 f i).length:Int) = 0:=by have:=List.length_pos_iff.2 hn;omega
   rw [Z4Q hlen,cond_false];have hq:In64 (i / f.Count):=by
    unfold In64 at hi ⊢;have q1:i / f.Count≤9223372036854775807:=Yx hp (by
     have:(9223372036854775807:Int) * 1≤9223372036854775807 * f.Count:=YD (by omega) (by decide)
     omega)
    have q2 : -9223372036854775808≤i / f.Count:=Y06 hp (by
     have:(9223372036854775808:Int) * 1≤9223372036854775808 * f.Count:=YD (by omega) (by decide)
     omega)
    exact ⟨q2,q1⟩
   rw [Z2V hq hl.period]
   rcases Z7Q (i / f.Count * f.Period) with ⟨f1,f2⟩ | ⟨f1,f2⟩
   ·rw [f2];simp only [bne_self_eq_false,Y0h,cond_false]
    rcases Z4u (hl.sets _ c2).1 (hl.sets _ c2).2 f1 with ⟨m1,m2⟩ | ⟨m1,m2⟩
    ·rw [m2]
     left
     rw [hcsz];refine ⟨rfl,fun s hs' => ?_,by unfold Len;rw [YY];exact (hl.sets _ c2).1⟩
     obtain ⟨x,hx,rfl⟩:=List.mem_map.1 hs'
     exact m1 x hx
    ·rw [m2];exact .inr rfl
   ·rw [f2];exact .inr rfl
structure Bnd (f:Form):Prop where
 core:f.Core.length≤12
 odd:f.Odd.length≤8
 sets:∀ l ∈ f.Core,l.length≤720
 ticks:∀ g ∈ f.Odd,g.Ticks.length≤720
theorem ZBD {α:Type} (g:α→Nat):∀ {l:List α} {x:α},x ∈ l→g x≤(l.map g).sum
 | y :: l,x,h => by
  rw [Y0B,List.sum_cons]
  rcases List.mem_cons.1 h with rfl | h
  ·omega
  ·have:=ZBD g h;omega
theorem sum_le {α:Type} (g:α→Nat) {b:Nat}:∀ {l:List α},(∀ x ∈ l,g x≤b)→(l.map g).sum≤l.length * b
 | [],_ => by simp
 | y :: l,h => by
  rw [Y0B,List.sum_cons,Yv,Yl];have h1:=h y YG
  have h2:=sum_le g (l:=l) (b:=b) fun x hx => h x (YH _ hx)
  omega
theorem Z6a.bnd {f:Form} (h:Z6a f):Bnd f:=by
 obtain ⟨h1,h2,h3⟩:=h
 unfold Z5u at h3
 refine ⟨h1,h2,fun l hl => ?_,fun g hg => ?_⟩
 ·have:=ZBD List.length hl;omega
 ·have:=ZBD (fun g:Granule => g.Ticks.length) hg;omega
theorem Bnd.short {f:Form} (h:Bnd f):¬ Z4z f:=by
 have h1:=sum_le List.length h.sets
 have h2:=sum_le (fun g:Granule => g.Ticks.length) h.ticks
 have h3:=h.core
 have h4:=h.odd
 unfold Z4z Z5u
 have h5:f.Core.length * 720≤12 * 720:=YL _ h3
 have h6:f.Odd.length * 720≤8 * 720:=YL _ h4
 omega
theorem canonF_bnd {f c:Form} (h:Bnd f) (hc:Z1V f c):Bnd (Z1T f c):=by
 have hcore:c.Core.length≤12∧∀ l ∈ c.Core,l.length≤720:=by
  rcases hc with ⟨_,rfl⟩ | ⟨_,_,d,_,_,rfl⟩
  ·exact ⟨by simp,by simp⟩
  ·refine ⟨Yd (List.length_take_le' _ _) h.core,fun l hl => h.sets l (Yq hl)⟩
 exact ⟨hcore.1,Yd (Y0O _ _) h.odd,hcore.2,fun g hg => h.ticks g (List.mem_filter.1 hg).1⟩
end Go.Dn

namespace Go.Dn
open Go
theorem right13_eq {f:Form} (hl:Lim f):∃ b,Z19 f = some b∧(b = true ↔ Z6a f∧RightF f):=by
 unfold Z19
 obtain ⟨b,hb,hbs⟩:=Z8o hl
 rw [hb]
 simp only [Y0]
 cases b with
 | false => exact ⟨false,rfl,fun h => (by cases h),fun h => by have:=hbs.2 h.1;cases this⟩
 | true =>
  have hsm:=hbs.1 rfl
  have hnl:¬ Z4z f:=by unfold Z4z;have:=hsm.1;have:=hsm.2.1;have:=hsm.2.2;omega
  rw [cond_true]
  rcases Z6Q hl with ⟨h,_⟩ | ⟨_,h1,h2⟩ | ⟨_,h1,h2⟩
  ·exact absurd h hnl
  ·rw [h2];exact ⟨true,rfl,fun _ => ⟨hsm,h1⟩,fun _ => rfl⟩
  ·rw [h2];exact ⟨false,rfl,fun h => (by cases h),fun h => absurd h.2 h1⟩
end Go.Dn

namespace Go.Dn
open Go
def seam (x s:Span):List Span:=if s.From = x.To + 1 then [⟨x.From,s.To⟩] else [x,s]
def glue (out l:List Span):List Span :=
 match out.getLast?,l with
 | some x,s :: l' => out.dropLast ++ (seam x s ++ l')
 | _,_ => out ++ l
theorem Z4B (a:List Span):glue a [] = a:=by
 unfold glue
 cases h:a.getLast? <;> simp
theorem Z3D (b:List Span):glue [] b = b:=by
 unfold glue
 cases b <;> simp
theorem Z2I (a:List Span) (x s:Span) (l:List Span):glue (a ++ [x]) (s :: l) = a ++ (seam x s ++ l):=by
 unfold glue
 simp
theorem Z4t {a:List Span} (h:a ≠ []):∃ b x,a = b ++ [x]:=⟨a.dropLast,a.getLast h,(List.dropLast_concat_getLast h).symm⟩
theorem glue_ne {a b:List Span}:glue a b = [] ↔ a = []∧b = []:=by
 by_cases ha:a = []
 ·subst ha;rw [Z3D];simp
 ·obtain ⟨a',x,rfl⟩:=Z4t ha
  cases b with
  | nil => rw [Z4B];simp
  | cons s l =>
   rw [Z2I];unfold seam
   split <;> simp
def gl (h:Int→List Span) (a:Int):Nat→List Span
 | 0 => []
 | n + 1 => glue (gl h a n) (h (a + n))
theorem gl_congr {h g:Int→List Span} {a b:Int} {n:Nat} (he:∀ j:Nat,j < n→h (a + j) = g (b + j)):gl h a n = gl g b n:=by
 induction n with
 | zero => rfl
 | succ n ih =>
  show glue (gl h a n) (h (a + n)) = glue (gl g b n) (g (b + n))
  rw [ih fun j hj => he j (by omega),he n (by omega)]
theorem gl_one (h:Int→List Span) (a:Int):gl h a 1 = h a:=by
 show glue [] (h (a + 0)) = h a
 rw [Z3D,Int.add_zero]
theorem seam_shift (d:Int) (x s:Span):seam (ZU d x) (ZU d s) = (seam x s).map (ZU d):=by
 unfold seam
 by_cases h:s.From = x.To + 1
 ·rw [if_pos h,if_pos (by unfold ZU;simp only;omega)];rfl
 ·rw [if_neg h,if_neg (by unfold ZU;simp only;omega)];rfl
theorem glue_shift (d:Int) (a b:List Span):glue (a.map (ZU d)) (b.map (ZU d)) = (glue a b).map (ZU d):=by
 by_cases ha:a = []
 ·subst ha;rw [Z3D,List.map_nil,Z3D]
 ·obtain ⟨a',x,rfl⟩:=Z4t ha
  cases b with
  | nil => rw [Z4B,List.map_nil,Z4B]
  | cons s l =>
   rw [Z2I,Y00,Y0B,List.map_nil,Y0B,Z2I,seam_shift,Y00,Y00]
theorem gl_shift {h:Int→List Span} {d p:Int} (hp:∀ i,h (i + p) = (h i).map (ZU d)) (a:Int):∀ n:Nat,gl h (a + p) n = (gl h a n).map (ZU d)
 | 0 => rfl
 | n + 1 => by
  show glue (gl h (a + p) n) (h (a + p + n)) = (glue (gl h a n) (h (a + n))).map (ZU d)
  rw [gl_shift hp a n,show a + p + (n:Int) = a + n + p by omega,hp,glue_shift]
theorem glue_len (a b:List Span):(glue a b).length≤a.length + b.length:=by
 by_cases ha:a = []
 ·subst ha;rw [Z3D];simp
 ·obtain ⟨a',x,rfl⟩:=Z4t ha
  cases b with
  | nil => rw [Z4B];simp
  | cons s l =>
   rw [Z2I];unfold seam
   split <;> simp <;> omega
end Go.Dn

namespace Go.Dn
open Go
def Z0V (l:List Span):Prop:=∀ s ∈ l,ZG s.From∧ZG s.To
theorem ZCM {a b:List Span} (ha:Z0V a) (hb:Z0V b):Z0V (glue a b):=by
 by_cases h:a = []
 ·subst h;rw [Z3D];exact hb
 ·obtain ⟨a',x,rfl⟩:=Z4t h
  cases b with
  | nil => rw [Z4B];exact ha
  | cons s l =>
   rw [Z2I];intro t ht;have hx:=ha x (by simp)
   have hs:=hb s (by simp)
   rcases List.mem_append.1 ht with h1 | h1
   ·exact ha t (Yf _ h1)
   ·rcases List.mem_append.1 h1 with h2 | h2
    ·unfold seam at h2
     split at h2
     ·rw [YF] at h2;subst h2;exact ⟨hx.1,hs.2⟩
     ·rcases List.mem_cons.1 h2 with rfl | h2
      ·exact hx
      ·rw [YF] at h2;subst h2;exact hs
    ·exact hb t (YH _ h2)
theorem at?_last {a:List Span} {x:Span}:at? (a ++ [x]) (((a ++ [x]).length:Int) - 1) = some x:=by
 have h:=at?_nat (l:=a ++ [x]) (k:=a.length) (by simp)
 have e:(((a ++ [x]).length:Int) - 1) = (a.length:Int):=by simp
 rw [e,h]
 simp
theorem b0_eq {out l:List Span} {e:Int} (ho:out.length≤4000000) (hl:l.length≤4000000) (to:Z0V out) (tl:Z0V l):Zg.b0 (out,e) (l,0) = some ((glue out l,e),0):=by
 have hr:=Z4m
 unfold Zg.b0
 simp only [bne_self_eq_false,cond_false]
 by_cases h:out = []
 ·subst h;rw [ZW (show ¬ ((([] : List Span).length:Int) > 0) by simp)]
  simp only [Y0m,cond_false,Y0];rw [app?_ok (by simp only [Yt];omega)]
  simp only [Y0,Jx.elim,Z3D,List.nil_append]
 ·obtain ⟨a',x,rfl⟩:=Z4t h
  have hlen:((a' ++ [x]).length:Int) = a'.length + 1:=by simp
  have hlenN:(a' ++ [x]).length = a'.length + 1:=by simp
  cases l with
  | nil =>
   rw [ZW (show ¬ ((([] : List Span).length:Int) > 0) by simp)]
   simp only [Bool.and_false,cond_false,Y0];rw [app?_ok (by simp only [Yt];omega)]
   simp only [Y0,Jx.elim,Z4B,YQ]
  | cons s l =>
   have hll:(s :: l).length = l.length + 1:=rfl
   have tx:=to x (by simp)
   unfold ZG at tx;rw [ZX (show ((a' ++ [x]).length:Int) > 0 by omega),ZX (show (((s :: l).length:Nat):Int) > 0 by rw [hll];omega)]
   simp only [Y0P,cond_true];have e1:at? (s :: l) 0 = some s:=rfl
   have e2:at? (a' ++ [x]) (w64 (((a' ++ [x]).length:Int) - 1)) = some x:=by rw [ZC (by omega),at?_last]
   rw [e1];simp only [Y0];rw [e2];simp only [Y0];rw [ZC (x:=x.To + 1) (by omega)]
   by_cases hc:s.From = x.To + 1
   ·rw [Z98 hc];simp only [cond_true];have e3:cut? (s :: l) 1 (((s :: l).length:Nat):Int) = some l:=by
     unfold cut?;rw [if_pos (by rw [hll];omega)]
     simp
    rw [e3];simp only [Y0];have e4:(a' ++ [x]).set (w64 (((a' ++ [x]).length:Int) - 1)).toNat (Span.mk x.From s.To) = a' ++ [Span.mk x.From s.To]:=by
     rw [ZC (by omega),hlen,show ((a'.length:Int) + 1 - 1).toNat = a'.length by omega]
     simp
    rw [e4,app?_ok (by
     have:(a' ++ [Span.mk x.From s.To]).length = a'.length + 1:=by simp
     omega)]
    simp only [Y0,Jx.elim,Z2I];unfold seam;rw [if_pos hc]
    simp
   ·rw [Z4Q hc];simp only [cond_false,Y0];rw [app?_ok (by omega)]
    simp only [Y0,Jx.elim,Z2I];unfold seam;rw [if_neg hc]
    simp
theorem ZAO {h:Int→List Span} {a:Int} {B:Nat}:∀ {n:Nat},(∀ j:Nat,j < n→(h (a + j)).length≤B∧Z0V (h (a + j)))→(gl h a n).length≤n * B∧Z0V (gl h a n)
 | 0,_ => ⟨by simp [gl],fun s hs => by cases hs⟩
 | n + 1,hh => by
  obtain ⟨h1,h2⟩:=ZAO (n:=n) fun j hj => hh j (by omega)
  obtain ⟨h3,h4⟩:=hh n (by omega)
  refine ⟨?_,ZCM h2 h4⟩;have:=glue_len (gl h a n) (h (a + n))
  show (glue (gl h a n) (h (a + n))).length≤(n + 1) * B
  rw [Yl];omega
theorem ZBb {tell:Int→Option (List Span × Int)} {h:Int→List Span} {a:Int} {m B:Nat} (hm:m * B≤4000000) (hm2:m≤4000000) (hB:B≤4000000) (ha : -4611686018427387904≤a∧a≤4611686018427387904)
  (ht:∀ j:Nat,j < m→(tell (a + j) = some (h (a + j),0)∧(h (a + j)).length≤B∧Z0V (h (a + j)))∨tell (a + j) = some ([],20)) :
  (Zg tell a m = some (gl h a m,0)∧∀ j:Nat,j < m→(h (a + j)).length≤B∧Z0V (h (a + j))∧tell (a + j) = some (h (a + j),0)) ∨
  (Zg tell a m = some ([],20)∧∃ j:Nat,j < m∧tell (a + j) = some ([],20)):=by
 obtain ⟨r,q1,q2⟩:=Z14 (step:=Z0L.s0 m tell a (Z1J Zg.b0))
  (fun s => ∃ k:Nat,k≤m∧s = ((k:Int),((gl h a k,0),0))∧∀ j:Nat,j < k→(h (a + j)).length≤B∧Z0V (h (a + j))∧tell (a + j) = some (h (a + j),0))
  (fun s => m - s.1.toNat)
  (fun r => (r = .go ((gl h a m,0),0)∧∀ j:Nat,j < m→(h (a + j)).length≤B∧Z0V (h (a + j))∧tell (a + j) = some (h (a + j),0))∨((∃ o,r = .ret ((o,20),1))∧∃ j:Nat,j < m∧tell (a + j) = some ([],20))) (by
   rintro s ⟨k,hk,rfl,hall⟩;unfold Z0L.s0;simp only
   by_cases hlt:k < m
   ·rw [ZX (show (k:Int) < m by omega),cond_true,ZC (x:=a + (k:Int)) (by omega)]
    rcases ht k hlt with ⟨t1,t2,t3⟩ | t1
    ·left
     rw [t1];obtain ⟨g1,g2⟩:=ZAO (B:=B) (n:=k) fun j hj => ⟨(hall j hj).1,(hall j hj).2.1⟩
     have hkB:k * B≤m * B:=YL _ hk
     simp only [Y0,Z1J,if_true];rw [b0_eq (by omega) (by omega) g2 t3]
     simp only [Y8,Y0,beq_self_eq_true,Yg,cond_false];rw [ZC (x:=(k:Int) + 1) (by omega)]
     refine ⟨_,rfl,⟨k + 1,hlt,by push_cast;rfl,fun j hj => ?_⟩,by simp only;omega⟩
     by_cases hjk:j = k
     ·subst hjk;exact ⟨t2,t3,t1⟩
     ·exact hall j (by omega)
    ·right
     rw [t1];exact ⟨_,rfl,.inr ⟨⟨_,rfl⟩,k,hlt,t1⟩⟩
   ·right
    obtain rfl:k = m:=by omega
    rw [ZW (by omega),cond_false]
    exact ⟨_,rfl,.inl ⟨rfl,hall⟩⟩) (0,(([],0),0)) ⟨0,YX _,rfl,fun j hj => absurd hj (Nat.not_lt_zero _)⟩
 unfold Zg Z0L
 simp only [Y0]
 rw [q1]
 rcases q2 with ⟨rfl,h1⟩ | ⟨⟨o,rfl⟩,h1⟩
 ·exact .inl ⟨rfl,h1⟩
 ·exact .inr ⟨rfl,h1⟩
end Go.Dn

namespace Go.Dn
open Go
structure BndB (f:Form) (B:Nat):Prop where
 core:f.Core.length≤12
 odd:f.Odd.length≤8
 sets:∀ l ∈ f.Core,l.length≤B
 ticks:∀ g ∈ f.Odd,g.Ticks.length≤B
theorem Bnd.b {f:Form} (h:Bnd f):BndB f 720:=⟨h.core,h.odd,h.sets,h.ticks⟩
theorem BndB.small {f:Form} {B:Nat} (h:BndB f B) (hB:B≤720):Bnd f:=⟨h.core,h.odd,fun l hl => Yd (h.sets l hl) hB,fun g hg => Yd (h.ticks g hg) hB⟩
theorem Z6a.b60 {f:Form} (h:Z6a f):BndB f 60:=by
 obtain ⟨h1,h2,h3⟩:=h
 unfold Z5u at h3
 refine ⟨h1,h2,fun l hl => ?_,fun g hg => ?_⟩
 ·have:=ZBD List.length hl;omega
 ·have:=ZBD (fun g:Granule => g.Ticks.length) hg;omega
theorem csz_lenB {f:Form} {B:Nat} (hs:Shape f) (h:BndB f B) (i:Int):(csz f i).length≤B:=by
 unfold csz
 by_cases h0:f.Count = 0
 ·rw [if_pos h0];simp
 ·rw [if_neg h0];unfold cs;rw [YY];exact h.sets _ (Z0E hs h0 i).2
theorem setAt_lenB {f:Form} {B:Nat} (hs:Shape f) (h:BndB f B) (i:Int):(ZK f i).length≤B:=by
 by_cases ho:Z2y f i
 ·obtain ⟨x,hx,rfl⟩:=ho
  rw [Z0q hs.inc hx];exact h.ticks x hx
 ·rw [Z2r ho];exact csz_lenB hs h i
theorem rounds_eq {f:Form} (hs:Shape f) (h12:f.Core.length≤12) (h0:0 < f.Count) {m:Nat} (m1:1≤m) (m2:m≤6000):∃ u v:Nat,Z1Y f m = some ((v:Int),f.Count * u)∧f.Count * (u:Int) = v * m∧1≤u∧u≤m∧1≤v∧v≤12:=by
 have hcnt:=hs.count
 unfold Z1Y
 rw [Z4Q (show ¬ f.Count = 0 by omega),cond_false,Z7o (by unfold In64;omega) (by unfold In64;omega)]
 simp only [Y0]
 obtain ⟨c,hc⟩ : ∃ c:Nat,f.Count = c:=⟨f.Core.length,hcnt⟩
 rw [hc] at h0 ⊢
 have hcl:c≤12:=by omega
 unfold lcmS
 rw [if_neg (by omega)]
 simp only [Y0r]
 have g0:0 < Nat.gcd c m:=Y0T _ (by omega)
 obtain ⟨v,hv⟩:=Y13 c m
 obtain ⟨u,hu⟩:=Nat.gcd_dvd_right c m
 generalize Nat.gcd c m = g at *
 have e1:c / g = v:=by rw [hv];exact Y0o v g0
 rw [e1]
 have v1:1≤v:=by
  rcases Y0Z v with h | h
  ·rw [h] at hv;omega
  ·exact h
 have u1:1≤u:=by
  rcases Y0Z u with h | h
  ·rw [h] at hu;omega
  ·exact h
 have vle:v≤c:=by rw [hv];exact Y0H v g0
 have ule:u≤m:=by rw [hu];exact Y0H u g0
 have e2:v * m = c * u:=by rw [hu,hv];exact (by rw [Y0s v,Y0W,Y0s u,← Y0W])
 have hb:v * m≤12 * 6000:=Y07 (by omega) m2
 have e3:((v:Int) * (m:Int)) = ((v * m:Nat):Int):=by push_cast;rfl
 rw [e3,ZA0 (by unfold In64;omega)]
 simp only
 rw [nz?_ok (show (m:Int) ≠ 0 by omega)]
 simp only [Y0]
 have e4:((v * m:Nat):Int).tdiv (m:Int) = (v:Int):=by
  push_cast
  exact Int.mul_tdiv_cancel _ (by omega)
 rw [e4,ZC (by omega)]
 refine ⟨u,v,?_,?_,u1,ule,v1,by omega⟩
 ·rw [e2];push_cast;rfl
 ·have:=congrArg (fun n:Nat => (n:Int)) e2
  push_cast at this
  exact this.symm
theorem sum_loop {f:Form} {B:Nat} (h12:f.Core.length≤12) (hB:B≤8640) (hs:∀ l ∈ f.Core,l.length≤B):∃ z,loopO (Ze.s0 f) (0,0) = some z∧0≤z∧z≤12 * B:=by
 obtain ⟨r,q1,q2⟩:=Z14 (step:=Ze.s0 f) (fun s => ∃ (k z:Nat),k≤f.Core.length∧s = ((z:Int),(k:Int))∧z≤k * B) (fun s => f.Core.length - s.2.toNat) (fun r => 0≤r∧r≤12 * B) (by
  rintro s ⟨k,z,hk,rfl,hz⟩;unfold Ze.s0;simp only
  by_cases hlt:k < f.Core.length
  ·left
   rw [ZX (show (k:Int) < f.Core.length by omega),cond_true,at?_nat hlt]
   simp only [Y0];have hk12:k * B≤12 * B:=YL _ (by omega)
   have hlen:=hs _ (YW hlt)
   rw [ZC (x:=(k:Int) + 1) (by omega),ZC (x:=(z:Int) + (f.Core[k].length:Int)) (by omega)]
   exact ⟨_,rfl,⟨k + 1,z + f.Core[k].length,hlt,by push_cast;rfl,by rw [Yl];omega⟩,by simp only;omega⟩
  ·right
   have hk12:k * B≤12 * B:=YL _ (by omega)
   rw [ZW (by omega),cond_false]
   exact ⟨_,rfl,by omega,by omega⟩) (0,0) ⟨0,0,YX _,rfl,by simp⟩
 exact ⟨r,q1,q2⟩
noncomputable def Z4M (f:Form) (m v:Nat):List (List Span):=(List.range v).map fun (i:Nat) => gl (csz f) ((i:Int) * m) m
theorem raw_tell {f:Form} {B:Nat} (hl:Lim f) (hs:Shape f) (hb:BndB f B) {i:Int} (hi:In64 i):(Z0R i f = some (csz f i,0)∧(csz f i).length≤B∧Z0V (csz f i))∨Z0R i f = some ([],20):=by
 unfold Z0R
 rcases raw_eq hl hs hi with ⟨e,t,_⟩ | e
 ·rw [e];exact .inl ⟨rfl,csz_lenB hs hb i,t⟩
 ·rw [e];exact .inr rfl
theorem get_tell {f:Form} {B:Nat} (hl:Lim f) (hs:Shape f) (hb:BndB f B) {i:Int} (hi:In64 i):(Z0T i f = some (ZK f i,0)∧(ZK f i).length≤B∧Z0V (ZK f i))∨Z0T i f = some ([],20):=by
 unfold Z0T
 rw [Z54 hl hs hi]
 by_cases h:ZG i∧fits f i
 ·rw [if_pos h];exact .inl ⟨rfl,setAt_lenB hs hb i,h.2⟩
 ·rw [if_neg h];exact .inr rfl
theorem plain_core {f:Form} {B:Nat} (hl:Lim f) (hs:Shape f) (hb:BndB f B) {m u v:Nat} {p:Int} (m1:1≤m) (m2:m≤200) (hB:B≤8640) (hv:v≤12) (hp:(Z7 f.Period (w64 ((f.Count * (u:Int)).tdiv f.Count))).1 = p) :
  (loopO (Ze.s1 f m ((v:Int),f.Count * u)) (0,[]) = some (.go (Z4M f m v,p))∧∀ l ∈ Z4M f m v,l.length≤m * B∧Z0V l)∨(loopO (Ze.s1 f m ((v:Int),f.Count * u)) (0,[]) = some (.ret 20)∧∃ i j:Nat,i < v∧j < m∧Z0R ((i:Int) * m + j) f = some ([],20)):=by
 have hmB:m * B≤200 * 8640:=Y07 m2 hB
 obtain ⟨r,q1,q2⟩:=Z14 (step:=Ze.s1 f m ((v:Int),f.Count * u))
  (fun s => ∃ k:Nat,k≤v∧s = ((k:Int),Z4M f m k)∧∀ l ∈ Z4M f m k,l.length≤m * B∧Z0V l)
  (fun s => v - s.1.toNat)
  (fun r => (r = .go (Z4M f m v,p)∧∀ l ∈ Z4M f m v,l.length≤m * B∧Z0V l)∨(r = .ret 20∧∃ i j:Nat,i < v∧j < m∧Z0R ((i:Int) * m + j) f = some ([],20))) (by
   rintro s ⟨k,hk,rfl,hall⟩;unfold Ze.s1;simp only
   by_cases hlt:k < v
   ·have hkm:(k:Int) * m≤12 * 200:=by
     have:k * m≤12 * 200:=Y07 (by omega) m2
     have e:(k:Int) * m = ((k * m:Nat):Int):=by push_cast;rfl
     rw [e];omega
    have hkm0:0≤(k:Int) * m:=Y0G (by omega) (by omega)
    rw [ZX (show (k:Int) < v by omega),cond_true,ZC (x:=(k:Int) * m) (by omega)]
    rcases ZBb (tell:=fun z0 => Z0R z0 f) (h:=csz f) (a:=(k:Int) * m) (m:=m) (B:=B) (by omega) (by omega) (by omega) (by omega) (fun j hj => raw_tell hl hs hb (by unfold In64;omega)) with ⟨g1,g2⟩ | ⟨g1,j,g2,g3⟩
    ·left
     rw [g1];simp only [Y0,bne_self_eq_false,cond_false];have hlen:(Z4M f m k).length = k:=by unfold Z4M;rw [YY,Y0C]
     rw [app?_ok (by
      have:=Z4m
      simp only [Y05];omega)]
     simp only [Y0];rw [ZC (x:=(k:Int) + 1) (by omega)]
     have e:Z4M f m k ++ [gl (csz f) ((k:Int) * m) m] = Z4M f m (k + 1):=by unfold Z4M;rw [List.range_succ,Y00];rfl
     refine ⟨_,rfl,⟨k + 1,hlt,by rw [e];push_cast;rfl,fun l hl' => ?_⟩,by simp only;omega⟩
     rw [← e] at hl'
     rcases List.mem_append.1 hl' with h | h
     ·exact hall l h
     ·rw [YF] at h;subst h;exact ZAO (B:=B) (n:=m) fun j hj => ⟨(g2 j hj).1,(g2 j hj).2.1⟩
    ·right
     rw [g1];exact ⟨_,rfl,.inr ⟨rfl,k,j,hlt,g2,g3⟩⟩
   ·right
    obtain rfl:k = v:=by omega
    rw [ZW (by omega),cond_false,hp]
    exact ⟨_,rfl,.inl ⟨rfl,hall⟩⟩) (0,[]) ⟨0,YX _,rfl,by simp [Z4M]⟩
 rcases q2 with ⟨rfl,h⟩ | ⟨rfl,h⟩
 ·exact .inl ⟨q1,h⟩
 ·exact .inr ⟨q1,h⟩
structure PlainG (f:Form) (m B:Nat) (g:Form):Prop where
 odd:g.Odd = []
 zero:f.Count = 0→g = Form.mk 0 0 [] []
 some:0 < f.Count→∃ u v:Nat,f.Count * (u:Int) = v * m∧1≤u∧u≤m∧1≤v∧v≤12∧g = Form.mk (f.Period * u) v (Z4M f m v) []
 sets:∀ l ∈ g.Core,l.length≤m * B∧Z0V l
 few:g.Core.length≤12
theorem plain_eq2 {f:Form} {B:Nat} (hl:Lim f) (hs:Shape f) (hb:BndB f B) {m:Nat} (m1:1≤m) (m2:m≤200) (hB:B≤8640) :
  ∃ g e,Ze f m = some (g,e)∧(e = 0→PlainG f m B g)∧(e ≠ 0→(e = 20∨e = 3)∧g = Form.mk 0 0 [] []):=by
 unfold Ze
 have hcnt:=hs.count
 have hper:=hs.per
 have hcore:=hb.core
 by_cases h0:f.Count = 0
 ·have:Z1Y f m = some (0,0):=by unfold Z1Y;rw [Z98 h0];rfl
  rw [this];refine ⟨_,_,rfl,fun _ => ⟨rfl,fun _ => rfl,fun h => by omega,by simp,by simp⟩,fun h => absurd rfl h⟩
 ·obtain ⟨u,v,r1,r2,u1,u2,v1,v2⟩:=rounds_eq hs hcore (by omega) m1 (by omega)
  rw [r1];simp only [Y0];rw [Z4Q (show ¬ (v:Int) = 0 by omega),cond_false]
  obtain ⟨z,hz,_⟩:=sum_loop (B:=B) hcore hB hb.sets
  rw [hz];simp only [Y0];rw [nz?_ok h0];simp only [Y0];have ediv:(f.Count * (u:Int)).tdiv f.Count = u:=Int.mul_tdiv_cancel_left _ h0
  by_cases hbig:w64 (z * w64 ((f.Count * (u:Int)).tdiv f.Count)) > 60000
  ·rw [ZX hbig];exact ⟨_,_,rfl,fun h => (by cases h),fun _ => ⟨(by first | exact .inl rfl | exact .inr rfl),rfl⟩⟩
  ·rw [ZW hbig];simp only [cond_false];have hmul:Z7 f.Period (w64 ((f.Count * (u:Int)).tdiv f.Count)) = (f.Period * u,0):=by
    rw [ediv,ZC (x:=(u:Int)) (by omega),Z2V (by unfold In64;omega) (by unfold In64;omega)]
    apply ZA0;have h1:0≤f.Period * (u:Int):=Y0G hper.1 (by omega)
    have h2:f.Period * (u:Int)≤1099511627776 * u:=YM hper.2 (by omega)
    unfold In64;omega
   rw [hmul];simp only [bne_self_eq_false,Y0U]
   by_cases hp:f.Period * (u:Int) > 1099511627776
   ·rw [ZX hp];exact ⟨_,_,rfl,fun h => (by cases h),fun _ => ⟨(by first | exact .inl rfl | exact .inr rfl),rfl⟩⟩
   ·rw [ZW hp];simp only [cond_false]
    rcases plain_core hl hs hb (m:=m) (u:=u) (v:=v) (p:=f.Period * u) m1 m2 hB v2 (by rw [hmul]) with ⟨c1,c2⟩ | ⟨c1,_⟩
    ·rw [c1];refine ⟨_,_,rfl,fun _ => ⟨rfl,fun h => absurd h h0,fun _ => ⟨u,v,r2,u1,u2,v1,v2,rfl⟩,c2,?_⟩,fun h => absurd rfl h⟩
     show (Z4M f m v).length≤12
     unfold Z4M;rw [YY,Y0C];exact v2
    ·rw [c1];exact ⟨_,_,rfl,fun h => (by cases h),fun _ => ⟨(by first | exact .inl rfl | exact .inr rfl),rfl⟩⟩
end Go.Dn

namespace Go.Dn
open Go
structure OddsG (f:Form) (m B k:Nat) (O:List Granule):Prop where
 of:∀ g ∈ O,∃ x ∈ f.Odd.take k,g.Index = x.Index / m
 all:∀ x ∈ f.Odd.take k,∃ g ∈ O,g.Index = x.Index / m
 tick:∀ g ∈ O,g.Ticks = gl (ZK f) (g.Index * m) m∧g.Ticks.length≤m * B∧Z0V g.Ticks
 inc:O.Pairwise (fun a b => a.Index < b.Index)
 len:O.length≤k
theorem last_at {α:Type} {a:List α} {x:α} (h:a.length≤1000):at? (a ++ [x]) (w64 (((a ++ [x]).length:Int) - 1)) = some x:=by
 have h:=at?_nat (l:=a ++ [x]) (k:=a.length) (by simp)
 have e:(((a ++ [x]).length:Int) - 1) = (a.length:Int):=by simp
 rw [e,ZC (by omega),h]
 simp
theorem odds_loop {f:Form} {B:Nat} (hl:Lim f) (hs:Shape f) (hb:BndB f B) {m:Nat} (m1:1≤m) (m2:m≤200) (hB:B≤8640) :
  (∃ O,loopO (Za.s0 f m) (0,[]) = some (.go O)∧OddsG f m B f.Odd.length O) ∨
  (loopO (Za.s0 f m) (0,[]) = some (.ret (Form.mk 0 0 [] [],20))∧∃ x ∈ f.Odd,∃ j:Nat,j < m∧Z0T (x.Index / m * m + j) f = some ([],20)):=by
 have hmB:m * B≤200 * 8640:=Y07 m2 hB
 have hodd:=hb.odd
 have hm0:(0:Int) < m:=by omega
 obtain ⟨r,q1,q2⟩:=Z14 (step:=Za.s0 f m)
  (fun s => ∃ (k:Nat) (O:List Granule),k≤f.Odd.length∧s = ((k:Int),O)∧OddsG f m B k O)
  (fun s => f.Odd.length - s.1.toNat)
  (fun r => (∃ O,r = .go O∧OddsG f m B f.Odd.length O)∨(r = .ret (Form.mk 0 0 [] [],20)∧∃ x ∈ f.Odd,∃ j:Nat,j < m∧Z0T (x.Index / m * m + j) f = some ([],20))) (by
   rintro s ⟨k,O,hk,rfl,hO⟩;unfold Za.s0;simp only
   by_cases hlt:k < f.Odd.length
   ·have hmem:=YW hlt
    have htk:f.Odd.take (k + 1) = f.Odd.take k ++ [f.Odd[k]]:=(List.take_append_getElem hlt).symm
    have hti:=(hs.odd _ hmem).2
    have hbefore:∀ y ∈ f.Odd.take k,y.Index < f.Odd[k].Index:=fun y hy => by
     obtain ⟨j,hj,rfl⟩:=Yj hy
     rw [List.getElem_take];rw [YS] at hj;exact hs.inc j k _ _ (by omega) (Y2 (by omega)) (Y2 hlt)
    unfold ZG at hti;rw [ZX (show (k:Int) < f.Odd.length by omega),cond_true,at?_nat hlt]
    simp only [Y0];generalize f.Odd[k] = x at *
    rw [Z1Z (by unfold In64;omega) (by unfold In64;omega),Z3I hm0]
    simp only [Y0];have q1:=Yb x.Index m
    have q2:=Ya x.Index (show (m:Int) ≠ 0 by omega)
    have q3:=Ye x.Index hm0
    have hcond:∃ b:Bool,(bif (decide ((O.length:Int) > 0)) then (at? O (w64 ((O.length:Int) - 1))).bind fun x4 => some (x4.Index == x.Index / m) else some false) = some b ∧
      (b = true→∃ g ∈ O,g.Index = x.Index / m)∧(b = false→∀ g ∈ O,g.Index < x.Index / m):=by
     by_cases hn:O = []
     ·subst hn;exact ⟨false,rfl,fun h => (by cases h),fun _ g hg => by cases hg⟩
     ·have hb1:O = O.dropLast ++ [O.getLast hn]:=(List.dropLast_concat_getLast hn).symm
      have hlen:=hO.len
      have hp:=hO.inc
      have hle:∀ g ∈ O,g.Index≤x.Index / m:=fun g hg => by
       obtain ⟨y,hy,e⟩:=hO.of g hg
       rw [e];exact Int.ediv_le_ediv hm0 (Y11 (hbefore y hy))
      generalize O.dropLast = a at *
      generalize O.getLast hn = z at *
      subst hb1;have ha:a.length≤1000:=by rw [Ym] at hlen;omega
      rw [ZX (show (((a ++ [z]).length:Nat):Int) > 0 by simp),cond_true,last_at ha]
      simp only [Y0];refine ⟨_,rfl,fun h => ⟨z,by simp,by simpa using h⟩,fun h g hg => ?_⟩
      have hz:z.Index ≠ x.Index / m:=by simpa using h
      have hz2:=hle z (by simp)
      rw [List.pairwise_append] at hp
      rcases List.mem_append.1 hg with h1 | h1
      ·have:=hp.2.2 g h1 z (by simp);omega
      ·rw [YF] at h1;subst h1;omega
    obtain ⟨b,b1,b2,b3⟩:=hcond
    rw [b1];simp only [Y0];cases b with
    | true =>
     left
     obtain ⟨g,g1,g2⟩:=b2 rfl
     simp only [cond_true,Y0,Jx.elim];rw [ZC (x:=(k:Int) + 1) (by omega)]
     refine ⟨_,rfl,⟨k + 1,O,hlt,by push_cast;rfl,?_,?_,hO.tick,hO.inc,by have:=hO.len;omega⟩,by simp only;omega⟩
     ·intro y hy;obtain ⟨w,w1,w2⟩:=hO.of y hy
      exact ⟨w,by rw [htk];exact Yf _ w1,w2⟩
     ·intro y hy;rw [htk] at hy
      rcases List.mem_append.1 hy with h | h
      ·exact hO.all y h
      ·rw [YF] at h;subst h;exact ⟨g,g1,g2⟩
    | false =>
     have b4:=b3 rfl
     simp only [cond_false];have hqm:x.Index / m * m = x.Index - x.Index % m:=by rw [Yp];omega
     rw [ZC (x:=x.Index / m * m) (by omega)]
     rcases ZBb (tell:=fun z0 => Z0T z0 f) (h:=ZK f) (a:=x.Index / m * m) (m:=m) (B:=B) (by omega) (by omega) (by omega) (by omega) (fun j hj => get_tell hl hs hb (by unfold In64;omega)) with ⟨g1,g2⟩ | ⟨g1,j,g2,g3⟩
     ·left
      rw [g1];simp only [Y0,bne_self_eq_false,cond_false];have hlen:=hO.len
      rw [app?_ok (by
       have:=Z4m
       simp only [Y05];omega)]
      simp only [Y0,Jx.elim];rw [ZC (x:=(k:Int) + 1) (by omega)]
      obtain ⟨f1,f2⟩:=ZAO (h:=ZK f) (a:=x.Index / m * m) (B:=B) (n:=m) fun j hj => ⟨(g2 j hj).1,(g2 j hj).2.1⟩
      refine ⟨_,rfl,⟨k + 1,_,hlt,by push_cast;rfl,?_,?_,?_,?_,by rw [Ym,Y05];omega⟩,by simp only;omega⟩
      ·intro y hy
       rcases List.mem_append.1 hy with h | h
       ·obtain ⟨w,w1,w2⟩:=hO.of y h
        exact ⟨w,by rw [htk];exact Yf _ w1,w2⟩
       ·rw [YF] at h;subst h;exact ⟨x,by rw [htk];exact Yn _ (List.mem_singleton.2 rfl),rfl⟩
      ·intro y hy;rw [htk] at hy
       rcases List.mem_append.1 hy with h | h
       ·obtain ⟨g,g3,g4⟩:=hO.all y h
        exact ⟨g,Yf _ g3,g4⟩
       ·rw [YF] at h;subst h;exact ⟨_,Yn _ (List.mem_singleton.2 rfl),rfl⟩
      ·intro y hy
       rcases List.mem_append.1 hy with h | h
       ·exact hO.tick y h
       ·rw [YF] at h;subst h;exact ⟨rfl,f1,f2⟩
      ·rw [List.pairwise_append];refine ⟨hO.inc,by simp,fun a ha c hc => ?_⟩
       rw [YF] at hc;subst hc;exact b4 a ha
     ·right
      rw [g1];exact ⟨_,rfl,.inr ⟨rfl,x,hmem,j,g2,g3⟩⟩
   ·right
    obtain rfl:k = f.Odd.length:=by omega
    rw [ZW (by omega),cond_false]
    exact ⟨_,rfl,.inl ⟨O,rfl,hO⟩⟩) (0,[]) ⟨0,[],YX _,rfl,by simp,by simp,by simp,by simp,by simp⟩
 rcases q2 with ⟨O,rfl,h⟩ | ⟨rfl,h⟩
 ·exact .inl ⟨O,q1,h⟩
 ·exact .inr ⟨q1,h⟩
end Go.Dn

namespace Go.Dn
open Go
structure GroupG (f:Form) (m B:Nat) (F:Form):Prop where
 csz:∀ i,csz F i = gl (csz f) (i * m) m
 set:∀ i,ZK F i = gl (ZK f) (i * m) m
 bnd:BndB F (m * B)
theorem quot_tick {n p:Int} (hp:0 < p) (hn:ZG n):ZG (n / p):=by
 unfold ZG at *
 constructor
 ·exact Y06 hp (by
   have:(1099511627776:Int) * 1≤1099511627776 * p:=YD (by omega) (by decide)
   omega)
 ·exact Yx hp (by
   have:(1099511627776:Int) * 1≤1099511627776 * p:=YD (by omega) (by decide)
   omega)
theorem gl_none {h:Int→List Span} (hn:∀ i,h i = []) (a:Int):∀ n:Nat,gl h a n = []
 | 0 => rfl
 | n + 1 => by
  show glue (gl h a n) (h (a + n)) = []
  rw [gl_none hn a n,hn,Z3D]
theorem groupG_of {f g:Form} {m B:Nat} {O:List Granule} (hs:Shape f) (m1:1≤m) (hP:PlainG f m B g) (hO:OddsG f m B f.Odd.length O) (hF:Shape (Form.mk g.Period g.Count g.Core O)) (h8:f.Odd.length≤8) :
  GroupG f m B (Form.mk g.Period g.Count g.Core O):=by
 have hm0:(0:Int) < m:=by omega
 have hcnt:=hs.count
 have hz:∀ i,Go.Dn.csz (Form.mk g.Period g.Count g.Core O) i = gl (Go.Dn.csz f) (i * m) m:=fun i => by
  by_cases h0:f.Count = 0
  ·have e:=hP.zero h0
   subst e;have hn:∀ j,Go.Dn.csz f j = []:=fun j => if_pos h0
   rw [gl_none hn];exact if_pos rfl
  ·obtain ⟨u,v,r2,u1,u2,v1,v2,e⟩:=hP.some (by omega)
   subst e;have hv0:(v:Int) ≠ 0:=by omega
   rw [Z0r (show (0:Int) < v by omega)]
   show (Z03 _ i).map (ZU (i / (v:Int) * (f.Period * u))) = _
   have i0:=Ya i hv0
   have i1:=Ye i (show (0:Int) < v by omega)
   have e1:Z03 (Form.mk (f.Period * (u:Int)) (v:Int) (Z4M f m v) O) i = gl (Go.Dn.csz f) (i % v * m) m:=by
    show (Z4M f m v).getD (i % (v:Int)).toNat [] = _
    unfold Z4M;rw [YE,YP,List.getElem?_range (by omega)]
    simp only [Y8,Y0X];rw [Yo i0]
   have e2:i * m = i % v * m + f.Count * (u * (i / v)):=by
    have h1:=Yb i v
    have h2:f.Count * (u * (i / v)) = v * m * (i / v):=by rw [← Yc,r2]
    rw [h2]
    conv => lhs;rw [← h1]
    rw [Y0S,Yc,Yc,Yp (i / v) (m:Int)]
   rw [e1,e2];have sh:∀ j,Go.Dn.csz f (j + f.Count * (u * (i / v))) = (Go.Dn.csz f j).map (ZU (u * (i / v) * f.Period)):=fun j => by
    rw [Z0r (by omega)]
    exact Z4X h0 j _
   rw [gl_shift sh]
   congr 2
   rw [Yp f.Period,← Yc,Yp (i / (v:Int)) (u:Int)]
 refine ⟨hz,fun i => ?_,⟨hP.few,Yd hO.len h8,fun l hl => (hP.sets l hl).1,fun x hx => (hO.tick x hx).2.1⟩⟩
 by_cases ho:Z2y (Form.mk g.Period g.Count g.Core O) i
 ·obtain ⟨x,hx,rfl⟩:=ho
  rw [Z0q hF.inc hx,(hO.tick x hx).1]
 ·rw [Z2r ho,hz];refine gl_congr fun j hj => ?_
  refine (Z2r fun hx => ho ?_).symm
  obtain ⟨x,hx,e⟩:=hx
  obtain ⟨y,hy,e2⟩:=hO.all x (by rw [Y0Y];exact hx)
  refine ⟨y,hy,?_⟩;rw [e2,e,Int.add_comm,Int.add_mul_ediv_right _ _ (by omega),Int.ediv_eq_zero_of_lt (by omega) (by omega),Y18]
theorem group_eq2 {f:Form} {B:Nat} (hl:Lim f) (hs:Shape f) (hb:BndB f B) {m:Nat} (m1:1≤m) (m2:m≤200) (hB:B≤8640) :
  ∃ g e,Za f m = some (g,e)∧(e = 0→∃ F,GroupG f m B F∧Lim F∧RightF F∧¬ Z4z F∧ZT F = some g)∧(e ≠ 0→(e = 20∨e = 3)∧g = Form.mk 0 0 [] []):=by
 have hmB:m * B≤200 * 8640:=Y07 m2 hB
 unfold Za
 rw [ZW (show ¬ (m:Int) < 1 by omega),ZW (show ¬ (m:Int) > 6000 by omega)]
 simp only [Y0h,cond_false]
 obtain ⟨p,e,p1,p2,p3⟩:=plain_eq2 hl hs hb m1 m2 hB
 rw [p1]
 simp only [Y0]
 by_cases he:e = 0
 ·have hP:=p2 he
  subst he;simp only [bne_self_eq_false,cond_false]
  rcases odds_loop hl hs hb m1 m2 hB with ⟨O,o1,hO⟩ | ⟨o1,_⟩
  ·rw [o1];simp only [Y0,Jx.elim];generalize hFF:Form.mk p.Period p.Count p.Core O = F;have lim:Lim F:=by
    rw [← hFF];have r:=Z1D
    have l8:=hO.len
    have h8:=hb.odd
    have h12:=hP.few
    have hper:=hs.per
    have s64:∀ {l:List Span},Z0V l→Sp64 l:=fun {l} h s hs' => ⟨Z1s (h s hs').1,Z1s (h s hs').2⟩
    refine ⟨?_,fun l hl' => ⟨?_,s64 (hP.sets l hl').2⟩,?_,fun g hg => ⟨?_,?_,s64 (hO.tick g hg).2.2⟩,?_,?_⟩
    ·show p.Core.length * 24≤reachBytes
     omega
    ·have:=(hP.sets l hl').1
     unfold Len;omega
    ·show O.length * 32≤reachBytes
     omega
    ·obtain ⟨x,hx,e⟩:=hO.of g hg
     have hx':=(hs.odd x (Yq hx)).2
     have h1:=Yb x.Index m
     have h2:=Ya x.Index (show (m:Int) ≠ 0 by omega)
     have h3:=Ye x.Index (show (0:Int) < m by omega)
     have h4:=quot_tick (n:=x.Index) (p:=(m:Int)) (by omega) hx'
     rw [e];exact Z1s h4
    ·have:=(hO.tick g hg).2.1
     unfold Len;omega
    ·show In64 p.Count
     by_cases h0:f.Count = 0
     ·rw [hP.zero h0];unfold In64;simp
     ·obtain ⟨u,v,_,_,_,_,v2,e⟩:=hP.some (by have:=hs.count;omega)
      rw [e];unfold In64;simp only;omega
    ·show In64 p.Period
     by_cases h0:f.Count = 0
     ·rw [hP.zero h0];unfold In64;simp
     ·obtain ⟨u,v,_,_,u2,_,_,e⟩:=hP.some (by have:=hs.count;omega)
      rw [e];have h1:0≤f.Period * (u:Int):=Y0G hper.1 (by omega)
      have h2:f.Period * (u:Int)≤1099511627776 * u:=YM hper.2 (by omega)
      unfold In64;simp only;omega
   unfold Z1c
   rcases Z6Q lim with ⟨_,h⟩ | ⟨hnl,h3,h4⟩ | ⟨_,_,h⟩
   ·rw [h];exact ⟨_,_,rfl,fun h => (by cases h),fun _ => ⟨(by first | exact .inl rfl | exact .inr rfl),rfl⟩⟩
   ·rw [h4];simp only [Y0,beq_self_eq_true,cond_true];obtain ⟨c,_,hc⟩:=Z1a lim h3.shape
    rw [hc];refine ⟨_,_,rfl,fun _ => ⟨F,?_,lim,h3,hnl,hc⟩,fun h => absurd rfl h⟩
    rw [← hFF] at h3 ⊢;exact groupG_of hs m1 hP hO h3.shape hb.odd
   ·rw [h];exact ⟨_,_,rfl,fun h => (by cases h),fun _ => ⟨(by first | exact .inl rfl | exact .inr rfl),rfl⟩⟩
  ·rw [o1];exact ⟨_,_,rfl,fun h => (by cases h),fun _ => ⟨(by first | exact .inl rfl | exact .inr rfl),rfl⟩⟩
 ·have:(e != 0) = true:=by simpa using he
  rw [this];exact ⟨_,_,rfl,fun h => absurd h he,fun _ => ⟨(p3 he).1,rfl⟩⟩
end Go.Dn

namespace Go.Dn
open Go
end Go.Dn

namespace Go.Dn
open Go
def insG:Bool→List Int→Int→List Int
 | p,[],x => if p then [] else [x]
 | p,y :: l,x => if y = x then y :: insG true l x else if p then y :: insG true l x else if x < y then x :: y :: insG true l x else y :: insG false l x
end Go.Dn

namespace Go.Dn
open Go
def hasT (l:List Span) (t:Int):Prop:=∃ u ∈ l,u.From≤t∧t≤u.To
def midT (l:List Span):Prop:=∀ u ∈ l,-4611686018427387904≤u.From∧u.From≤4611686018427387904∧-4611686018427387904≤u.To∧u.To≤4611686018427387904
def isPl (l:List Span) (z:Int):Prop:=∃ u ∈ l,z = u.From∨z = u.To + 1
end Go.Dn

namespace Go.Dn
open Go
def AheadA (a b:List Span):Prop:=∀ x ∈ a,∀ y ∈ b,x.To < y.From
theorem Z5w {l:List Span} (h:RightL l) {s:Span} (hs:s ∈ l):fstT l≤s.From∧s.From≤s.To∧s.To≤lstT l:=by
 induction l generalizing s with
 | nil => cases hs
 | cons a l ih =>
  have h0:=h.ok 0 a rfl
  cases l with
  | nil =>
   rw [YF] at hs;subst hs;exact ⟨Y0K _,h0.2.2,Y0K _⟩
  | cons b l =>
   have hg:=h.gap 0 a b rfl rfl
   have e1:fstT (a :: b :: l) = a.From:=rfl
   have e2:lstT (a :: b :: l) = lstT (b :: l):=by unfold lstT;simp
   have e3:fstT (b :: l) = b.From:=rfl
   have hb:=ih h.tail (s:=b) YG
   rw [e1,e2]
   rcases List.mem_cons.1 hs with rfl | hs
   ·refine ⟨Y0K _,h0.2.2,?_⟩;omega
   ·have:=ih h.tail hs
    omega
end Go.Dn

namespace Go.Dn
open Go
def dst (i b k:Int):Int:=(k - i) * b
def NextS (f:Form) (i b:Int) (r:Int × Bool):Prop:=(r.2 = true∧0≤dst i b r.1∧ZG r.1∧ZK f r.1 ≠ []∧∀ k,0≤dst i b k→ZG k→ZK f k ≠ []→dst i b r.1≤dst i b k)∨(r.2 = false∧r.1 = 0∧∀ k,0≤dst i b k→ZG k→ZK f k = [])
end Go.Dn

namespace Go.Dn
open Go
end Go.Dn

namespace Go.Dn
open Go
def fullK (f:Form) (k:Nat):List (List Span):=(f.Core.take k).filter (fun l => decide (l.length > 0))
def ChainL (F:List (List Span)):Prop:=∀ (k:Nat) (a b:List Span),F[k]? = some a→F[k + 1]? = some b→lstT a < fstT b
end Go.Dn

namespace Go.Dn
open Go
def ordS (f:Form) (last:List Span):List Int→Prop
 | [] => True
 | x :: l => (ZG x∧fits f x)∧AheadA last (ZK f x)∧ordS f (if ZK f x = [] then last else ZK f x) l
end Go.Dn

namespace Go.Dn
open Go
end Go.Dn

namespace Go.Dn
open Go
def bareG (i:Int):Granule:=⟨i,[]⟩
end Go.Dn

namespace Go.Dn
open Go
def Z7a (l:List Span):Prop:=l.Pairwise (fun x y => x.To + 1 < y.From)∧∀ s ∈ l,s.From≤s.To
theorem normL_nil:Z7a []:=⟨List.Pairwise.nil,fun s h => by cases h⟩
theorem normL_init {o:List Span} {y:Span} (h:Z7a (o ++ [y])):Z7a o∧y.From≤y.To∧∀ s ∈ o,s.To + 1 < y.From:=by
 obtain ⟨p1,p2,p3⟩:=List.pairwise_append.1 h.1
 exact ⟨⟨p1,fun s hs => h.2 s (Yf _ hs)⟩,h.2 y (by simp),fun s hs => p3 s hs y (by simp)⟩
theorem hasT_app {a b:List Span} {t:Int}:hasT (a ++ b) t ↔ hasT a t∨hasT b t:=by
 unfold hasT
 constructor
 ·rintro ⟨u,hu,h⟩
  rcases List.mem_append.1 hu with hu | hu
  ·exact .inl ⟨u,hu,h⟩
  ·exact .inr ⟨u,hu,h⟩
 ·rintro (⟨u,hu,h⟩ | ⟨u,hu,h⟩)
  ·exact ⟨u,Yf _ hu,h⟩
  ·exact ⟨u,Yn _ hu,h⟩
theorem hasT_cons {x:Span} {b:List Span} {t:Int}:hasT (x :: b) t ↔ (x.From≤t∧t≤x.To)∨hasT b t:=by
 unfold hasT
 constructor
 ·rintro ⟨u,hu,h⟩
  rcases List.mem_cons.1 hu with rfl | hu
  ·exact .inl h
  ·exact .inr ⟨u,hu,h⟩
 ·rintro (h | ⟨u,hu,h⟩)
  ·exact ⟨x,YG,h⟩
  ·exact ⟨u,YH _ hu,h⟩
theorem hasT_nil {t:Int}:¬ hasT [] t:=fun ⟨u,hu,_⟩ => by cases hu
theorem Z62:∀ {l:List Span},RightL l→Z7a l
 | [],_ => normL_nil
 | x :: l,h => by
  obtain ⟨p1,p2⟩:=Z62 h.tail
  refine ⟨List.pairwise_cons.2 ⟨fun y hy => ?_,p1⟩,fun s hs => ?_⟩
  ·have h1:=(Z5w h.tail hy).1
   cases l with
   | nil => cases hy
   | cons z l =>
    have h2:=h.gap 0 x z rfl rfl
    have h3:fstT (z :: l) = z.From:=rfl
    omega
  ·rcases List.mem_cons.1 hs with rfl | hs
   ·exact (h.ok 0 _ rfl).2.2
   ·exact p2 s hs
theorem glue_norm {a b:List Span} (ha:Z7a a) (hb:Z7a b) (ho:∀ x ∈ a,∀ y ∈ b,x.To < y.From):Z7a (glue a b)∧∀ t,hasT (glue a b) t ↔ hasT a t∨hasT b t:=by
 by_cases h:a = []
 ·subst h;rw [Z3D];exact ⟨hb,fun t => ⟨.inr,fun h => h.resolve_left hasT_nil⟩⟩
 obtain ⟨a',x,rfl⟩:=Z4t h
 cases b with
 | nil =>
  rw [Z4B];exact ⟨ha,fun t => ⟨.inl,fun h => h.resolve_right hasT_nil⟩⟩
 | cons s l =>
  obtain ⟨q1,q2,q3⟩:=normL_init ha
  obtain ⟨b1,b2⟩:=List.pairwise_cons.1 hb.1
  have hs:=hb.2 s YG
  have hxs:=ho x (by simp) s YG
  have hl:∀ y ∈ l,y.From≤y.To:=fun y hy => hb.2 y (YH _ hy)
  rw [Z2I];unfold seam
  by_cases hc:s.From = x.To + 1
  ·rw [if_pos hc];refine ⟨⟨List.pairwise_append.2 ⟨q1.1,List.pairwise_cons.2 ⟨b1,b2⟩,fun p hp q hq => ?_⟩,fun p hp => ?_⟩,fun t => ?_⟩
   ·have h1:=q3 p hp
    rcases List.mem_cons.1 hq with rfl | hq
    ·exact h1
    ·have:=b1 q hq;omega
   ·rcases List.mem_append.1 hp with hp | hp
    ·exact q1.2 p hp
    ·rcases List.mem_cons.1 hp with rfl | hp
     ·show x.From≤s.To;omega
     ·exact hl p hp
   ·have:(x.From≤t∧t≤s.To) ↔ (x.From≤t∧t≤x.To)∨(s.From≤t∧t≤s.To):=by omega
    simp only [hasT_app,hasT_cons,hasT_nil,or_false,or_assoc,this]
  ·rw [if_neg hc];have e:a' ++ ([x,s] ++ l) = (a' ++ [x]) ++ (s :: l):=by simp
   rw [e];refine ⟨⟨List.pairwise_append.2 ⟨ha.1,hb.1,fun p hp q hq => ?_⟩,fun p hp => ?_⟩,fun t => hasT_app⟩
   ·have hpx:p.To + 1 < x.From∨p = x:=by
     rcases List.mem_append.1 hp with hp | hp
     ·exact .inl (q3 p hp)
     ·rw [YF] at hp;exact .inr hp
    have hqs:s.To + 1 < q.From∨q = s:=by
     rcases List.mem_cons.1 hq with hq | hq
     ·exact .inr hq
     ·exact .inl (b1 q hq)
    rcases hpx with h1 | rfl <;> rcases hqs with h2 | rfl <;> omega
   ·rcases List.mem_append.1 hp with hp | hp
    ·exact ha.2 p hp
    ·exact hb.2 p hp
theorem glue_to {a b:List Span} {x:Span} (h:x ∈ glue a b):(∃ s ∈ a,s.To = x.To)∨∃ s ∈ b,s.To = x.To:=by
 by_cases ha:a = []
 ·subst ha;rw [Z3D] at h;exact .inr ⟨x,h,rfl⟩
 obtain ⟨a',y,rfl⟩:=Z4t ha
 cases b with
 | nil => rw [Z4B] at h;exact .inl ⟨x,h,rfl⟩
 | cons s l =>
  rw [Z2I] at h
  rcases List.mem_append.1 h with h | h
  ·exact .inl ⟨x,Yf _ h,rfl⟩
  ·rcases List.mem_append.1 h with h | h
   ·unfold seam at h
    split at h
    ·rw [YF] at h;subst h;exact .inr ⟨s,YG,rfl⟩
    ·rcases List.mem_cons.1 h with rfl | h
     ·exact .inl ⟨x,by simp,rfl⟩
     ·rw [YF] at h;subst h;exact .inr ⟨x,YG,rfl⟩
   ·exact .inr ⟨x,YH _ h,rfl⟩
theorem gl_to {h:Int→List Span} {a:Int} {x:Span}:∀ {n:Nat},x ∈ gl h a n→∃ j:Nat,j < n∧∃ s ∈ h (a + j),s.To = x.To
 | 0,hx => by cases hx
 | n + 1,hx => by
  rcases glue_to hx with ⟨s,hs,e⟩ | ⟨s,hs,e⟩
  ·obtain ⟨j,h1,u,h2,h3⟩:=gl_to hs
   exact ⟨j,by omega,u,h2,by rw [h3,e]⟩
  ·exact ⟨n,by omega,s,hs,e⟩
end Go.Dn

namespace Go.Dn
open Go
abbrev UnS:=((List Span) × (List Span) × (List Span) × Int × Bool) × Nat
noncomputable def unStep:Bool × Bool × UnS→Option ((Bool × Bool × UnS) ⊕ Jx UnS UnS) :=
 Z3e.s0 (S:=UnS) (fun s => s.1.2.2.1) (fun s v => ((s.1.1,s.1.2.1,v,s.1.2.2.2.1,s.1.2.2.2.2),s.2)) (fun s => s.1.2.1) (fun s v => ((s.1.1,v,s.1.2.2.1,s.1.2.2.2.1,s.1.2.2.2.2),s.2)) (Z1J (Z78.b0 (fun z0 z1 => some (Z8p z0 z1))))
def unSt (iA iB:Bool) (out a b:List Span) (f:Int) (i:Bool):Bool × Bool × UnS:=(iA,iB,((out,b,a,f,i),0))
noncomputable def unAt (iA iB:Bool) (a b:List Span):Option Int :=
 bif ((a.length:Int) == 0) then (Z11 b iB).bind fun x1 => some x1
 else (bif ((b.length:Int) == 0) then (Z11 a iA).bind fun x2 => some x2
  else (Z11 a iA).bind fun x3 => (Z11 b iB).bind fun x4 => some (iMin x3 x4))
theorem un_go {s s':Bool × Bool × UnS} (h:unStep s = some (.inl s')):loopO unStep s = loopO unStep s':=by
 rw [Z71,h]
def UnEnds (s:Bool × Bool × UnS) (out:List Span):Prop:=∃ f i,loopO unStep s = some (.go ((out,[],[],f,i),0))
theorem UnEnds.step {s s':Bool × Bool × UnS} {out:List Span} (h:unStep s = some (.inl s')) (h2:UnEnds s' out):UnEnds s out:=by
 obtain ⟨f,i,e⟩:=h2
 exact ⟨f,i,by rw [un_go h];exact e⟩
theorem norm_tail {s:Span} {l:List Span} (h:Z7a (s :: l)):Z7a l∧s.From≤s.To∧∀ t ∈ l,s.To + 1 < t.From :=
 ⟨⟨(List.pairwise_cons.1 h.1).2,fun x hx => h.2 x (YH _ hx)⟩,h.2 s YG,(List.pairwise_cons.1 h.1).1⟩
end Go.Dn

namespace Go.Dn
open Go
noncomputable def shapeRun (k:Int):Bool :=
 match Z10 Z9 k with
 | some (g,e) => (e == 0) && (match Zv Z9 g with
   | some (b,n,e) => (b == [0]) && (n == k) && (e == 0)
   | none => false) && (match Z0t Z9 g (1 - k) 1 3 with
   | some (_,e) => e == 0
   | none => false)
 | none => false
noncomputable def halfRun:Bool :=
 match Zv Z9 (Form.mk 2 Z9.Count Z9.Core Z9.Odd) with
 | some (_,_,e) => e == 51
 | none => false
end Go.Dn

namespace Go.Dn
open Go
def Z1K (f:Form):Prop:=0 < f.Count∧f.Odd = []∧∀ l ∈ f.Core,l ≠ []
theorem whole_eq {f:Form} (hl:Lim f):∃ b,Z0S f = some b∧(b = true ↔ Z1K f):=by
 have hcl:(f.Core.length:Int) < 4611686018427387904:=Z2e (b:=23) hl.core
 unfold Z0S
 rcases Z3a (l:=f.Core) (step:=Z0S.s0 f) (good:=fun _ l => l ≠ []) (no:=.ret false) (yes:=.go ()) (fun k x hx _ => by
  obtain ⟨hk,rfl⟩:=List.getElem?_eq_some_iff.1 hx
  unfold Z0S.s0;rw [ZX (show (k:Int) < f.Core.length by omega),cond_true,at?_nat hk]
  simp only [Y0]
  by_cases hn:f.Core[k] = []
  ·right
   rw [hn];exact ⟨rfl,fun h => h rfl⟩
  ·left
   have:=List.length_pos_iff.2 hn
   rw [Z4Q (by omega),cond_false,ZC (by omega)]
   exact ⟨rfl,hn⟩) (by
  unfold Z0S.s0;rw [ZW (by omega),cond_false]) with ⟨e,h⟩ | ⟨e,h⟩
 ·rw [e];refine ⟨_,rfl,?_⟩;unfold Z1K;have hall:∀ l ∈ f.Core,l ≠ []:=fun l hl' => by
   obtain ⟨k,hk⟩:=YC hl'
   exact h k l hk
  rw [Y9,decide_eq_true_iff,beq_iff_eq]
  constructor
  ·rintro ⟨h1,h2⟩;exact ⟨h1,Y0R (by omega),hall⟩
  ·rintro ⟨h1,h2,_⟩;exact ⟨h1,by rw [h2];rfl⟩
 ·rw [e];refine ⟨false,rfl,fun h' => (by cases h'),fun h' => ?_⟩
  exact absurd (fun k x hx => h'.2.2 x (Y6 hx)) h
theorem Z1m {f:Form} (hs:Shape f) (hw:Z1K f) (i:Int):csz f i ≠ []:=by
 have h0:f.Count ≠ 0:=by have:=hw.1;omega
 rw [Z0r hw.1]
 unfold cs
 intro h
 exact hw.2.2 _ (Z0E hs h0 i).2 (List.map_eq_nil_iff.1 h)
theorem Z6q {f:Form} (hs:Shape f) {i:Int} (t:Z0V (csz f i)):RightL (csz f i):=by
 by_cases h0:f.Count = 0
 ·have:csz f i = []:=if_pos h0
  rw [this];exact ⟨by simp,by simp⟩
 ·have e:csz f i = (Z03 f i).map (ZU (i / f.Count * f.Period)):=by rw [Z0r (by have:=hs.count;omega)];rfl
  rw [e] at t ⊢;refine (hs.core _ (Z0E hs h0 _).2).shift fun s hs' => ?_
  exact t _ (List.mem_map.2 ⟨s,hs',rfl⟩)
open Classical in
theorem raw_exact {f:Form} (hl:Lim f) (hs:Shape f) {i:Int} (hi:In64 i):Z0k f i = some (if Z0V (csz f i) then (csz f i,0) else ([],20)):=by
 have hcnt:=hs.count
 have t0:Z0V []:=fun s h => by cases h
 unfold Z0k
 by_cases h0:f.Count = 0
 ·have e:csz f i = []:=if_pos h0
  rw [Z98 h0,cond_true,e,if_pos t0]
 ·have hp:0 < f.Count:=by omega
  rw [Z4Q h0,cond_false,Z1Z hi hl.count,Z3I hp];simp only [Y0];obtain ⟨c1,c2⟩:=Z0E hs h0 i
  rw [c1];simp only [Y0];have hcsz:csz f i = (Z03 f i).map (ZU (i / f.Count * f.Period)):=by rw [Z0r hp];rfl
  by_cases hn:Z03 f i = []
  ·rw [hcsz,hn];rw [if_pos (show Z0V (List.map (ZU (i / f.Count * f.Period)) []) from t0)]
   rfl
  ·have hlen:¬ ((Z03 f i).length:Int) = 0:=by have:=List.length_pos_iff.2 hn;omega
   rw [Z4Q hlen,cond_false];have hq:In64 (i / f.Count):=by
    unfold In64 at hi ⊢;have q1:i / f.Count≤9223372036854775807:=Yx hp (by
     have:(9223372036854775807:Int) * 1≤9223372036854775807 * f.Count:=YD (by omega) (by decide)
     omega)
    have q2 : -9223372036854775808≤i / f.Count:=Y06 hp (by
     have:(9223372036854775808:Int) * 1≤9223372036854775808 * f.Count:=YD (by omega) (by decide)
     omega)
    exact ⟨q2,q1⟩
   have hsl:=hl.sets _ c2
   have hiff:Z0V (csz f i) ↔ ∀ s ∈ Z03 f i,ZG (s.From + i / f.Count * f.Period)∧ZG (s.To + i / f.Count * f.Period):=by
    rw [hcsz]
    constructor
    ·intro h s hs';exact h _ (List.mem_map.2 ⟨s,hs',rfl⟩)
    ·intro h s hs';obtain ⟨x,hx,rfl⟩:=List.mem_map.1 hs'
     exact h x hx
   rw [Z2V hq hl.period]
   rcases Z7Q (i / f.Count * f.Period) with ⟨f1,f2⟩ | ⟨f1,f2⟩
   ·rw [f2];simp only [bne_self_eq_false,Y0h,cond_false]
    rcases Z4u hsl.1 hsl.2 f1 with ⟨m1,m2⟩ | ⟨m1,m2⟩
    ·rw [m2,if_pos (hiff.2 m1),hcsz];rfl
    ·rw [m2,if_neg (fun h => m1 (hiff.1 h))];rfl
   ·rw [f2,if_neg]
    ·rfl
    ·intro h;rw [hiff] at h;obtain ⟨s0,hs0⟩:=List.exists_mem_of_ne_nil _ hn
     obtain ⟨k,hk⟩:=YC hs0
     have h1:=((hs.core _ c2).ok k s0 hk).1
     have h2:=(h s0 hs0).1
     unfold ZG at h1 h2;unfold In64 at f1;omega
theorem norm_len {hi:Int}:∀ {l:List Span} {lo:Int},Z7a l→(∀ s ∈ l,lo≤s.From∧s.To≤hi)→l = []∨(l.length:Int)≤hi - lo + 1
 | [],_,_,_ => .inl rfl
 | x :: l,lo,hn,h => by
  obtain ⟨n1,n2,n3⟩:=norm_tail hn
  have hx:=h x YG
  right
  have hlen:(((x :: l).length:Nat):Int) = (l.length:Int) + 1:=by simp
  rcases norm_len (lo:=lo + 1) n1 (fun s hs => ⟨by have:=n3 s hs;omega,(h s (YH _ hs)).2⟩) with rfl | h2
  ·simp;omega
  ·omega
theorem tick_len {l:List Span} (hn:Z7a l) (ht:Z0V l):l.length≤2199023255553:=by
 rcases norm_len (lo:=-1099511627776) (hi:=1099511627776) hn (fun s hs => by have:=ht s hs;unfold ZG at this;omega) with rfl | h
 ·simp
 ·omega
def AllT (f:Form) (a:Int) (n:Nat):Prop:=∀ j:Nat,j < n→Z0V (csz f (a + j))
theorem gl_norm {f:Form} (hs:Shape f) (ht:Turns f) (a:Int):∀ {n:Nat},AllT f a n→Z7a (gl (csz f) a n)∧Z0V (gl (csz f) a n)
 | 0,_ => ⟨normL_nil,fun s h => by cases h⟩
 | n + 1,h => by
  obtain ⟨h1,h2⟩:=gl_norm hs ht a (n:=n) fun j hj => h j (by omega)
  have tn:=h n (by omega)
  have rn:=Z6q hs tn
  refine ⟨(glue_norm h1 (Z62 rn) fun x hx y hy => ?_).1,ZCM h2 tn⟩
  obtain ⟨j,j1,s,s1,s2⟩:=gl_to hx
  have rj:=Z6q hs (h j (by omega))
  have n1:csz f (a + (j:Int)) ≠ []:=List.ne_nil_of_mem s1
  have n2:csz f (a + (n:Int)) ≠ []:=List.ne_nil_of_mem hy
  have:=Z6c hs ht (show a + (j:Int) < a + n by omega) n1 n2
  have h3:=Z5w rj s1
  have h4:=Z5w rn hy
  omega
open Classical in
theorem Z5D {f:Form} (hl:Lim f) (hr:RightF f) (hnl:¬ Z4z f) (hw:Z1K f) {a b:Int} (ha:In64 a) (hb:In64 b) :
  Zo f a b = some (if AllT f a (b - a).toNat then (gl (csz f) a (b - a).toNat,0) else ([],20)):=by
 have hs:=hr.shape
 have hro:=Z4m
 unfold In64 at ha hb
 have hl60:∀ l ∈ f.Core,l.length≤60000:=fun l hl' => by
  have:=ZBD List.length hl'
  unfold Z4z Z5u at hnl;omega
 have hcl:∀ i,(csz f i).length≤60000:=fun i => by
  rw [Z0r hw.1];unfold cs;rw [YY];exact hl60 _ (Z0E hs (by have:=hw.1;omega) i).2
 obtain ⟨r,q1,q2⟩:=Z14 (step:=Zo.s0 f b)
  (fun s => ∃ k:Nat,k≤(b - a).toNat∧s = (a + k,gl (csz f) a k)∧AllT f a k)
  (fun s => (b - s.1).toNat)
  (fun r => (r = .go (gl (csz f) a (b - a).toNat)∧AllT f a (b - a).toNat)∨(r = .ret ([],20)∧¬ AllT f a (b - a).toNat)) (by
   rintro s ⟨k,hk,rfl,hall⟩;unfold Zo.s0;simp only
   by_cases hlt:a + (k:Int) < b
   ·have hkn:k < (b - a).toNat:=by omega
    rw [ZX hlt,cond_true,raw_exact hl hs (i:=a + (k:Int)) (by unfold In64;omega)]
    by_cases tk:Z0V (csz f (a + (k:Int)))
    ·left
     rw [if_pos tk];simp only [Y0,bne_self_eq_false,cond_false];have hall':AllT f a (k + 1):=fun j hj => by
      by_cases hjk:j = k
      ·subst hjk;exact tk
      ·exact hall j (by omega)
     obtain ⟨g1,g2⟩:=gl_norm hs hr.turns a hall
     have gl1:=tick_len g1 g2
     have cl1:=hcl (a + k)
     have hne:=Z1m hs hw (a + k)
     have fin:∃ s':Int × List Span,(some (.inl (a + (k:Int) + 1,glue (gl (csz f) a k) (csz f (a + k)))):Option ((Int × List Span) ⊕ Jx (List Span) (List Span × Int))) = some (.inl s')∧(∃ k':Nat,k'≤(b - a).toNat∧s' = (a + k',gl (csz f) a k')∧AllT f a k')∧(b - s'.1).toNat < (b - (a + (k:Int))).toNat :=
      ⟨_,rfl,⟨k + 1,hkn,by push_cast;rw [← Int.add_assoc];rfl,hall'⟩,by simp only;omega⟩
     generalize hC:csz f (a + (k:Int)) = C at *
     generalize gl (csz f) a k = out at *
     obtain ⟨s,l,rfl⟩:=Y0b hne
     have hll:(s :: l).length = l.length + 1:=rfl
     by_cases ho:out = []
     ·subst ho;rw [ZC (x:=(([] : List Span).length:Int) - 1) (by simp),ZW (show ¬ (([] : List Span).length:Int) - 1 ≥ 0 by simp),cond_false]
      simp only [Y0,cond_false];rw [app?_ok (by simp only [Yt];omega),ZC (x:=a + (k:Int) + 1) (by omega)]
      simp only [Y0,Jx.elim,List.nil_append];rw [Z3D] at fin;exact fin
     ·obtain ⟨a',x,rfl⟩:=Z4t ho
      have hlen:((a' ++ [x]).length:Int) = a'.length + 1:=by simp
      have hlenN:(a' ++ [x]).length = a'.length + 1:=by simp
      have tx:=g2 x (by simp)
      unfold ZG at tx;rw [ZC (x:=((a' ++ [x]).length:Int) - 1) (by omega),ZX (show ((a' ++ [x]).length:Int) - 1 ≥ 0 by omega),cond_true]
      have e1:at? (s :: l) 0 = some s:=rfl
      have e2:at? (a' ++ [x]) (((a' ++ [x]).length:Int) - 1) = some x:=at?_last
      rw [e1];simp only [Y0];rw [e2];simp only [Y0];rw [ZC (x:=x.To + 1) (by omega)]
      rw [Z2I] at fin;unfold seam at fin
      by_cases hc:s.From = x.To + 1
      ·rw [Z98 hc];rw [if_pos hc] at fin;simp only [cond_true];have e3:cut? (s :: l) 1 (((s :: l).length:Nat):Int) = some l:=by
        unfold cut?;rw [if_pos (by rw [hll];omega)]
        simp
       rw [e3];simp only [Y0];have e4:(a' ++ [x]).set (((a' ++ [x]).length:Int) - 1).toNat (Span.mk x.From s.To) = a' ++ [Span.mk x.From s.To]:=by
        rw [hlen,show ((a'.length:Int) + 1 - 1).toNat = a'.length by omega]
        simp
       rw [e4,app?_ok (by
        have:(a' ++ [Span.mk x.From s.To]).length = a'.length + 1:=by simp
        omega),ZC (x:=a + (k:Int) + 1) (by omega)]
       simp only [Y0,Jx.elim];rw [Y01];exact fin
      ·rw [Z4Q hc];rw [if_neg hc] at fin;simp only [cond_false,Y0];rw [app?_ok (by omega),ZC (x:=a + (k:Int) + 1) (by omega)]
       simp only [Y0,Jx.elim];rw [Y01];exact fin
    ·right
     rw [if_neg tk];exact ⟨_,rfl,.inr ⟨rfl,fun h => tk (h k hkn)⟩⟩
   ·right
    obtain rfl:k = (b - a).toNat:=by omega
    rw [ZW hlt,cond_false];exact ⟨_,rfl,.inl ⟨rfl,hall⟩⟩) (a,[]) ⟨0,YX _,by simp [gl],fun j hj => absurd hj (Nat.not_lt_zero _)⟩
 unfold Zo
 rw [q1]
 rcases q2 with ⟨rfl,h⟩ | ⟨rfl,h⟩
 ·rw [if_pos h];rfl
 ·rw [if_neg h];rfl
end Go.Dn

namespace Go.Dn
open Go
theorem has_complete {l:List Span} (hr:RightL l) (hl:Len l) {t:Int} (h:hasT l t):Z4a l t = some true:=by
 have hlen:(l.length:Int) < 4611686018427387904:=by have:=Z1D;unfold Len at hl;omega
 have hnp:=List.pairwise_iff_getElem.1 (Z62 hr).1
 have hft:∀ (k:Nat) (hk:k < l.length),l[k].From≤l[k].To:=fun k hk => (Z62 hr).2 _ (YW hk)
 have hcmp:∀ s:Span,(Z20 s t < 0 ↔ s.To < t)∧(s.From≤t→t≤s.To→Z20 s t = 0):=fun s => by
  unfold Z20
  by_cases q1:s.To < t
  ·rw [ZX q1,cond_true];exact ⟨by simp [q1],fun _ h => by omega⟩
  ·rw [ZW q1,cond_false]
   by_cases q2:s.From > t
   ·rw [ZX q2,cond_true];exact ⟨by simp [q1],fun h => by omega⟩
   ·rw [ZW q2,cond_false];exact ⟨by simp [q1],fun _ _ => rfl⟩
 obtain ⟨r,h1,p,rfl,hp,hlo,hhi⟩:=Z14 (step:=Z4.s0 l t (fun z0 z1 => some (Z20 z0 z1)))
  (I:=fun s => ∃ i j:Nat,s = ((i:Int),(j:Int))∧i≤j∧j≤l.length∧(∀ (k:Nat) (hk:k < l.length),k < i→l[k].To < t)∧∀ (k:Nat) (hk:k < l.length),j≤k→t≤l[k].To)
  (fun s => (s.2 - s.1).toNat)
  (fun r => ∃ p:Nat,r = (p:Int)∧p≤l.length∧(∀ (k:Nat) (hk:k < l.length),k < p→l[k].To < t)∧∀ (k:Nat) (hk:k < l.length),p≤k→t≤l[k].To) (by
  rintro s ⟨i,j,rfl,hij,hj,hlo,hhi⟩;unfold Z4.s0
  by_cases hlt:i < j
  ·have hm:w64 ((IntKind.u64.wrap (w64 ((i:Int) + j))).fdiv (2 ^ 1)) = ((i + j) / 2:Nat):=by
    rw [ZC (x:=(i:Int) + j) (by omega),Z5y,Y0a _ (by decide),ZC (by omega)]
    omega
   have hml:(i + j) / 2 < l.length:=by omega
   simp only [hm];rw [ZX (show (i:Int) < j by omega),cond_true,at?_nat hml]
   simp only [Y0];refine .inl ?_
   by_cases hc:Z20 l[(i + j) / 2] t < 0
   ·rw [ZX hc];have hto:=(hcmp _).1.1 hc
    refine ⟨((((i + j) / 2 + 1:Nat):Int),(j:Int)),?_,⟨(i + j) / 2 + 1,j,rfl,by omega,hj,fun k hk hk2 => ?_,hhi⟩,by simp;omega⟩
    ·rw [ZC (by omega)];simp
    ·by_cases he:k = (i + j) / 2
     ·subst he;exact hto
     ·have:=hnp k ((i + j) / 2) hk hml (by omega)
      have:=hft ((i + j) / 2) hml
      omega
   ·rw [ZW hc];have hto:¬ l[(i + j) / 2].To < t:=fun h => hc ((hcmp _).1.2 h)
    refine ⟨((i:Int),(((i + j) / 2:Nat):Int)),by simp,⟨i,(i + j) / 2,rfl,by omega,by omega,hlo,fun k hk hk2 => ?_⟩,by simp;omega⟩
    by_cases he:k = (i + j) / 2
    ·subst he;omega
    ·have:=hnp ((i + j) / 2) k hml hk (by omega)
     have:=hft k hk
     omega
  ·obtain rfl:i = j:=by omega
   exact .inr ⟨(i:Int),by rw [ZW (show ¬ (i:Int) < i by omega)];rfl,i,rfl,by omega,hlo,hhi⟩) (0,(l.length:Int)) ⟨0,l.length,rfl,YX _,YB _,fun k hk h => absurd h (Nat.not_lt_zero _),fun k hk h => absurd hk (by omega)⟩
 obtain ⟨s,hs,s1,s2⟩:=h
 obtain ⟨q,hq,rfl⟩:=Yj hs
 have hqp:q = p:=by
  rcases Nat.lt_trichotomy q p with h | h | h
  ·have:=hlo q hq h;omega
  ·exact h
  ·have hpl:p < l.length:=by omega
   have:=hhi p hpl (YB _)
   have:=hnp p q hpl hq h
   omega
 subst hqp
 unfold Z4a Z4
 rw [h1]
 simp only [Y0]
 rw [ZX (show (q:Int) < l.length by omega),cond_true,at?_nat hq]
 simp only [Y0,Bool.and_true]
 rw [(hcmp l[q]).2 s1 s2,ZX (show (q:Int) < l.length by omega)]
 rfl
theorem Z80 {f:Form} (hw:Z1K f) (i:Int):ZK f i = csz f i :=
 Z2r fun ⟨g,hg,_⟩ => by rw [hw.2.1] at hg;cases hg
def upIx (f:Form) (t:Int) (r:Nat):Int:=-((lstT (f.Core.getD r []) - t) / f.Period) * f.Count + r
theorem upIx_at {f:Form} (hs:Shape f) (hw:Z1K f) {r:Nat} (hr:r < f.Core.length) (t:Int) :
  lstT (csz f (upIx f t r)) ≥ t∧lstT (csz f (upIx f t r - f.Count)) < t:=by
 have h0:f.Count ≠ 0:=by have:=hw.1;omega
 have hcnt:=hs.count
 have hP:0 < f.Period:=by
  have h1:f.Period ≠ 0:=fun h => h0 (hs.zero.2 h)
  have:=hs.per
  omega
 have core:∀ q:Int,csz f (q * f.Count + r) = (f.Core.getD r []).map (ZU (q * f.Period)):=fun q => by
  rw [Z0r hw.1];have e1:(q * f.Count + (r:Int)) / f.Count = q:=by
   rw [Int.add_comm,Int.add_mul_ediv_right _ _ h0,Int.ediv_eq_zero_of_lt (by omega) (by omega),Y18]
  have e2:(q * f.Count + (r:Int)) % f.Count = r:=by
   rw [Int.add_comm,Int.add_mul_emod_self_right,Int.emod_eq_of_lt (by omega) (by omega)]
  unfold cs Z03 Z4L;rw [e1,e2,Y0D]
 have hne:f.Core.getD r [] ≠ []:=by
  rw [YE,Y2 hr];exact hw.2.2 _ (YW hr)
 unfold upIx
 generalize hL:lstT (f.Core.getD r []) = Lr
 have d1:=Yb (Lr - t) f.Period
 have d2:=Ya (Lr - t) (show f.Period ≠ 0 by omega)
 have d3:=Ye (Lr - t) hP
 generalize hq:(Lr - t) / f.Period = q at *
 have e3 : -q * f.Count + (r:Int) - f.Count = (-q - 1) * f.Count + r:=by rw [Int.sub_mul,Y17];omega
 rw [e3,core,core,(Z1j _ hne).1,(Z1j _ hne).1,hL]
 have e4:(-q - 1) * f.Period = -q * f.Period - f.Period:=by rw [Int.sub_mul,Y17]
 have e5 : -q * f.Period = -(f.Period * q):=by rw [Int.neg_mul,Yp]
 rw [e4,e5]
 omega
theorem place_eq {f:Form} (hl:Lim f) (hr:RightF f) (hw:Z1K f) (h12:f.Core.length≤6000) {i t:Int} (ht:Z0V (csz f i)) (h:hasT (csz f i) t) :
  Z6 f t = some (i,true):=by
 have hs:=hr.shape
 have h0:f.Count ≠ 0:=by have:=hw.1;omega
 have hcnt:=hs.count
 have hper:=hs.per
 have hP:0 < f.Period:=by
  have h1:f.Period ≠ 0:=fun h => h0 (hs.zero.2 h)
  omega
 have rt:=Z6q hs ht
 obtain ⟨s,hs1,t1,t2⟩:=h
 have hse:=Z5w rt hs1
 have hst:=ht s hs1
 have htk:ZG t:=by unfold ZG at hst ⊢;omega
 have ge:∀ r,r < f.Core.length→i≤upIx f t r:=fun r hr' => by
  rcases Y0g (upIx f t r) i with hlt | hge
  ·exfalso
   have h1:=(upIx_at hs hw hr' t).1
   have:=Z6c hs hr.turns hlt (Z1m hs hw _) (Z1m hs hw _)
   omega
  ·exact hge
 have i0:=Ya i h0
 have i1:=Ye i hw.1
 have le:upIx f t (i % f.Count).toNat≤i:=by
  have hr':(i % f.Count).toNat < f.Core.length:=by omega
  rcases Y0g i (upIx f t (i % f.Count).toNat) with hlt | hge
  ·exfalso
   have h2:=(upIx_at hs hw hr' t).2
   -- one turn less is not below i
   have hmod:(upIx f t (i % f.Count).toNat) % f.Count = i % f.Count:=by
    unfold upIx;rw [Int.add_comm,Int.add_mul_emod_self_right,Yo i0,Int.emod_emod_of_dvd _ (Int.dvd_refl _)]
   have hge2:i≤upIx f t (i % f.Count).toNat - f.Count:=by
    have d1:=Yb i f.Count
    have d2:=Yb (upIx f t (i % f.Count).toNat) f.Count
    rw [hmod] at d2;have hq:i / f.Count < (upIx f t (i % f.Count).toNat) / f.Count:=by
     rcases Y0g (i / f.Count) ((upIx f t (i % f.Count).toNat) / f.Count) with h | h
     ·exact h
     ·have:=YD h (show 0≤f.Count by omega)
      omega
    have:=YD (show i / f.Count + 1≤(upIx f t (i % f.Count).toNat) / f.Count by omega) (show 0≤f.Count by omega)
    rw [Int.mul_add,Int.mul_one] at this;omega
   rcases Int.lt_or_eq_of_le hge2 with h3 | h3
   ·have:=Z6c hs hr.turns h3 (Z1m hs hw _) (Z1m hs hw _)
    have hfl:fstT (csz f (upIx f t (i % f.Count).toNat - f.Count))≤lstT (csz f (upIx f t (i % f.Count).toNat - f.Count)):=by
     have e:csz f (upIx f t (i % f.Count).toNat - f.Count) = (Z03 f (upIx f t (i % f.Count).toNat - f.Count)).map (ZU ((upIx f t (i % f.Count).toNat - f.Count) / f.Count * f.Period)):=by rw [Z0r hw.1];rfl
     have hne:Z03 f (upIx f t (i % f.Count).toNat - f.Count) ≠ []:=hw.2.2 _ (Z0E hs h0 _).2
     rw [e,(Z1j _ hne).1,(Z1j _ hne).2];have:=Z4h (hs.core _ (Z0E hs h0 (upIx f t (i % f.Count).toNat - f.Count)).2) hne
     omega
    omega
   ·rw [← h3] at h2;omega
  ·exact hge
 have bnd:∀ r,r < f.Core.length→-6597069766656 * 6000 - 6000≤upIx f t r∧upIx f t r≤6597069766656 * 6000 + 6000:=fun r hr' => by
  unfold upIx;have hm:f.Core.getD r [] ∈ f.Core:=by
   rw [YE,Y2 hr'];exact YW hr'
  have hlt:=(ZAG (hs.core _ hm) (hw.2.2 _ hm)).1
  unfold ZG at hlt htk;have q1:(lstT (f.Core.getD r []) - t) / f.Period≤2199023255552:=Yx hP (by
   have:(2199023255552:Int) * 1≤2199023255552 * f.Period:=YD (by omega) (by decide)
   omega)
  have q2 : -2199023255552≤(lstT (f.Core.getD r []) - t) / f.Period:=Y06 hP (by
   have:(2199023255552:Int) * 1≤2199023255552 * f.Period:=YD (by omega) (by decide)
   omega)
  generalize (lstT (f.Core.getD r []) - t) / f.Period = q at *
  have m1 : -q * f.Count≤2199023255552 * f.Count:=YM (by omega) (by omega)
  have m2 : -2199023255552 * f.Count≤-q * f.Count:=YM (by omega) (by omega)
  omega
 obtain ⟨r,q1,q2⟩:=Z14 (step:=Z6.s0 f t)
  (I:=fun s => ∃ k:Nat,s.2.2 = (k:Int)∧k≤f.Core.length∧((k = 0∧s.1 = 0∧s.2.1 = false)∨(s.2.1 = true∧(∃ r,r < k∧s.1 = upIx f t r)∧∀ r,r < k→s.1≤upIx f t r)))
  (fun s => f.Core.length - s.2.2.toNat) (fun r => r = (i,true)) (by
  rintro ⟨at',ok,idx⟩ ⟨k,hk,hle,hinv⟩;simp only at hk hinv;subst hk;unfold Z6.s0;simp only
  by_cases hlt:k < f.Core.length
  ·refine .inl ?_;have hm:=YW hlt
   have hn:=hw.2.2 _ hm
   have hgd:f.Core.getD k [] = f.Core[k]:=by rw [YE,Y2 hlt];rfl
   rw [ZX (show (k:Int) < f.Core.length by omega),cond_true,at?_nat hlt]
   simp only [Y0];rw [hull_eq (hl.sets _ hm).1,if_neg hn];simp only [Y0,Yg,cond_false];have hw1:w64 ((k:Int) + 1) = ((k + 1:Nat):Int):=by rw [ZC (by omega)];push_cast;rfl
   have hbk:=bnd k hlt
   have hlt1:=(ZAG (hs.core _ hm) hn).1
   unfold ZG at hlt1 htk;unfold Z8U;simp only;rw [ZC (x:=lstT f.Core[k] - t) (by omega),Z1Z (by unfold In64;omega) hl.period,Z3I hP]
   simp only [Y0];have hix:upIx f t k = -((lstT f.Core[k] - t) / f.Period) * f.Count + k:=by unfold upIx;rw [hgd]
   have qb1:(lstT f.Core[k] - t) / f.Period≤2199023255552:=Yx hP (by
    have:(2199023255552:Int) * 1≤2199023255552 * f.Period:=YD (by omega) (by decide)
    omega)
   have qb2 : -2199023255552≤(lstT f.Core[k] - t) / f.Period:=Y06 hP (by
    have:(2199023255552:Int) * 1≤2199023255552 * f.Period:=YD (by omega) (by decide)
    omega)
   rw [ZC (x:=0 - (lstT f.Core[k] - t) / f.Period) (by omega),Int.zero_sub,ZC (x:=-((lstT f.Core[k] - t) / f.Period) * f.Count) (by omega),ZC (x:=-((lstT f.Core[k] - t) / f.Period) * f.Count + (k:Int)) (by omega),← hix]
   rcases hinv with ⟨rfl,rfl,rfl⟩ | ⟨rfl,⟨r1,hr1,rfl⟩,hall⟩
   ·simp only [Y0l,Bool.true_or,cond_true,Y0,Jx.elim];refine ⟨_,rfl,⟨0 + 1,hw1,hlt,.inr ⟨rfl,⟨0,by omega,rfl⟩,fun r hr' => ?_⟩⟩,by simp only [hw1];omega⟩
    obtain rfl:r = 0:=by omega
    exact Y0K _
   ·have hb1:=bnd r1 (by omega)
    rw [ZC (x:=upIx f t k - upIx f t r1) (by omega),Int.mul_one,ZC (x:=upIx f t k - upIx f t r1) (by omega)]
    by_cases hcm:upIx f t k - upIx f t r1 < 0
    ·rw [ZX hcm];simp only [Bool.or_true,cond_true,Y0,Jx.elim];refine ⟨_,rfl,⟨k + 1,hw1,hlt,.inr ⟨rfl,⟨k,by omega,rfl⟩,fun r hr' => ?_⟩⟩,by simp only [hw1];omega⟩
     by_cases hrk:r = k
     ·subst hrk;exact Y0K _
     ·have:=hall r (by omega)
      simp only;omega
    ·rw [ZW hcm];simp only [Yg,Y0h,cond_false,Y0,Jx.elim];refine ⟨_,rfl,⟨k + 1,hw1,hlt,.inr ⟨rfl,⟨r1,by omega,rfl⟩,fun r hr' => ?_⟩⟩,by simp only [hw1];omega⟩
     by_cases hrk:r = k
     ·subst hrk;simp only;omega
     ·exact hall r (by omega)
  ·refine .inr ⟨(at',ok),?_,?_⟩
   ·rw [ZW (show ¬ (k:Int) < f.Core.length by omega),cond_false]
   ·rcases hinv with ⟨rfl,_,_⟩ | ⟨rfl,⟨r1,hr1,rfl⟩,hall⟩
    ·exfalso;omega
    ·have h1:=ge r1 (by omega)
     have h2:=hall (i % f.Count).toNat (by omega)
     rw [show upIx f t r1 = i by omega]) (0,false,0) ⟨0,rfl,YX _,.inl ⟨rfl,rfl,rfl⟩⟩
 unfold Z6
 rw [q1,q2]
 rfl
theorem find_At_whole {f:Form} (hl:Lim f) (hr:RightF f) (hw:Z1K f) (h12:f.Core.length≤6000) {i t:Int} (hi:ZG i) (ht:Z0V (csz f i)) (h:hasT (csz f i) t):Z4l f t = some (i,true):=by
 have hs:=hr.shape
 have hset:=Z80 hw i
 have hfit:fits f i:=by unfold fits;rw [hset];exact ht
 have hne:=Z1m hs hw i
 have hpl:=place_eq hl hr hw h12 ht h
 have htk:ZG t:=by
  obtain ⟨s,hs1,t1,t2⟩:=h
  have:=ht s hs1
  unfold ZG at this ⊢;omega
 have hclamp:iMax (iMin t 1099511627777) (-1099511627777) = t:=by
  unfold ZG at htk;rw [iMax_eq,iMin_eq];omega
 have hform:Form.mk f.Period f.Count f.Core [] = f:=by
  rw [Z74];exact ⟨rfl,rfl,rfl,hw.2.1.symm⟩
 have ti:=hi
 unfold ZG at ti
 have hget:=Z54 hl hs (i:=i) (Z1s hi)
 rw [if_pos ⟨hi,hfit⟩,hset] at hget
 have hplain:Z1 f t = some (i,true):=by
  unfold Z1;rw [hpl];simp only [Y0,Yg,cond_false];have e1:loopO (Z1.s0 f) (0,[]) = some []:=by
   rw [Z71];unfold Z1.s0;rw [hw.2.1]
   rfl
  rw [e1];simp only [Y0];rw [hform,ZC (x:=i - 1) (by omega)]
  obtain ⟨r,e2,ha⟩:=Z43 hl hs (i:=i - 1) (by unfold In64;omega)
  have hri:r = (i,true):=by
   rcases ha with ⟨h1,h2,h3,h4,h5⟩ | ⟨h1,h2,h3⟩
   ·have h6:r.1 = i:=by
     rcases Int.lt_trichotomy r.1 i with h | h | h
     ·omega
     ·exact h
     ·have:=h5 i (by omega) h hi
      rw [hset] at this;exact absurd this hne
    obtain ⟨a,b⟩:=r
    simp only at h1 h6;rw [h1,h6]
   ·have:=h3 i (by omega) hi
    rw [hset] at this;exact absurd this hne
  rw [e2,hri];simp only [Y0];have e3:loopO (Z1.s1 f []) (i,true,0) = some (.ret (i,true)):=by
   rw [Z71];unfold Z1.s1;rw [hform];simp only [hget,Y0]
   rfl
  rw [e3]
  rfl
 unfold Z4l Z5W Z8
 rw [hclamp,hplain]
 simp only [Y0]
 have e4:loopO (Z8.s0 f t) (i,true,0) = some (i,true):=by
  rw [Z71];unfold Z8.s0;rw [hw.2.1]
  rfl
 rw [e4]
 simp only [Y0,Yg,cond_false]
 rw [hget]
 simp only [Y0]
 have hlen:Len (csz f i):=by rw [← hset];exact Z6m hl hs i
 rw [has_complete (Z6q hs ht) hlen h]
 rfl
end Go.Dn

namespace Go.Dn
open Go
theorem per_pos {f:Form} (hs:Shape f) (hw:Z1K f):0 < f.Period:=by
 have h0:f.Count ≠ 0:=by have:=hw.1;omega
 have h1:f.Period ≠ 0:=fun h => h0 (hs.zero.2 h)
 have:=hs.per
 omega
theorem turn14_eq {f C:Form} (hlf:Lim f) (hsf:Shape f) (hwf:Z1K f) (hlC:Lim C) (hsC:Shape C) (hwC:Z1K C) :
  Z3q f C = some (0,0,3)∨∃ a b:Int,1≤a∧1≤b∧a * C.Period = b * f.Period∧Z3q f C = some (C.Count * a,f.Count * b,0)∧C.Count * a≤6000∧f.Count * b≤60000:=by
 have pf:=per_pos hsf hwf
 have pC:=per_pos hsC hwC
 have hpf:=hsf.per
 have hpC:=hsC.per
 have cf:=hwf.1
 have cC:=hwC.1
 unfold Z3q
 rw [Z7o hlf.period hlC.period]
 unfold lcmS
 rw [if_neg (by omega)]
 obtain ⟨P,hP⟩ : ∃ P:Nat,f.Period = P:=⟨f.Period.toNat,by omega⟩
 obtain ⟨Q,hQ⟩ : ∃ Q:Nat,C.Period = Q:=⟨C.Period.toNat,by omega⟩
 rw [hP] at pf hpf
 rw [hQ] at pC hpC
 rw [hP,hQ]
 simp only [Y0r,Y0]
 have g0:0 < Nat.gcd P Q:=Y0T _ (by omega)
 obtain ⟨u,hu⟩:=Y13 P Q
 obtain ⟨v,hv⟩:=Nat.gcd_dvd_right P Q
 generalize Nat.gcd P Q = g at *
 have e1:P / g = u:=by rw [hu];exact Y0o u g0
 have u1:1≤u:=by
  rcases Y0Z u with h | h
  ·rw [h] at hu;omega
  ·exact h
 have v1:1≤v:=by
  rcases Y0Z v with h | h
  ·rw [h] at hv;omega
  ·exact h
 have hcross:u * Q = v * P:=by rw [hu,hv,Y0s g v,Y0s g u,← Y0W,← Y0W,Y0s u v]
 have hcrossI:((u:Int) * (Q:Int)) = (v:Int) * (P:Int):=by
  have:=congrArg (fun n:Nat => (n:Int)) hcross
  push_cast at this
  exact this
 have ub:u≤P:=by rw [hu];exact Y0H u g0
 have vb:v≤Q:=by rw [hv];exact Y0H v g0
 rw [e1]
 rcases Z7Q ((u:Int) * (Q:Int)) with ⟨f1,f2⟩ | ⟨f1,f2⟩
 ·rw [f2];simp only [bne_self_eq_false,cond_false];rw [nz?_ok (show (Q:Int) ≠ 0 by omega),nz?_ok (show (P:Int) ≠ 0 by omega)]
  simp only [Y0];have d1:((u:Int) * (Q:Int)).tdiv (Q:Int) = u:=Int.mul_tdiv_cancel _ (by omega)
  have d2:((u:Int) * (Q:Int)).tdiv (P:Int) = v:=by rw [hcrossI];exact Int.mul_tdiv_cancel _ (by omega)
  rw [d1,d2,ZC (x:=(u:Int)) (by omega),ZC (x:=(v:Int)) (by omega),Z2V hlC.count (by unfold In64;omega),Z2V hlf.count (by unfold In64;omega)]
  rcases Z7Q (C.Count * (u:Int)) with ⟨g1,g2⟩ | ⟨g1,g2⟩
  ·rcases Z7Q (f.Count * (v:Int)) with ⟨h1,h2⟩ | ⟨h1,h2⟩
   ·rw [g2,h2];simp only [bne_self_eq_false,Y0h,Y0U]
    by_cases hb:C.Count * (u:Int) > 6000∨f.Count * (v:Int) > 60000
    ·left
     have:(decide (C.Count * (u:Int) > 6000) || decide (f.Count * (v:Int) > 60000)) = true:=by
      simp only [Yk,decide_eq_true_eq];exact hb
     rw [this];rfl
    ·right
     rw [ZW (show ¬ C.Count * (u:Int) > 6000 by omega),ZW (show ¬ f.Count * (v:Int) > 60000 by omega)]
     exact ⟨u,v,by omega,by omega,hcrossI,rfl,by omega,by omega⟩
   ·left;rw [g2,h2];rfl
  ·left;rw [g2];rfl
 ·left
  rw [f2]
  rfl
theorem glue_fst {a b:List Span} (ha:a ≠ []):fstT (glue a b) = fstT a:=by
 obtain ⟨a',x,rfl⟩:=Z4t ha
 cases b with
 | nil => rw [Z4B]
 | cons s l =>
  rw [Z2I];cases a' with
  | nil =>
   unfold seam
   split <;> rfl
  | cons z a' => rfl
theorem ZAz {h:Int→List Span} {a:Int} (hn:h a ≠ []):∀ {n:Nat},1≤n→gl h a n ≠ []∧fstT (gl h a n) = fstT (h a)
 | 1,_ => by rw [gl_one];exact ⟨hn,rfl⟩
 | n + 2,_ => by
  obtain ⟨h1,h2⟩:=ZAz hn (n:=n + 1) (by omega)
  show glue (gl h a (n + 1)) (h (a + ((n + 1:Nat):Int))) ≠ []∧fstT (glue (gl h a (n + 1)) (h (a + ((n + 1:Nat):Int)))) = _
  rw [glue_fst h1,h2];exact ⟨fun h => h1 (glue_ne.1 h).1,rfl⟩
structure MadeOf (f C:Form) (β:Int→Int):Prop where
 up:∀ i,β i < β (i + 1)
 set:∀ i,csz C i = gl (csz f) (β i) (β (i + 1) - β i).toNat
 near:∀ i,0≤i→i≤6001→-1000000≤β i∧β i≤1000000
theorem MadeOf.head {f C:Form} {β:Int→Int} (h:MadeOf f C β) (hsf:Shape f) (hwf:Z1K f) (i:Int):fstT (csz C i) = fstT (csz f (β i)):=by
 have:=h.up i
 rw [h.set]
 exact (ZAz (Z1m hsf hwf _) (by omega)).2
theorem fst_inj {f:Form} (hs:Shape f) (ht:Turns f) (hw:Z1K f) {i j:Int} (h:fstT (csz f i) = fstT (csz f j)):i = j:=by
 have key:∀ {i j:Int},i < j→fstT (csz f i) ≠ fstT (csz f j):=fun {i j} hij he => by
  have h1:=Z6c hs ht hij (Z1m hs hw i) (Z1m hs hw j)
  have h0:f.Count ≠ 0:=by have:=hw.1;omega
  have e:csz f i = (Z03 f i).map (ZU (i / f.Count * f.Period)):=by rw [Z0r hw.1];rfl
  have hne:Z03 f i ≠ []:=hw.2.2 _ (Z0E hs h0 _).2
  have h2:=Z4h (hs.core _ (Z0E hs h0 i).2) hne
  rw [e,(Z1j _ hne).1] at h1;rw [e,(Z1j _ hne).2] at he;omega
 rcases Int.lt_trichotomy i j with h1 | h1 | h1
 ·exact absurd h (key h1)
 ·exact h1
 ·exact absurd h.symm (key h1)
theorem MadeOf.turn {f C:Form} {β:Int→Int} (h:MadeOf f C β) (hsf:Shape f) (htf:Turns f) (hwf:Z1K f) (hwC:Z1K C) {a b:Int} (hab:a * C.Period = b * f.Period) (i:Int):β (i + C.Count * a) = β i + f.Count * b:=by
 apply fst_inj hsf htf hwf
 rw [← h.head hsf hwf]
 have e1:csz C (i + C.Count * a) = (csz C i).map (ZU (a * C.Period)):=by
  rw [Z0r hwC.1];exact Z4X (by have:=hwC.1;omega) _ _
 have e2:csz f (β i + f.Count * b) = (csz f (β i)).map (ZU (b * f.Period)):=by
  rw [Z0r hwf.1];exact Z4X (by have:=hwf.1;omega) _ _
 have hnC:csz C i ≠ []:=by
  have:=h.up i
  rw [h.set];exact (ZAz (Z1m hsf hwf _) (by omega)).1
 rw [e1,e2,(Z1j _ hnC).2,(Z1j _ (Z1m hsf hwf _)).2,h.head hsf hwf,hab]
theorem Z9W {α:Type} (g:Nat→α) (k:Nat):(List.range k).map g ++ [g k] = (List.range (k + 1)).map g:=by rw [List.range_succ,Y00];rfl
theorem Z6h {α:Type} (g:Nat→α) {k n:Nat} (h:k < n):at? ((List.range n).map g) (k:Int) = some (g k):=by
 rw [at?_nat (by simpa using h)]
 simp
theorem range_cut {α:Type} (g:Nat→α) {k n:Nat} (h:k≤n):cut? ((List.range n).map g) 0 (k:Int) = some ((List.range k).map g):=by
 unfold cut?
 rw [if_pos (by simp;omega)]
 rw [← List.map_take,List.take_range,Nat.min_eq_left (by simp;omega)]
 simp
theorem parts_eq {f C:Form} (hlf:Lim f) (hrf:RightF f) (hnf:¬ Z4z f) (hwf:Z1K f) (hlC:Lim C) (hrC:RightF C) (hwC:Z1K C) {β:Int→Int} (h:MadeOf f C β)
  (hT:∀ i,-1000000≤i→i≤1000000→Z0V (csz f i)) :
  ZL f C = some ([],0,3)∨∃ (c:Nat) (a b:Int),ZL f C = some ((List.range c).map fun (j:Nat) => β j,f.Count * b,0)∧1≤a∧1≤b∧a * C.Period = b * f.Period∧(c:Int) = C.Count * a∧c≤6000∧f.Count * b≤60000∧β c = β 0 + f.Count * b:=by
 have hsf:=hrf.shape
 have hsC:=hrC.shape
 have cf:=hwf.1
 have cC:=hwC.1
 have hro:=Z4m
 have hfc:f.Core.length≤6000:=by unfold Z4z at hnf;omega
 obtain ⟨x1,w1,w2⟩:=whole_eq hlf
 obtain ⟨x2,w3,w4⟩:=whole_eq hlC
 have:x1 = true:=w2.2 hwf
 subst this
 have:x2 = true:=w4.2 hwC
 subst this
 unfold ZL
 rw [w1,w3]
 simp only [Y0,Yg,cond_false]
 rcases turn14_eq hlf hsf hwf hlC hsC hwC with e | ⟨a,b,a1,b1,hab,e,c6,f6⟩
 ·left;rw [e];rfl
 right
 rw [e]
 simp only [Y0,bne_self_eq_false,cond_false]
 have c1:1≤C.Count * a:=by
  have:=YD a1 (show 0≤C.Count by omega)
  omega
 obtain ⟨c,hc⟩ : ∃ c:Nat,C.Count * a = c:=⟨(C.Count * a).toNat,by omega⟩
 have hend:β c = β 0 + f.Count * b:=by
  have:=h.turn hsf hrf.turns hwf hwC hab 0
  rw [Y18,hc] at this;exact this
 rw [hc] at c6 c1 ⊢
 have near:=h.near
 have mono:∀ (n:Nat) (i:Int),β i≤β (i + n):=fun n => by
  induction n with
  | zero => intro i;simp
  | succ n ih =>
   intro i;have h1:=ih i
   have h2:=h.up (i + n)
   have e:i + ((n + 1:Nat):Int) = i + n + 1:=by push_cast;omega
   rw [e];omega
 have allT:∀ (i:Int) (n:Nat),0≤i→i + n≤6001→AllT f (β i) (β (i + n) - β i).toNat:=fun i n h1 h2 j hj => by
  have n1:=near i h1 (by omega)
  have n2:=near (i + n) (by omega) h2
  exact hT _ (by omega) (by omega)
 have tick:∀ k:Nat,k≤c→Z0V (csz C k):=fun k hk => by
  rw [h.set];have:=allT k 1 (by omega) (by omega)
  rw [show ((1:Nat):Int) = 1 from rfl] at this
  exact (gl_norm hsf hrf.turns _ this).2
 have rawC:∀ k:Nat,k≤c→Z0k C (k:Int) = some (csz C k,0):=fun k hk => by
  rw [raw_exact hlC hsC (by unfold In64;omega),if_pos (tick k hk)]
 rw [ZC (x:=(c:Int) + 1) (by omega)]
 have l0:loopO (ZL.s0 C ((c:Int),f.Count * b,0)) 0 = some (.go ()):=by
  refine Z1G (I:=fun s r => r = .go ()∧∃ k:Nat,s = (k:Int)∧k≤c + 1) (fun s => c + 1 - s.toNat) ?_ ⟨rfl,0,rfl,YX _⟩
  rintro s r ⟨rfl,k,rfl,hk⟩;unfold ZL.s0;rw [ZC (x:=(c:Int) + 1) (by omega)]
  by_cases hlt:k < c + 1
  ·left
   rw [ZX (show (k:Int) < c + 1 by omega),cond_true,rawC k (by omega)]
   simp only [Y0,bne_self_eq_false,cond_false];rw [ZC (x:=(k:Int) + 1) (by omega)]
   exact ⟨_,rfl,⟨(by first | rfl | trivial),k + 1,by push_cast;rfl,by omega⟩,by omega⟩
  ·right
   rw [ZW (by omega),cond_false]
 have l1:loopO (Z0D.s0 (S:=((List (List Span)) × (List Int)) × Nat) ((c:Int) + 1) C f (Z1J ZL.b1)) (0,(([],[]),0)) = some (.go (((List.range (c + 1)).map (fun (j:Nat) => csz C j),(List.range (c + 1)).map (fun (j:Nat) => β j)),0)):=by
  refine Z1G (I:=fun s r => r = .go (((List.range (c + 1)).map (fun (j:Nat) => csz C j),(List.range (c + 1)).map (fun (j:Nat) => β j)),0)∧∃ k:Nat,s = ((k:Int),(((List.range k).map (fun (j:Nat) => csz C j),(List.range k).map (fun (j:Nat) => β j)),0))∧k≤c + 1) (fun s => c + 1 - s.1.toNat) ?_ ⟨rfl,0,rfl,YX _⟩
  rintro s r ⟨rfl,k,rfl,hk⟩;unfold Z0D.s0;simp only
  by_cases hlt:k < c + 1
  ·left
   rw [ZX (show (k:Int) < c + 1 by omega),cond_true,rawC k (by omega)]
   simp only [Y0];have hup:=h.up k
   obtain ⟨g1,g2⟩:=ZAz (h:=csz f) (a:=β k) (Z1m hsf hwf _) (n:=(β ((k:Int) + 1) - β k).toNat) (by omega)
   rw [← h.set] at g1 g2;obtain ⟨s0,l0,hsl⟩:=Y0b g1
   have hat:at? (csz C (k:Int)) 0 = some s0:=by rw [hsl];rfl
   have hfs:s0.From = fstT (csz f (β k)):=by rw [← g2,hsl];rfl
   obtain ⟨u0,m0,hum⟩:=Y0b (Z1m hsf hwf (β k))
   have nk:=near k (by omega) (by omega)
   have tk:=hT (β k) (by omega) (by omega)
   have hu:u0.From≤u0.To:=by
    have:=((Z6q hsf tk).ok 0 u0 (by rw [hum];rfl)).2.2
    exact this
   have hfind:Z4l f s0.From = some (β k,true):=find_At_whole hlf hrf hwf hfc (by unfold ZG;omega) tk (by
    rw [hfs,hum];exact ⟨u0,YG,Y0K _,hu⟩)
   rw [hat];simp only [Y0];rw [hfind];simp only [Y0,Yg,cond_false,Z1J,if_true];unfold ZL.b1;rw [app?_ok (by simp only [YY,Y0C,Y05];omega),app?_ok (by simp only [YY,Y0C,Y05];omega)]
   simp only [Y0,Y8,beq_self_eq_true,Yg,cond_false];rw [Z9W (fun (j:Nat) => csz C j),Z9W (fun (j:Nat) => β j),ZC (x:=(k:Int) + 1) (by omega)]
   exact ⟨_,rfl,⟨(by first | rfl | trivial),k + 1,by push_cast;rfl,by omega⟩,by simp only;omega⟩
  ·right
   obtain rfl:k = c + 1:=by omega
   rw [ZW (by omega),cond_false]
 rw [l0]
 simp only [Y0,Jx.elim]
 unfold Z0D
 rw [l1]
 simp only [Y0,Jx.elim]
 have hlenB:((((List.range (c + 1)).map (fun (j:Nat) => β j)).length:Nat):Int) = c + 1:=by simp
 rw [hlenB,ZW (show ¬ ((c:Int) + 1≤c) by omega),cond_false]
 have hat0:at? ((List.range (c + 1)).map (fun (j:Nat) => β j)) 0 = some (β 0):=by
  have:=Z6h (fun (j:Nat) => β j) (k:=0) (n:=c + 1) (by omega)
  exact this
 rw [hat0,Z6h (fun (j:Nat) => β j) (show c < c + 1 by omega)]
 simp only [Y0]
 have n0:=near 0 (by omega) (by omega)
 have nc:=near c (by omega) (by omega)
 have hall:=allT 0 c (by omega) (by omega)
 rw [Y18] at hall
 rw [Z5D hlf hrf hnf hwf (by unfold In64;omega) (by unfold In64;omega),if_pos hall]
 simp only [Y0,bne_self_eq_false,cond_false]
 have hs1:some? ((List.range (c + 1)).map (fun (j:Nat) => csz C j)) = some ():=by
  rw [List.range_succ_eq_map];rfl
 have hs2:some? ((List.range (c + 1)).map (fun (j:Nat) => β j)) = some ():=by
  rw [List.range_succ_eq_map];rfl
 rw [hs1,hs2,range_cut (fun (j:Nat) => csz C j) (show c≤c + 1 by omega),range_cut (fun (j:Nat) => β j) (show c≤c + 1 by omega)]
 simp only [Y0]
 have l2:loopO (ZL.s2 f (((List.range (c + 1)).map (fun (j:Nat) => csz C j),(List.range (c + 1)).map (fun (j:Nat) => β j)),0) ((List.range c).map (fun (j:Nat) => csz C j))) 0 = some (.go ()):=by
  refine Z1G (I:=fun s r => r = .go ()∧∃ k:Nat,s = (k:Int)∧k≤c) (fun s => c - s.toNat) ?_ ⟨rfl,0,rfl,YX _⟩
  rintro s r ⟨rfl,k,rfl,hk⟩;unfold ZL.s2;have hlenS:((((List.range c).map (fun (j:Nat) => csz C j)).length:Nat):Int) = c:=by simp
  rw [hlenS]
  by_cases hlt:k < c
  ·left
   rw [ZX (show (k:Int) < c by omega),cond_true,Z6h (fun (j:Nat) => csz C j) hlt]
   simp only [Y0];have hw:w64 ((k:Int) + 1) = ((k + 1:Nat):Int):=by rw [ZC (by omega)];push_cast;rfl
   rw [hw,Z6h (fun (j:Nat) => β j) (show k < c + 1 by omega),Z6h (fun (j:Nat) => β j) (show k + 1 < c + 1 by omega)]
   simp only [Y0];have nk:=near k (by omega) (by omega)
   have nk1:=near ((k + 1:Nat):Int) (by omega) (by omega)
   have hall:=allT k 1 (by omega) (by omega)
   have ek:(k:Int) + ((1:Nat):Int) = ((k + 1:Nat):Int):=by push_cast;rfl
   rw [ek] at hall;rw [Z5D hlf hrf hnf hwf (by unfold In64;omega) (by unfold In64;omega),if_pos hall]
   simp only [Y0];have hset:gl (csz f) (β k) (β ((k + 1:Nat):Int) - β k).toNat = csz C k:=by
    rw [h.set];push_cast;rfl
   rw [hset];have hlen:Len (csz C k):=by rw [← Z80 hwC];exact Z6m hlC hsC _
   obtain ⟨r,r1,r2⟩:=Z8v (a:=csz C k) (b:=csz C k) hlen
   have:r = true:=r2.2 rfl
   subst this;rw [r1];simp only [Y0,Yg,cond_false];exact ⟨_,rfl,⟨(by first | rfl | trivial),k + 1,rfl,by omega⟩,by omega⟩
  ·right
   obtain rfl:k = c:=by omega
   rw [ZW (by omega),cond_false]
 rw [l2]
 exact ⟨c,a,b,rfl,a1,b1,hab,hc.symm,by omega,f6,hend⟩
end Go.Dn

namespace Go.Dn
open Go
theorem ZBU {F g:Form} (hl:Lim F) (hr:RightF F) (hg:ZT F = some g) (hn:∀ i,csz F i ≠ []) (he:∀ i,ZK F i = csz F i):Z1K g∧csz g = csz F∧Lim g∧RightF g∧ZT g = some g:=by
 have hs:=hr.shape
 obtain ⟨c,hc,hcf⟩:=Z1a hl hs
 rw [hg] at hcf
 cases hcf
 obtain ⟨g2,fg,lg,rg,_,fixg,_⟩:=canon_facts hl hr
 rw [hg] at fg
 cases fg
 have hz:=Z5a hs hc
 have hcnt:=rg.shape.count
 refine ⟨⟨?_,?_,fun l hl' => ?_⟩,hz,lg,rg,fixg⟩
 ·rcases Y0g 0 (Z1T F c).Count with h | h
  ·exact h
  ·exfalso
   apply hn 0;rw [← hz];exact if_pos (by omega)
 ·rw [List.eq_nil_iff_forall_not_mem];intro x hx;rw [Z2a,Z8Z] at hx;have:=Z0q hs.inc hx.1
  rw [he] at this;exact hx.2 this
 ·intro h;subst h;obtain ⟨j,hj,e⟩:=Yj hl'
  apply hn j;rw [← hz,Z0r (by omega)]
  unfold cs Z03;rw [Int.emod_eq_of_lt (by omega) (by omega),Y0D,YE,Y2 hj,e]
  rfl
structure PairF (f:Form) (K:Nat) (g:Form):Prop where
 small:Z6a f
 right:RightF f
 per:f.Period≤300
 whole:Z1K f
 near:∀ l ∈ f.Core,∀ s ∈ l,-1073741824≤s.From∧s.To≤1073741824
 group:Za f K = some (g,0)
theorem few14_eq {f:Form} (hl:Lim f):∃ b,Z1n f = some b∧(b = true ↔ (Z6a f∧RightF f)∧f.Period≤300):=by
 unfold Z1n
 obtain ⟨b,h1,h2⟩:=right13_eq hl
 rw [h1]
 refine ⟨_,rfl,?_⟩
 rw [Y9,decide_eq_true_iff,h2]
theorem pair_eq {f:Form} (hl:Lim f) {m:Int} (hm:0≤m∧m≤255):∃ (K:Nat) (r:Form × Form × Bool),(K:Int) = w64 (1 + w64 (m.tmod 9))∧1≤K∧K≤9∧Z08 f m = some r∧(r.2.2 = true→r.1 = f∧PairF f K r.2.1):=by
 obtain ⟨K,hK,k1,k2⟩ : ∃ K:Nat,(K:Int) = w64 (1 + w64 (m.tmod 9))∧1≤K∧K≤9:=by
  refine ⟨(1 + m % 9).toNat,?_,by omega,by omega⟩
  rw [Yz hm.1,ZC (x:=m % 9) (by omega),ZC (by omega)]
  omega
 unfold Z08
 rw [← hK]
 obtain ⟨b,e1,i1⟩:=few14_eq hl
 rw [e1]
 simp only [Y0]
 cases b with
 | false => exact ⟨K,(f,f,false),rfl,k1,k2,rfl,fun h => by cases h⟩
 | true =>
 obtain ⟨⟨sf,rf⟩,pf⟩:=i1.1 rfl
 have hs:=rf.shape
 have hcnt:=hs.count
 simp only [Yg,Y0U]
 by_cases hc:f.Count = 0∨f.Odd ≠ []
 ·have:((f.Count == 0) || decide ((f.Odd.length:Int) > 0)) = true:=by
   rcases hc with h | h
   ·rw [Z98 h];rfl
   ·have:=List.length_pos_iff.2 h
    rw [ZX (show (f.Odd.length:Int) > 0 by omega),Bool.or_true]
  rw [this];exact ⟨K,(f,f,false),rfl,k1,k2,rfl,fun h => by cases h⟩
 ·have h0:f.Count ≠ 0:=fun h => hc (.inl h)
  have hodd:f.Odd = []:=Classical.byContradiction fun h => hc (.inr h)
  rw [Z4Q h0,hodd,ZW (show ¬ ((([] : List Granule).length:Int) > 0) by simp)]
  simp only [Y0h,cond_false];have b60:=sf.b60
  have hlen12:=b60.core
  rcases Z3a (l:=f.Core) (step:=Z08.s0 f) (good:=fun _ l => l ≠ []∧-1073741824≤fstT l∧lstT l≤1073741824) (no:=.ret (f,f,false)) (yes:=.go ()) (fun k x hx _ => by
   obtain ⟨hk,rfl⟩:=List.getElem?_eq_some_iff.1 hx
   have hmem:=YW hk
   have h60:=b60.sets _ hmem
   unfold Z08.s0;rw [ZX (show (k:Int) < f.Core.length by omega),cond_true,at?_nat hk]
   simp only [Y0]
   by_cases hn:f.Core[k] = []
   ·right
    rw [hn];exact ⟨rfl,fun h => h.1 rfl⟩
   ·have hrk:=hs.core _ hmem
    generalize f.Core[k] = l at *
    have hpos:=List.length_pos_iff.2 hn
    rw [Z4Q (show ¬ (l.length:Int) = 0 by omega),cond_false]
    obtain ⟨l',x,hlx⟩:=Z4t hn
    obtain ⟨s,l'',hls⟩:=Y0b hn
    have ef:at? l 0 = some s:=by rw [hls];rfl
    have efs:fstT l = s.From:=by rw [hls];rfl
    have el:at? l (w64 ((l.length:Int) - 1)) = some x:=by
     rw [ZC (by omega),hlx]
     exact at?_last
    have els:lstT l = x.To:=by rw [hlx];unfold lstT;simp
    rw [ef,el,efs,els];simp only [Y0]
    by_cases c1:s.From < -1073741824
    ·right
     rw [ZX c1];exact ⟨rfl,fun h => by have:=h.2.1;omega⟩
    ·rw [ZW c1];simp only [cond_false,Y0]
     by_cases c2:x.To > 1073741824
     ·right
      rw [ZX c2];exact ⟨rfl,fun h => by have:=h.2.2;omega⟩
     ·left
      rw [ZW c2,cond_false,ZC (by omega)]
      exact ⟨rfl,hn,by omega,by omega⟩) (by
   unfold Z08.s0;rw [ZW (by omega),cond_false]) with ⟨e,h⟩ | ⟨e,h⟩
  ·rw [e];simp only [Y0,Jx.elim];obtain ⟨g,e2,h1,_⟩:=group_eq2 (m:=K) hl hs b60 k1 (by omega) (by omega)
   rw [h1];simp only [Y0];refine ⟨K,_,rfl,k1,k2,rfl,fun he => ⟨rfl,sf,rf,pf,⟨by omega,hodd,fun l hl' => ?_⟩,fun l hl' s hs' => ?_,?_⟩⟩
   ·obtain ⟨k,hk⟩:=YC hl'
    exact (h k l hk).1
   ·obtain ⟨k,hk⟩:=YC hl'
    have h3:=h k l hk
    have h4:=Z5w (hs.core l hl') hs'
    omega
   ·have:e2 = 0:=eq_of_beq he
    rw [h1,this]
  ·rw [e];exact ⟨K,(f,f,false),rfl,k1,k2,rfl,fun h => by cases h⟩
theorem PairF.ticks {f g:Form} {K:Nat} (h:PairF f K g):∀ i,-1000000≤i→i≤1000000→Z0V (csz f i):=fun i h1 h2 s hs' => by
 have hs:=h.right.shape
 have hw:=h.whole
 have h0:f.Count ≠ 0:=by have:=hw.1;omega
 have hper:=hs.per
 have h3:=h.per
 have e:csz f i = (Z03 f i).map (ZU (i / f.Count * f.Period)):=by rw [Z0r hw.1];rfl
 rw [e] at hs'
 obtain ⟨x,hx,rfl⟩:=List.mem_map.1 hs'
 have hm:=(Z0E hs h0 i).2
 have hn:=h.near _ hm x hx
 have hft:=(Z62 (hs.core _ hm)).2 x hx
 have q1:i / f.Count≤1000000:=Yx hw.1 (by
  have:(1000000:Int) * 1≤1000000 * f.Count:=YD (by have:=hw.1;omega) (by decide)
  omega)
 have q2 : -1000000≤i / f.Count:=Y06 hw.1 (by
  have:(1000000:Int) * 1≤1000000 * f.Count:=YD (by have:=hw.1;omega) (by decide)
  omega)
 generalize i / f.Count = q at *
 have m1:q * f.Period≤1000000 * f.Period:=YM q1 (by omega)
 have m2 : -1000000 * f.Period≤q * f.Period:=YM q2 (by omega)
 show ZG (x.From + q * f.Period)∧ZG (x.To + q * f.Period)
 unfold ZG
 omega
theorem PairF.coarse {f g:Form} {K:Nat} (hl:Lim f) (h:PairF f K g) (k1:1≤K) (k2:K≤9):Z1K g∧Lim g∧RightF g∧Bnd g∧ZT g = some g∧MadeOf f g (fun i => i * K):=by
 have hs:=h.right.shape
 have hw:=h.whole
 obtain ⟨g',e,h1,h2,_⟩:=group_eq2 (m:=K) hl hs h.small.b60 k1 (by omega) (by omega)
 rw [h.group] at h1
 obtain ⟨rfl,rfl⟩:=Prod.mk.inj (Option.some.inj h1)
 obtain ⟨F,hG,lF,rF,nF,hc⟩:=h2 rfl
 have hne:∀ i,csz F i ≠ []:=fun i => by
  rw [hG.csz];exact (ZAz (Z1m hs hw _) k1).1
 have hset:∀ i,ZK F i = csz F i:=fun i => by
  rw [hG.set,hG.csz];exact gl_congr fun j _ => Z80 hw _
 obtain ⟨wg,cg,lg,rg,fg⟩:=ZBU lF rF hc hne hset
 obtain ⟨c,hco,hcf⟩:=Z1a lF rF.shape
 rw [hc] at hcf
 have hb:Bnd g:=by
  cases hcf;exact canonF_bnd (hG.bnd.small (by omega)) hco
 refine ⟨wg,lg,rg,hb,fg,fun i => by simp only [Y0S];omega,fun i => ?_,fun i h1 h2 => ?_⟩
 ·rw [cg,hG.csz];have:((i + 1) * (K:Int) - i * K).toNat = K:=by rw [Y0S];omega
  rw [this]
 ·have m1:i * (K:Int)≤6001 * K:=YM h2 (by omega)
  have m2:0≤i * (K:Int):=Y0G h1 (by omega)
  omega
end Go.Dn

namespace Go.Dn
open Go
structure PartsOK (x:List Int × Int × Int):Prop where
 some:1≤x.1.length
 few:x.1.length≤6000
 tick:∀ y ∈ x.1,In64 y
end Go.Dn

namespace Go.Dn
open Go
def bet (β:Int→Int) (k l m:Int) (i:Int):Int:=β i + k * ((i - 1 - l) / m + 1)
def Made (f:Form) (β:Int→Int) (x:Form):Prop:=∃ F,(∀ i,csz F i = gl (csz f) (β i) (β (i + 1) - β i).toNat)∧F.Odd = []∧Lim F∧RightF F∧ZT F = some x
theorem odd_none {F:Form} (h:F.Odd = []):ZK F = csz F:=by
 funext i
 refine Z2r fun ⟨x,hx,_⟩ => ?_
 rw [h] at hx
 cases hx
theorem ZAr {f x y:Form} {β:Int→Int} (hx:Made f β x) (hy:Made f β y):x = y:=by
 obtain ⟨F,f1,f2,f3,f4,f5⟩:=hx
 obtain ⟨G,g1,g2,g3,g4,g5⟩:=hy
 have e:csz G = csz F:=funext fun i => by rw [f1,g1]
 have:=canon_same f3 g3 f4.shape g4.shape e (by rw [odd_none f2,odd_none g2,e])
 rw [f5,g5] at this
 exact (Option.some.inj this).symm
theorem Made.facts {f x:Form} {β:Int→Int} (hsf:Shape f) (hwf:Z1K f) (h:Made f β x) (up:∀ i,β i < β (i + 1)):Z1K x∧Lim x∧RightF x∧∀ i,csz x i = gl (csz f) (β i) (β (i + 1) - β i).toNat:=by
 obtain ⟨F,f1,f2,f3,f4,f5⟩:=h
 have hne:∀ i,csz F i ≠ []:=fun i => by
  have:=up i
  rw [f1];exact (ZAz (Z1m hsf hwf _) (by omega)).1
 obtain ⟨w,c,l,r,_⟩:=ZBU f3 f4 f5 hne (fun i => by rw [odd_none f2])
 exact ⟨w,l,r,fun i => by rw [c,f1]⟩
theorem up_by {β:Int→Int} (up:∀ i,β i < β (i + 1)) (i:Int):∀ t:Nat,β i + t≤β (i + t)
 | 0 => by simp
 | t + 1 => by
  have h1:=up_by up i t
  have h2:=up (i + t)
  have e:i + ((t + 1:Nat):Int) = i + t + 1:=by push_cast;omega
  rw [e]
  push_cast
  omega
theorem met_bound {i l m:Int} (h0:0≤i) (h1:i≤72000) (hl:0≤l) (hlm:l < m):0≤(i - 1 - l) / m + 1∧(i - 1 - l) / m + 1≤72001:=by
 have hm:0 < m:=by omega
 have a1 : -1≤(i - 1 - l) / m:=Y06 hm (by omega)
 have a2:(i - 1 - l) / m≤72000:=Yx hm (by
  have:(72000:Int) * 1≤72000 * m:=YD (by omega) (by decide)
  omega)
 omega
theorem k_bound {k q:Int} (hk : -18≤k∧k≤18) (h0:0≤q) (h1:q≤72001) : -1296018≤k * q∧k * q≤1296018:=by
 have a1:k * q≤18 * q:=YM hk.2 h0
 have a2 : -18 * q≤k * q:=YM hk.1 h0
 omega
theorem altered_eq {β:Int→Int} {c:Nat} {F k l m:Int} (c1:1≤c) (c6:c≤6000) (F1:0≤F) (F6:F≤60000) (hk : -18≤k∧k≤18) (hl:0≤l) (hlm:l < m) (hm:m≤12)
  (near:∀ i,0≤i→i≤6001→-1000000≤β i∧β i≤1000000) (per:∀ i s,β (i + c * s) = β i + F * s) {i:Int} (h0:0≤i) (h1:i≤72000) :
  Zt i (((List.range c).map fun (j:Nat) => β j).length:Int) l m ((List.range c).map fun (j:Nat) => β j) F k = some (bet β k l m i)∧-10000000000≤bet β k l m i∧bet β k l m i≤10000000000:=by
 have hlen:((((List.range c).map (fun (j:Nat) => β j)).length:Nat):Int) = c:=by simp
 unfold Zt
 rw [hlen,Z1Z (by unfold In64;omega) (by unfold In64;omega),Z3I (by omega)]
 simp only [Y0]
 rw [ZC (x:=i - 1) (by omega),ZC (x:=i - 1 - l) (by omega),Z1Z (by unfold In64;omega) (by unfold In64;omega),Z3I (by omega)]
 simp only [Y0]
 have q0:=Ya i (show (c:Int) ≠ 0 by omega)
 have q1:=Ye i (show (0:Int) < c by omega)
 have q2:=Yb i c
 have q3:0≤i / (c:Int):=Int.ediv_nonneg h0 (by omega)
 have q4:i / (c:Int)≤72000:=Yx (by omega) (by
  have:(72000:Int) * 1≤72000 * c:=YD (by omega) (by decide)
  omega)
 obtain ⟨t,ht⟩ : ∃ t:Nat,i % (c:Int) = t:=⟨(i % (c:Int)).toNat,by omega⟩
 have hb:β i = β t + F * (i / c):=by
  have:=per (i % (c:Int)) (i / c)
  rw [q2,ht] at this;exact this
 rw [ht,Z6h (fun (j:Nat) => β j) (show t < c by omega)]
 simp only [Y0]
 have n1:=near t (by omega) (by omega)
 obtain ⟨m1,m2⟩:=met_bound h0 h1 hl hlm
 obtain ⟨k1,k2⟩:=k_bound hk m1 m2
 unfold bet
 rw [hb]
 generalize β (t:Int) = bt at *
 generalize i / (c:Int) = q at *
 have f1:F * q≤60000 * q:=YM F6 q3
 have f0:0≤F * q:=Y0G F1 q3
 rw [ZC (x:=(i - 1 - l) / m + 1) (by omega),Yp q F,ZC (x:=F * q) (by omega),ZC (x:=bt + F * q) (by omega)]
 generalize k * ((i - 1 - l) / m + 1) = kk at *
 rw [ZC (x:=kk) (by omega),ZC (x:=bt + F * q + kk) (by omega)]
 exact ⟨rfl,by omega,by omega⟩
theorem Z9x {f C:Form} (hlf:Lim f) (hrf:RightF f) (hnf:¬ Z4z f) (hwf:Z1K f) (hlC:Lim C) (hrC:RightF C) (hwC:Z1K C) {β:Int→Int} (h:MadeOf f C β)
  (hT:∀ i,-1000000≤i→i≤1000000→Z0V (csz f i)) {k l m:Int} (hk : -18≤k∧k≤18) (hl:0≤l) (hlm:l < m) (hm:m≤12) (up:∀ i,bet β k l m i < bet β k l m (i + 1)) :
  ∃ x e,Zb f C k l m = some (x,e)∧((e = 3∨e = 20)∨(e = 0∧Made f (bet β k l m) x)):=by
 have hsf:=hrf.shape
 have hcf:=hwf.1
 have hper:=hsf.per
 have hfc:f.Core.length≤6000:=by unfold Z4z at hnf;omega
 have hcnt:=hsf.count
 have hro:=Z4m
 unfold Zb
 have hargs:((((((decide (m < 1)) || (decide (m > 6000))) || (decide (l < 0))) || (decide (l ≥ m))) || (decide (k < (-6000)))) || (decide (k > 6000))) = false:=by
  rw [ZW (show ¬ m < 1 by omega),ZW (show ¬ m > 6000 by omega),ZW (show ¬ l < 0 by omega),ZW (show ¬ l ≥ m by omega),ZW (show ¬ k < -6000 by omega),ZW (show ¬ k > 6000 by omega)]
  rfl
 rw [hargs,cond_false]
 rcases parts_eq hlf hrf hnf hwf hlC hrC hwC h hT with e3 | ⟨c,a,b,e3,a1,b1,hab,hc,c6,f6,hend⟩
 ·rw [e3];exact ⟨_,_,rfl,.inl (.inl rfl)⟩
 rw [e3]
 have c1:1≤c:=by
  have:=YD a1 (show 0≤C.Count by have:=hwC.1;omega)
  have:=hwC.1
  omega
 simp only [Y0,bne_self_eq_false,cond_false]
 have per:∀ i s,β (i + c * s) = β i + f.Count * b * s:=fun i s => by
  have:=h.turn hsf hrf.turns hwf hwC (a:=a * s) (b:=b * s) (by rw [Int.mul_right_comm,hab,Int.mul_right_comm]) i
  rw [hc,Yc,Yc];exact this
 have F1:1≤f.Count * b:=by
  have:=YD b1 (show 0≤f.Count by omega)
  omega
 have alt:=fun (i:Int) (h0:0≤i) (h1:i≤72000) => altered_eq c1 c6 (by omega) f6 hk hl hlm hm h.near per h0 h1
 generalize f.Count * b = F at *
 obtain ⟨n,q,r,hn1,n0,n72,hnq,hnr⟩ : ∃ n q r:Nat,Z3X ((((List.range c).map fun (j:Nat) => β j).length:Nat):Int) m = some ((n:Int),0)∧1≤n∧n≤72000∧(n:Int) = m * q∧n = c * r:=by
  obtain ⟨mm,rfl⟩ : ∃ mm:Nat,m = mm:=⟨m.toNat,by omega⟩
  have hlen:((((List.range c).map (fun (j:Nat) => β j)).length:Nat):Int) = c:=by simp
  rw [hlen,Z7o (by unfold In64;omega) (by unfold In64;omega)]
  unfold lcmS;rw [if_neg (by omega)]
  simp only [Y0r];have g0:0 < Nat.gcd c mm:=Y0T _ (by omega)
  have d1:1≤c / Nat.gcd c mm:=Nat.div_pos (Nat.le_of_dvd (by omega) (Y13 _ _)) g0
  have d2:c / Nat.gcd c mm≤c:=Nat.div_le_self _ _
  have d3:c / Nat.gcd c mm * mm = c * (mm / Nat.gcd c mm):=by
   obtain ⟨u,hu⟩:=Y13 c mm
   obtain ⟨v,hv⟩:=Nat.gcd_dvd_right c mm
   generalize Nat.gcd c mm = g at *
   have e1:c / g = u:=by rw [hu];exact Y0o u g0
   have e2:mm / g = v:=by rw [hv];exact Y0o v g0
   rw [e1,e2,hu,hv,← Y0W,Y0s u g]
  refine ⟨c / Nat.gcd c mm * mm,c / Nat.gcd c mm,mm / Nat.gcd c mm,?_,?_,?_,?_,d3⟩
  ·have m1:c / Nat.gcd c mm * mm≤6000 * 12:=Y07 (by omega) (by omega)
   have e:((c / Nat.gcd c mm:Nat):Int) * (mm:Int) = ((c / Nat.gcd c mm * mm:Nat):Int):=by push_cast;rfl
   rw [e,ZA0 (by unfold In64;omega)]
  ·have m2:1 * 1≤c / Nat.gcd c mm * mm:=Y07 d1 (by omega)
   omega
  ·have m1:c / Nat.gcd c mm * mm≤6000 * 12:=Y07 (by omega) (by omega)
   omega
  ·push_cast
   exact Yp _ _
 have bper:∀ i s,bet β k l m (i + n * s) = bet β k l m i + (F * r + k * q) * s:=fun i s => by
  unfold bet;have e1:β (i + n * s) = β i + F * r * s:=by
   rw [hnr];have:=per i (r * s)
   rw [← Yc,← Yc] at this
   push_cast
   exact this
  have e2:(i + n * s - 1 - l) / m = (i - 1 - l) / m + q * s:=by
   rw [hnq,show i + m * q * s - 1 - l = (i - 1 - l) + m * (q * s) by rw [Yc];omega]
   exact Int.add_mul_ediv_left _ _ (by omega)
  rw [e1,e2,Y0S,show (i - 1 - l) / m + q * s + 1 = (i - 1 - l) / m + 1 + q * s by omega,Int.mul_add,Yc k]
  omega
 have hall:bet β k l m n = bet β k l m 0 + (F * r + k * q):=by
  have:=bper 0 1
  rw [Int.mul_one,Int.mul_one,Y18] at this;exact this
 have hpos:1≤F * r + k * q:=by
  have:=up_by up 0 n
  rw [Y18] at this;omega
 obtain ⟨an1,an2,an3⟩:=alt n (by omega) (by omega)
 obtain ⟨a01,a02,a03⟩:=alt 0 (by omega) (by omega)
 rw [hn1]
 simp only [Y0]
 rw [an1,a01]
 simp only [Y0]
 have ey:w64 (bet β k l m n - bet β k l m 0) = F * r + k * q:=by
  rw [ZC (by omega)];omega
 rw [ey]
 have hybound:F * r + k * q≤20000000000:=by omega
 generalize F * (r:Int) + k * (q:Int) = y at *
 by_cases hbig:(n:Int) > 6000
 ·rw [ZX hbig];exact ⟨_,_,rfl,.inl (.inl rfl)⟩
 rw [ZW hbig,cond_false]
 have l0:loopO (Zb.s0 k l m ((List.range c).map (fun (j:Nat) => β j),F,0) ((n:Int),y)) 0 = some (.go ()):=by
  refine Z1G (I:=fun s r => r = .go ()∧∃ t:Nat,s = (t:Int)∧t≤n) (fun s => n - s.toNat) ?_ ⟨rfl,0,rfl,YX _⟩
  rintro s r ⟨rfl,t,rfl,ht⟩;unfold Zb.s0;simp only
  by_cases hlt:t < n
  ·left
   rw [ZX (show (t:Int) < n by omega),cond_true,ZC (x:=(t:Int) + 1) (by omega),(alt ((t:Int) + 1) (by omega) (by omega)).1,(alt t (by omega) (by omega)).1]
   simp only [Y0];have:=up t
   rw [ZW (by omega)]
   exact ⟨_,rfl,⟨(by first | rfl | trivial),t + 1,by push_cast;rfl,by omega⟩,by omega⟩
  ·right
   obtain rfl:t = n:=by omega
   rw [ZW (by omega),cond_false]
 rw [l0]
 simp only [Y0,Jx.elim]
 rw [safe_Gcd_eq' (by unfold In64;omega) (by unfold In64;omega)]
 simp only [Y0]
 obtain ⟨N,hN⟩ : ∃ N:Nat,f.Count = N:=⟨f.Count.toNat,by omega⟩
 obtain ⟨Y,hY⟩ : ∃ Y:Nat,y = Y:=⟨y.toNat,by omega⟩
 obtain ⟨g,tm,av,hg,g0,hgt,hga⟩ : ∃ g tm av:Nat,Nat.gcd f.Count.natAbs y.natAbs = g∧0 < g∧N = g * tm∧Y = g * av:=by
  rw [hN,hY,Y0r,Y0r];obtain ⟨u,hu⟩:=Y13 N Y
  obtain ⟨v,hv⟩:=Nat.gcd_dvd_right N Y
  exact ⟨Nat.gcd N Y,u,v,rfl,Y0T _ (by omega),hu,hv⟩
 rw [hg]
 have tN:tm≤N:=by rw [hgt];exact Y0H tm g0
 have gN:g≤N:=by
  have:tm ≠ 0:=fun h => by rw [h] at hgt;omega
  rw [hgt];exact Y0j g (by omega)
 have aY:av≤Y:=by rw [hga];exact Y0H av g0
 rw [ZA0 (by unfold In64;omega)]
 simp only
 rw [nz?_ok (by omega),nz?_ok (by omega)]
 simp only [Y0]
 have t1:f.Count.tdiv (g:Int) = tm:=by
  rw [hN,hgt];push_cast;exact Int.mul_tdiv_cancel_left _ (by omega)
 rw [t1,ZC (x:=(tm:Int)) (by omega)]
 have m1:n * tm≤6000 * 6000:=Y07 (by omega) (by omega)
 have m2:1 * 1≤n * tm:=Y07 n0 (by
  have:tm ≠ 0:=fun h => by rw [h] at hgt;omega
  omega)
 have m3:Y * tm≤20000000000 * 6000:=Y07 (by omega) (by omega)
 have en:(n:Int) * (tm:Int) = ((n * tm:Nat):Int):=by push_cast;rfl
 have eY:y * (tm:Int) = ((Y * tm:Nat):Int):=by rw [hY];push_cast;rfl
 rw [en,eY,ZC (x:=((n * tm:Nat):Int)) (by omega),ZC (x:=((Y * tm:Nat):Int)) (by omega)]
 have hdiv:(((Y * tm:Nat):Int)).tdiv f.Count = av:=by
  have:Y * tm = N * av:=by rw [hga,hgt,Y0W,Y0W,Y0s av tm]
  rw [hN,this];push_cast;exact Int.mul_tdiv_cancel_left _ (by omega)
 rw [hdiv,ZC (x:=(av:Int)) (by omega)]
 by_cases hc6:(decide (((n * tm:Nat):Int) > 6000) || decide (((Y * tm:Nat):Int) > 60000)) = true
 ·rw [hc6];exact ⟨_,_,rfl,.inl (.inl rfl)⟩
 have hc6':=hc6
 simp only [Yk,decide_eq_true_eq] at hc6'
 rw [Y09] at hc6
 rw [hc6,cond_false]
 rw [Z2V (a:=(av:Int)) (by unfold In64;omega) hlf.period]
 rcases Z7Q ((av:Int) * f.Period) with ⟨fp1,fp2⟩ | ⟨fp1,fp2⟩
 case inr => rw [fp2];exact ⟨_,_,rfl,.inl (.inr rfl)⟩
 have hmulE:Z7 (av:Int) f.Period = ((av:Int) * f.Period,0):=by
  rw [Z2V (a:=(av:Int)) (by unfold In64;omega) hlf.period,fp2]
 rw [fp2]
 simp only [bne_self_eq_false,Y0U]
 by_cases hlong:(av:Int) * f.Period > 1099511627776
 ·rw [ZX hlong];exact ⟨_,_,rfl,.inl (.inr rfl)⟩
 rw [ZW hlong,cond_false]
 generalize hM:n * tm = M at *
 obtain ⟨z,l1,hz⟩:=Z14 (step:=Zb.s1 f k l m ((List.range c).map (fun (j:Nat) => β j),F,0) ((n:Int),y) ((g:Int),0))
  (fun s => ∃ t:Nat,t≤M∧s = ((t:Int),(List.range t).map fun (j:Nat) => gl (csz f) (bet β k l m j) (bet β k l m ((j:Int) + 1) - bet β k l m j).toNat)∧∀ j:Nat,j < t→AllT f (bet β k l m j) (bet β k l m ((j:Int) + 1) - bet β k l m j).toNat) (fun s => M - s.1.toNat)
  (fun r => r = .ret (Form.mk 0 0 [] [],20)∨(r = .go ((List.range M).map (fun (j:Nat) => gl (csz f) (bet β k l m j) (bet β k l m ((j:Int) + 1) - bet β k l m j).toNat),(av:Int) * f.Period,(M:Int))∧∀ j:Nat,j < M→AllT f (bet β k l m j) (bet β k l m ((j:Int) + 1) - bet β k l m j).toNat)) (by
  rintro s ⟨t,ht,rfl,hall'⟩;unfold Zb.s1;simp only;rw [t1,ZC (x:=(tm:Int)) (by omega),en,ZC (x:=((M:Nat):Int)) (by omega),eY,ZC (x:=((Y * tm:Nat):Int)) (by omega),hdiv,ZC (x:=(av:Int)) (by omega),hmulE]
  by_cases hlt:t < M
  ·obtain ⟨b1,b2,b3⟩:=alt ((t:Int) + 1) (by omega) (by omega)
   obtain ⟨b4,b5,b6⟩:=alt t (by omega) (by omega)
   rw [ZX (show (t:Int) < M by omega),cond_true,ZC (x:=(t:Int) + 1) (by omega),b1,b4]
   simp only [Y0];rw [Z5D hlf hrf hnf hwf (by unfold In64;omega) (by unfold In64;omega)]
   simp only [Y0]
   by_cases ha:AllT f (bet β k l m t) (bet β k l m ((t:Int) + 1) - bet β k l m t).toNat
   ·left
    rw [if_pos ha];simp only [bne_self_eq_false,cond_false];rw [app?_ok (by simp only [YY,Y0C,Y05];omega)]
    simp only [Y0];rw [Z9W (fun (j:Nat) => gl (csz f) (bet β k l m j) (bet β k l m ((j:Int) + 1) - bet β k l m j).toNat)]
    refine ⟨_,rfl,⟨t + 1,by omega,by push_cast;rfl,fun j hj => ?_⟩,by simp only;omega⟩
    by_cases hjt:j = t
    ·subst hjt;exact ha
    ·exact hall' j (by omega)
   ·right
    rw [if_neg ha];exact ⟨_,rfl,.inl rfl⟩
  ·right
   obtain rfl:t = M:=by omega
   rw [ZW (by omega),cond_false]
   exact ⟨_,rfl,.inr ⟨rfl,hall'⟩⟩) (0,[]) ⟨0,YX _,rfl,fun j hj => absurd hj (Nat.not_lt_zero _)⟩
 rw [l1]
 rcases hz with rfl | ⟨rfl,hA⟩
 ·exact ⟨_,_,rfl,.inl (.inr rfl)⟩
 simp only [Y0,Jx.elim]
 have lim:Lim (Form.mk ((av:Int) * f.Period) (M:Int) ((List.range M).map fun (j:Nat) => gl (csz f) (bet β k l m j) (bet β k l m ((j:Int) + 1) - bet β k l m j).toNat) []):=by
  have r:=Z1D
  refine ⟨?_,fun L hL => ?_,by simp,fun g hg => (by cases hg),?_,fp1⟩
  ·show ((List.range M).map _).length * 24≤reachBytes
   rw [YY,Y0C];omega
  ·obtain ⟨j,hj,rfl⟩:=List.mem_map.1 hL
   obtain ⟨g1,g2⟩:=gl_norm hsf hrf.turns _ (hA j (List.mem_range.1 hj))
   have:=tick_len g1 g2
   exact ⟨by unfold Len;omega,fun s hs' => ⟨Z1s (g2 s hs').1,Z1s (g2 s hs').2⟩⟩
  ·show In64 (M:Int)
   unfold In64;omega
 generalize hFF:Form.mk ((av:Int) * f.Period) (M:Int) ((List.range M).map fun (j:Nat) => gl (csz f) (bet β k l m j) (bet β k l m ((j:Int) + 1) - bet β k l m j).toNat) [] = G at *
 unfold Z1c
 rcases Z6Q lim with ⟨_,e⟩ | ⟨_,h3,e⟩ | ⟨_,_,e⟩
 ·rw [e];exact ⟨_,_,rfl,.inl (by first | exact .inl rfl | exact .inr rfl)⟩
 ·rw [e];simp only [Y0,beq_self_eq_true,cond_true];obtain ⟨cc,_,hcc⟩:=Z1a lim h3.shape
  rw [hcc];refine ⟨_,_,rfl,.inr ⟨rfl,G,fun i => ?_,by rw [← hFF],lim,h3,hcc⟩⟩
  have M0:(M:Int) ≠ 0:=by omega
  have hGc:G.Count = (M:Int):=by rw [← hFF]
  rw [Z0r (show 0 < G.Count by rw [hGc];omega)]
  have i0:=Ya i M0
  have i1:=Ye i (show (0:Int) < M by omega)
  have e1:Z03 G i = gl (csz f) (bet β k l m (i % M)) (bet β k l m (i % M + 1) - bet β k l m (i % M)).toNat:=by
   rw [← hFF]
   show ((List.range M).map fun (j:Nat) => gl (csz f) (bet β k l m j) (bet β k l m ((j:Int) + 1) - bet β k l m j).toNat).getD (i % (M:Int)).toNat [] = _
   rw [YE,YP,List.getElem?_range (by omega)]
   simp only [Y8,Y0X];rw [Yo i0]
  have e2:cs G i = (Z03 G i).map (ZU (i / (M:Int) * ((av:Int) * f.Period))):=by
   rw [← hFF];rfl
  rw [e2,e1];have hb2:∀ j s:Int,bet β k l m (j + M * s) = bet β k l m j + f.Count * (av * s):=fun j s => by
   have:=bper j (tm * s)
   have e3:(M:Int) * s = (n:Int) * (tm * s):=by rw [← hM,← Yc];push_cast;rfl
   have e4:y * (tm * s) = f.Count * (av * s):=by
    rw [← Yc,← Yc,eY,hN];have:Y * tm = N * av:=by rw [hga,hgt,Y0W,Y0W,Y0s av tm]
    rw [this];push_cast;rfl
   rw [e3,this,e4]
  have h1:=Yb i M
  have sh:∀ j,csz f (j + f.Count * (av * (i / M))) = (csz f j).map (ZU (av * (i / M) * f.Period)):=fun j => by
   rw [Z0r hcf];exact Z4X (by omega) j _
  have b1:bet β k l m i = bet β k l m (i % M) + f.Count * (av * (i / M)):=by
   have:=hb2 (i % M) (i / M)
   rw [h1] at this;exact this
  have b2:bet β k l m (i + 1) = bet β k l m (i % M + 1) + f.Count * (av * (i / M)):=by
   have:=hb2 (i % M + 1) (i / M)
   rw [show i % (M:Int) + 1 + M * (i / M) = i + 1 by omega] at this
   exact this
  rw [b1,b2,gl_shift sh];have e5:(bet β k l m (i % M + 1) + f.Count * (av * (i / M)) - (bet β k l m (i % M) + f.Count * (av * (i / M)))) = bet β k l m (i % M + 1) - bet β k l m (i % M):=by omega
  rw [e5]
  congr 2
  rw [← Yc,Yp (i / (M:Int))]
 ·rw [e];exact ⟨_,_,rfl,.inl (by first | exact .inl rfl | exact .inr rfl)⟩
theorem ZCh (f:Form) (g k n l m:Int) (hf:f.ok) (hg:okI .u8 g) (hk:okI .u8 k) (hn:okI .u8 n) (hl':okI .u8 l) (hm:okI .u8 m):Z1v f g k n l m = some true:=by
 have hl:=Form.lim hf
 have hk':0≤k∧k≤255:=hk
 have hn':0≤n∧n≤255:=hn
 have hll:0≤l∧l≤255:=hl'
 have hm':0≤m∧m≤255:=hm
 unfold Z1v
 obtain ⟨K,r,hK,k1,k2,e1,hr⟩:=pair_eq hl (m:=g) hg
 rw [e1]
 simp only [Y0]
 cases hok:r.2.2 with
 | false => rfl
 | true =>
 obtain ⟨r1,hp⟩:=hr hok
 rw [r1]
 generalize r.2.1 = C at *
 simp only [Yg,cond_false]
 obtain ⟨wg,lg,rg,bg,cg,mg⟩:=hp.coarse hl k1 k2
 have hnf:¬ Z4z f:=hp.small.bnd.short
 have hsf:=hp.right.shape
 have hw:=hp.whole
 obtain ⟨a,ha,a1,a2⟩ : ∃ a:Int,w64 (1 + w64 (m.tmod 12)) = a∧1≤a∧a≤12:=by
  refine ⟨1 + m % 12,?_,by omega,by omega⟩
  rw [Yz hm'.1,ZC (x:=m % 12) (by omega),ZC (by omega)]
 obtain ⟨x,hx,x1,x2⟩ : ∃ x:Int,w64 (k.tmod 10) = x∧0≤x∧x≤9:=by
  refine ⟨k % 10,?_,by omega,by omega⟩
  rw [Yz hk'.1,ZC (x:=k % 10) (by omega)]
 obtain ⟨y,hy,y1,y2⟩ : ∃ y:Int,w64 (n.tmod 10) = y∧0≤y∧y≤9:=by
  refine ⟨n % 10,?_,by omega,by omega⟩
  rw [Yz hn'.1,ZC (x:=n % 10) (by omega)]
 obtain ⟨rest,hrest,t1,t2⟩ : ∃ t:Int,(w64 l).tmod a = t∧0≤t∧t < a:=by
  refine ⟨l % a,?_,Ya _ (by omega),Ye _ (by omega)⟩
  rw [ZC (x:=l) (by omega),Yz hll.1]
 rw [ha,hx,hy,hrest,nz?_ok (by omega),ZC (x:=x + y) (by omega),ZC (x:=0 - x) (by omega)]
 simp only [Y0]
 have same:∀ {x:Form},Lim x→Z3 x x = some true:=fun {x} hx => by
  obtain ⟨r,h1,h2⟩:=alikeForms_eq (a:=x) (b:=x) hx
  rw [h1,h2.2 rfl]
 have step:∀ i:Int,(i - 1 - rest) / a + 1≤(i + 1 - 1 - rest) / a + 1:=fun i => by
  have:=Int.ediv_le_ediv (c:=a) (show 0 < a by omega) (show i - 1 - rest≤i + 1 - 1 - rest by omega)
  omega
 have upK:∀ z:Int,0≤z→∀ i,bet (fun i => i * (K:Int)) z rest a i < bet (fun i => i * (K:Int)) z rest a (i + 1):=fun z hz i => by
  unfold bet;have:=YD (step i) hz
  have e:(i + 1) * (K:Int) = i * K + K:=by rw [Y0S,Y17]
  simp only;rw [e];omega
 have madeB:∀ {C:Form} {z:Int},0≤z→z≤9→Made f (bet (fun i => i * (K:Int)) z rest a) C→Z1K C∧Lim C∧RightF C∧MadeOf f C (bet (fun i => i * (K:Int)) z rest a):=fun {C z} z1 z2 hM => by
  obtain ⟨w,l',r',c'⟩:=hM.facts hsf hw (upK z z1)
  refine ⟨w,l',r',upK z z1,c',fun i h1 h2 => ?_⟩
  obtain ⟨b1,b2⟩:=met_bound h1 (by omega) t1 t2
  have b3:=Y0G z1 b1
  have b4:z * ((i - 1 - rest) / a + 1)≤9 * ((i - 1 - rest) / a + 1):=YM z2 b1
  have m1:i * (K:Int)≤6001 * K:=YM h2 (by omega)
  have m2:0≤i * (K:Int):=Y0G h1 (by omega)
  unfold bet;simp only;omega
 have bet2:∀ z u:Int,bet (bet (fun i => i * (K:Int)) z rest a) u rest a = bet (fun i => i * (K:Int)) (z + u) rest a:=fun z u => by
  funext i
  unfold bet;simp only;rw [Y0S z u];omega
 obtain ⟨q0,e0,f0,d0⟩:=Z9x hl hp.right hnf hw lg rg wg mg hp.ticks (k:=0) (by omega) t1 t2 a2 (upK 0 (by omega))
 rw [f0]
 simp only [Y0]
 rcases d0 with (rfl | rfl) | ⟨rfl,M0⟩
 ·rfl
 ·rfl
 simp only [bne_self_eq_false,cond_false]
 rw [cg]
 simp only [Y0]
 have hCq:q0 = C:=by
  refine ZAr M0 ⟨C,fun i => ?_,wg.2.1,lg,rg,cg⟩
  rw [mg.set];unfold bet;simp only [Int.zero_mul,Int.add_zero]
 obtain ⟨_,lq0,_,_⟩:=madeB (by omega) (by omega) M0
 rw [← hCq,same lq0]
 simp only [Y0,Yg,cond_false]
 rw [hCq]
 obtain ⟨q1,e1',f1,d1⟩:=Z9x hl hp.right hnf hw lg rg wg mg hp.ticks (k:=x) (by omega) t1 t2 a2 (upK x x1)
 rw [f1]
 simp only [Y0]
 rcases d1 with (rfl | rfl) | ⟨rfl,M1⟩
 ·rfl
 ·rfl
 simp only [bne_self_eq_false,cond_false]
 obtain ⟨w1,l1,r1',m1⟩:=madeB x1 x2 M1
 obtain ⟨q2,e2,f2,d2⟩:=Z9x hl hp.right hnf hw l1 r1' w1 m1 hp.ticks (k:=0 - x) (by omega) t1 t2 a2 (by
  rw [bet2,show x + (0 - x) = 0 by omega]
  exact upK 0 (by omega))
 rw [f2]
 simp only [Y0]
 have back:(((bif e2 == 0 then (Z3 q2 C).bind fun x7 => some !x7 else some false).bind fun y1 => some (y1 || e2 != 0 && e2 != 3 && e2 != 20)):Option Bool) = some false:=by
  rcases d2 with (rfl | rfl) | ⟨rfl,M2⟩
  ·rfl
  ·rfl
  ·rw [bet2,show x + (0 - x) = 0 by omega] at M2
   have:=ZAr M2 M0
   rw [this,hCq,same lg]
   rfl
 obtain ⟨b,hb1,hb2⟩ : ∃ b:Bool,(bif e2 == 0 then (Z3 q2 C).bind fun x7 => some !x7 else some false) = some b∧(b || e2 != 0 && e2 != 3 && e2 != 20) = false:=by
  cases hh:(bif e2 == 0 then (Z3 q2 C).bind fun x7 => some !x7 else some false) with
  | none => rw [hh] at back;cases back
  | some b => rw [hh] at back;exact ⟨b,rfl,Option.some.inj back⟩
 rw [hb1]
 simp only [Y0]
 rw [hb2,cond_false]
 obtain ⟨q3,e3,f3,d3⟩:=Z9x hl hp.right hnf hw l1 r1' w1 m1 hp.ticks (k:=y) (by omega) t1 t2 a2 (by
  rw [bet2];exact upK (x + y) (by omega))
 obtain ⟨q4,e4,f4,d4⟩:=Z9x hl hp.right hnf hw lg rg wg mg hp.ticks (k:=x + y) (by omega) t1 t2 a2 (upK (x + y) (by omega))
 rw [f3,f4]
 simp only [Y0]
 rcases d3 with (rfl | rfl) | ⟨rfl,M3⟩
 ·rfl
 ·rfl
 rcases d4 with (rfl | rfl) | ⟨rfl,M4⟩
 ·rfl
 ·rfl
 rw [bet2] at M3
 have e34:=ZAr M3 M4
 obtain ⟨_,l4,_,_⟩:=M4.facts hsf hw (upK (x + y) (by omega))
 simp only [bne_self_eq_false,Y0h,cond_false]
 rw [e34,same l4]
 rfl
end Go.Dn
