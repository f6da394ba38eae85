/- Part 5 of what the row stands on. -/
import Derived.Test.YtfknindefmcgdaaM4
set_option linter.unusedVariables false
set_option linter.unusedSimpArgs false
namespace Go.Dn
open Go
theorem Z1T:reachBytes = 140737488351232:=rfl
def ZB (t:Int):Prop:=-1099511627776≤t∧t≤1099511627776
instance (t:Int):Decidable (ZB t):=by unfold ZB;infer_instance
theorem Z6M (t:Int):Z0k t = decide (ZB t):=by
 rw [Bool.eq_iff_iff,decide_eq_true_iff];simp [Z0k,ZB]
theorem Z77 (t:Int):Z0v t = decide (ZB t):=by
 rw [Bool.eq_iff_iff,decide_eq_true_iff];simp [Z0v,ZB]
theorem Z25 {t:Int} (h:ZB t):In64 t:=by unfold ZB at h;unfold In64;omega
structure RightL (l:List Span):Prop where
 ok:∀ (k:Nat) (s:Span),l[k]? = some s→ZB s.From∧ZB s.To∧s.From≤s.To
 gap:∀ (k:Nat) (s t:Span),l[k]? = some s→l[k + 1]? = some t→s.To + 2≤t.From
abbrev Len (l:List Span):Prop:=l.length * 16≤reachBytes
abbrev Sp64 (l:List Span):Prop:=∀ s ∈ l,In64 s.From∧In64 s.To
theorem Span.ok64 {s:Span} (h:s.ok):In64 s.From∧In64 s.To:=h
theorem okSpans {l:List Span} (h:okL 16 Span.ok l):Len l∧Sp64 l:=⟨h.1,fun s hs => Span.ok64 (h.2 s hs)⟩
theorem RightL.sp64 {l:List Span} (h:RightL l):Sp64 l:=fun s hs => by
 obtain ⟨k,hk⟩:=YC hs
 have:=h.ok k s hk
 exact ⟨Z25 this.1,Z25 this.2.1⟩
def Z54 (l:List Span) (k:Nat) (s:Span):Prop:=ZB s.From∧ZB s.To∧s.From≤s.To∧∀ p,k ≠ 0→l[k - 1]? = some p→p.To + 2≤s.From
theorem Z7N {l:List Span}:RightL l ↔ ∀ k s,l[k]? = some s→Z54 l k s:=by
 constructor
 ·intro h k s hk;obtain ⟨h1,h2,h3⟩:=h.ok k s hk
  refine ⟨h1,h2,h3,fun p h0 hp => ?_⟩
  have:k - 1 + 1 = k:=by omega
  exact h.gap (k - 1) p s hp (by rw [this];exact hk)
 ·intro h;refine ⟨fun k s hk => ⟨(h k s hk).1,(h k s hk).2.1,(h k s hk).2.2.1⟩,fun k s t hs ht => (h (k + 1) t ht).2.2.2 s (by omega) (by simpa using hs)⟩
theorem Z7q {l:List Span} (hl:Len l) (h64:Sp64 l):∃ b,Z05 l = some b∧(b = true ↔ RightL l):=by
 have hlen:l.length≤maxLen:=by rw [ZAf];have:=Z1T;unfold Len at hl;omega
 have step:∀ (k:Nat) (s:Span),l[k]? = some s→(∀ j y,j < k→l[j]? = some y→Z54 l j y)→∃ b,Z05.s0 l (k:Int) = (if b = true then some (.inl ((k:Int) + 1)) else some (.inr (.ret false)))∧(b = true ↔ Z54 l k s):=by
  intro k s hk hprev;have hlt:=(List.getElem?_eq_some_iff.1 hk).1
  have hat:at? l (k:Int) = some s:=by rw [at?_nat hlt];rw [Y2 hlt] at hk;exact hk
  unfold Z05.s0;rw [ZU (show (k:Int) < l.length by omega),cond_true,hat]
  simp only [Y0,Z6M];have hk1:w64 ((k:Int) + 1) = k + 1:=ZF (by rw [ZAf] at hlen;omega)
  by_cases h1:ZB s.From∧ZB s.To∧s.From≤s.To
  ·have:(!decide (ZB s.From) || !decide (ZB s.To) || decide (s.From > s.To)) = false:=by
    rw [ZU h1.1,ZU h1.2.1,ZZ (by omega)];rfl
   rw [this,cond_false]
   by_cases h0:k = 0
   ·subst h0;refine ⟨true,by simp [w64];rw [Z6a];rfl,by simp [Z54,h1]⟩
   ·have hk0:(k:Int) > 0:=by omega
    have hpl:k - 1 < l.length:=by omega
    have hp:at? l (w64 ((k:Int) - 1)) = some l[k - 1]:=by
     rw [ZF (by rw [ZAf] at hlen;omega),show ((k:Int) - 1) = ((k - 1:Nat):Int) by omega,at?_nat hpl]
    have hpg:=hprev (k - 1) _ (by omega) (Y2 hpl)
    have hpt:w64 (l[k - 1].To + 2) = l[k - 1].To + 2:=by
     have:=hpg.2.1;unfold ZB at this;exact ZF (by omega)
    rw [ZU hk0,cond_true,hp];simp only [Y0,hpt];refine ⟨!decide (s.From < l[k - 1].To + 2),?_,?_⟩
    ·cases hd:decide (s.From < l[k - 1].To + 2) <;> simp [hk1]
    ·simp only [YX,decide_eq_false_iff_not,Z54]
     constructor
     ·intro h;refine ⟨h1.1,h1.2.1,h1.2.2,fun p _ hp' => ?_⟩
      rw [Y2 hpl] at hp';cases hp';omega
     ·intro h;have:=h.2.2.2 _ h0 (Y2 hpl);omega
  ·refine ⟨false,?_,by simp only [YA,Z54,false_iff];intro h;exact h1 ⟨h.1,h.2.1,h.2.2.1⟩⟩
   have:(!decide (ZB s.From) || !decide (ZB s.To) || decide (s.From > s.To)) = true:=by
    by_cases a1:ZB s.From
    ·by_cases a2:ZB s.To
     ·have a3:s.From > s.To:=by
       apply Classical.byContradiction;intro h;exact h1 ⟨a1,a2,by omega⟩
      rw [ZU a3];simp
     ·rw [ZZ a2];simp
    ·rw [ZZ a1];simp
   rw [this];rfl
 unfold Z05
 rcases Z3Z (l:=l) (step:=Z05.s0 l) (Z54 l) (no:=.ret false) (yes:=.go ()) (fun k x hk hp => by
   obtain ⟨b,h1,h2⟩:=step k x hk hp
   cases b
   ·exact .inr ⟨h1,fun h => by have:=h2.2 h;cases this⟩
   ·exact .inl ⟨h1,h2.1 rfl⟩) (by
   unfold Z05.s0;rw [ZZ (by omega)];rfl) with ⟨h1,h2⟩ | ⟨h1,h2⟩
 ·rw [h1];exact ⟨true,rfl,by simp [Z7N.2 h2]⟩
 ·rw [h1];exact ⟨false,rfl,by simp only [YA,false_iff];exact fun h => h2 (Z7N.1 h)⟩
def ZS (by_:Int) (s:Span):Span:=⟨s.From + by_,s.To + by_⟩
theorem Z4m {l:List Span} {b:Int} (hl:Len l) (h64:Sp64 l) (hb:In64 b) :
  ((∀ s ∈ l,ZB (s.From + b)∧ZB (s.To + b))∧Z0B l b = some (l.map (ZS b),0))∨((¬ ∀ s ∈ l,ZB (s.From + b)∧ZB (s.To + b))∧Z0B l b = some ([],20)):=by
 have hlen:(l.length:Int) < 9223372036854775807:=by have:=Z1T;unfold Len at hl;omega
 have step:∀ (k:Nat) (s:Span) (acc:List Span),l[k]? = some s→acc.length = k→Z0B.s0 l b ((k:Int),acc) = if ZB (s.From + b)∧ZB (s.To + b) then some (.inl ((k:Int) + 1,acc ++ [ZS b s])) else some (.inr (.ret ([],20))):=by
  intro k s acc hk hacc;have hlt:=(List.getElem?_eq_some_iff.1 hk).1
  have hat:at? l (k:Int) = some s:=by rw [at?_nat hlt];rw [Y2 hlt] at hk;exact hk
  obtain ⟨f64,t64⟩:=h64 s (Y6 hk)
  unfold Z0B.s0;rw [ZU (show (k:Int) < l.length by omega),cond_true,hat]
  simp only [Y0];rw [ZBY f64 hb,ZBY t64 hb,Z6M,Z6M];have hk1:w64 ((k:Int) + 1) = k + 1:=ZF (by omega)
  have happ:∀ x:Span,app? 16 acc [x] = some (acc ++ [x]):=fun x => app?_ok (by
   have:=Z1T;have:=Z3g;unfold Len at hl;simp;omega)
  rcases Z7x (s.From + b) with ⟨q1,q2⟩ | ⟨q1,q2⟩ <;> rcases Z7x (s.To + b) with ⟨q3,q4⟩ | ⟨q3,q4⟩ <;> rw [q2,q4]
  ·by_cases h:ZB (s.From + b)∧ZB (s.To + b)
   ·rw [if_pos h,ZU h.1,ZU h.2];simp [happ,hk1,ZS]
   ·rw [if_neg h];have:(!decide (ZB (s.From + b)) || !decide (ZB (s.To + b))) = true:=by
     by_cases h1:ZB (s.From + b)
     ·rw [ZZ (fun h2 => h ⟨h1,h2⟩)];simp
     ·rw [ZZ h1];simp
    simp only [bne_self_eq_false,Y0Y,Bool.or_assoc] at this ⊢;rw [this];rfl
  ·rw [if_neg (fun h => q3 (Z25 h.2))];rfl
  ·rw [if_neg (fun h => q1 (Z25 h.1))];rfl
  ·rw [if_neg (fun h => q1 (Z25 h.1))];rfl
 have hend:∀ acc,Z0B.s0 l b ((l.length:Int),acc) = some (.inr (.go acc)):=fun acc => by unfold Z0B.s0;rw [ZZ (by omega)];rfl
 unfold Z0B
 by_cases hall:∀ s ∈ l,ZB (s.From + b)∧ZB (s.To + b)
 ·refine .inl ⟨hall,?_⟩;have:loopO (Z0B.s0 l b) (0,[]) = some (.go (l.map (ZS b))):=by
   refine Z1G (I:=fun (s:Int × List Span) r => r = .go (l.map (ZS b))∧∃ k:Nat,k≤l.length∧s = ((k:Int),(l.take k).map (ZS b))) (fun s => l.length - s.1.toNat) ?_ ⟨rfl,0,YV _,by simp⟩
   rintro s r ⟨rfl,k,hk,rfl⟩
   by_cases hlt:k < l.length
   ·refine .inl ⟨_,by rw [step k l[k] _ (Y2 hlt) (by simp;omega),if_pos (hall _ (YU hlt))],⟨rfl,k + 1,hlt,?_⟩,by simp;omega⟩
    rw [Y0X hlt,Yo];push_cast;rfl
   ·have:k = l.length:=by omega
    subst this;rw [Y0J];exact .inr (hend _)
  rw [this];rfl
 ·refine .inr ⟨hall,?_⟩;obtain ⟨k0,s0,hk0,hb0,hg⟩:=ZAZ (l:=l) (good:=fun _ s => ZB (s.From + b)∧ZB (s.To + b)) (fun h => hall fun s hs => by
   obtain ⟨k,hk⟩:=YC hs;exact h k s hk)
  have hlt0:=(List.getElem?_eq_some_iff.1 hk0).1
  have:loopO (Z0B.s0 l b) (0,[]) = some (.ret ([],20)):=by
   refine Z1G (I:=fun (s:Int × List Span) r => r = .ret ([],20)∧∃ k:Nat,k≤k0∧s.1 = (k:Int)∧s.2.length = k) (fun s => l.length - s.1.toNat) ?_ ⟨rfl,0,YV _,rfl,rfl⟩
   rintro ⟨i,acc⟩ r ⟨rfl,k,hk,h1,h2⟩;simp only at h1 h2;subst h1
   by_cases hlt:k < k0
   ·have hkl:k < l.length:=by omega
    exact .inl ⟨_,by rw [step k l[k] _ (Y2 hkl) h2,if_pos (hg k _ hlt (Y2 hkl))],⟨rfl,k + 1,hlt,by push_cast;rfl,by simp;omega⟩,by simp;omega⟩
   ·have:k = k0:=by omega
    subst this;exact .inr (by rw [step k s0 _ hk0 h2,if_neg hb0])
  rw [this];rfl
theorem RightL.shift {l:List Span} {b:Int} (h:RightL l) (ht:∀ s ∈ l,ZB (s.From + b)∧ZB (s.To + b)):RightL (l.map (ZS b)):=by
 constructor
 ·intro k s hk;rw [YP,Y1] at hk;obtain ⟨s,hk,rfl⟩:=hk
  have h1:=h.ok k s hk
  have h2:=ht s (Y6 hk)
  exact ⟨h2.1,h2.2,by simp only [ZS];omega⟩
 ·intro k s t hk hk1;rw [YP,Y1] at hk hk1;obtain ⟨s,hk,rfl⟩:=hk
  obtain ⟨t,hk1,rfl⟩:=hk1
  have:=h.gap k s t hk hk1
  simp only [ZS];omega
def Z3j (a b:List Span):Prop:=∀ x,a.getLast? = some x→∀ y,b.head? = some y→x.To < y.From
theorem Z5e {a b:List Span} (ha:Len a):∃ r,Z0d a b = some r∧(r = true ↔ Z3j a b):=by
 unfold Z0d
 cases a with
 | nil => exact ⟨true,by simp,by simp [Z3j]⟩
 | cons x a =>
  cases b with
  | nil => exact ⟨true,by simp,by simp [Z3j]⟩
  | cons y b =>
   have hl:((x :: a).length:Int) < 9223372036854775807:=by have:=Z1T;unfold Len at ha;omega
   have e1:(((x :: a).length:Int) == 0 || ((y :: b).length:Int) == 0) = false:=by simp;omega
   have hlt:(x :: a).length - 1 < (x :: a).length:=by simp
   have e2:at? (x :: a) (w64 (((x :: a).length:Int) - 1)) = some (x :: a)[(x :: a).length - 1]:=by
    rw [ZF (by simp at hl ⊢;omega),show (((x :: a).length:Int) - 1) = (((x :: a).length - 1:Nat):Int) by simp,at?_nat hlt]
   have e3:at? (y :: b) 0 = some y:=rfl
   rw [e1,cond_false,e2,e3];refine ⟨decide ((x :: a)[(x :: a).length - 1].To < y.From),rfl,?_⟩;have hlast:(x :: a).getLast? = some (x :: a)[(x :: a).length - 1]:=by rw [Y0T,Y2 hlt]
   simp only [decide_eq_true_eq,Z3j,hlast,List.head?_cons,Y5];exact ⟨fun h x' hx y' hy => by rw [← hx,← hy];exact h,fun h => h _ rfl _ rfl⟩
theorem span_beq (x y:Span):((x.From == y.From) && ((x.To == y.To) && true)) = decide (x = y):=by
 obtain ⟨x1,x2⟩:=x
 obtain ⟨y1,y2⟩:=y
 by_cases h1:x1 = y1 <;> by_cases h2:x2 = y2 <;> simp [h1,h2]
theorem Z8t {a b:List Span} (ha:Len a):∃ r,Z0l a b = some r∧(r = true ↔ a = b):=by
 have hl:(a.length:Int) < 9223372036854775807:=by have:=Z1T;unfold Len at ha;omega
 unfold Z0l ZR
 by_cases hlen:a.length = b.length
 ·have e1:((a.length:Int) != (b.length:Int)) = false:=bne_f (by omega)
  rw [e1,cond_false]
  rcases Z3Z (l:=a) (step:=ZR.s0 a b) (fun k x => b[k]? = some x) (no:=.ret false) (yes:=.go ()) (fun k x hk hp => by
   have hlt:=(List.getElem?_eq_some_iff.1 hk).1
   have hat:at? a (k:Int) = some x:=by rw [at?_nat hlt];rw [Y2 hlt] at hk;exact hk
   have hbt:at? b (k:Int) = some (b[k]'(by omega)):=at?_nat (by omega)
   unfold ZR.s0;rw [ZU (show (k:Int) < a.length by omega),cond_true,hat,hbt,ZF (show _ by omega)]
   simp only [Y0,span_beq];rw [Y2 (show k < b.length by omega)]
   by_cases h:x = b[k]'(by omega)
   ·rw [ZU h];exact .inl ⟨rfl,congrArg some h.symm⟩
   ·rw [ZZ h];exact .inr ⟨rfl,fun e => h (Option.some.inj e).symm⟩) (by
   unfold ZR.s0;rw [ZZ (by omega)];rfl) with ⟨h1,h2⟩ | ⟨h1,h2⟩
  ·rw [h1];refine ⟨true,rfl,⟨fun _ => Y0l fun k => ?_,fun _ => rfl⟩⟩
   by_cases hk:k < a.length
   ·rw [Y2 hk];exact (h2 k _ (Y2 hk)).symm
   ·rw [Yc (by omega),Yc (by omega)]
  ·rw [h1];refine ⟨false,rfl,by simp only [YA,false_iff];rintro rfl;exact h2 fun k x hk => hk⟩
 ·have e1:((a.length:Int) != (b.length:Int)) = true:=bne_t (by omega)
  rw [e1,cond_true];exact ⟨false,rfl,by simp only [YA,false_iff];rintro rfl;exact hlen rfl⟩
end Go.Dn

namespace Go.Dn
open Go
theorem ZCL (x y:Int):Z1p x y = if x < y then -1 else if y < x then 1 else 0:=by
 unfold Z1p Z2s
 simp only [bne_self_eq_false,cond_false,pickB,decide_eq_true_eq,gt_iff_lt,YA,if_false]
def Inc (l:List Granule):Prop:=∀ (j k:Nat) (a b:Granule),j < k→l[j]? = some a→l[k]? = some b→a.Index < b.Index
theorem bsearch_eq {l:List Granule} {t:Int} (hl:l.length * 32≤reachBytes) (hs:Inc l):∃ p:Nat,p≤l.length∧(∀ (k:Nat) (g:Granule),l[k]? = some g→(k < p ↔ g.Index < t)) ∧
  Z2 l t (fun z0 z1 => some (Z3l z0 z1)) = some ((p:Int),decide (∃ g,l[p]? = some g∧g.Index = t)):=by
 have hlen:(l.length:Int) < 4398046511104 * 4:=by have:=Z1T;omega
 have hcmp:∀ g i,Z3l g i = if g.Index < i then -1 else if i < g.Index then 1 else 0:=fun g i => ZCL _ _
 obtain ⟨r,h1,p,rfl,hp,hlow,hhigh⟩:=Z0z (step:=Z2.s0 l t (fun z0 z1 => some (Z3l z0 z1)))
  (I:=fun s => ∃ i j:Nat,s = ((i:Int),(j:Int))∧i≤j∧j≤l.length∧(∀ k g,l[k]? = some g→k < i→g.Index < t)∧(∀ k g,l[k]? = some g→j≤k→t≤g.Index))
  (fun s => (s.2 - s.1).toNat)
  (fun r => ∃ p:Nat,r = (p:Int)∧p≤l.length∧(∀ k g,l[k]? = some g→k < p→g.Index < t)∧(∀ k g,l[k]? = some g→p≤k→t≤g.Index)) (by
  rintro s ⟨i,j,rfl,hij,hj,hlow,hhigh⟩;unfold Z2.s0
  by_cases hlt:i < j
  ·have hm:w64 ((IntKind.u64.wrap (w64 ((i:Int) + j))).fdiv (2 ^ 1)) = ((i + j) / 2:Nat):=by
    rw [ZF (x:=(i:Int) + j) (by omega),Z5X,Y0Q _ (by decide),ZF (by omega)]
    omega
   have hml:(i + j) / 2 < l.length:=by omega
   simp only [hm];rw [ZU (show (i:Int) < j by omega),cond_true,at?_nat hml]
   simp only [Y0,hcmp];refine .inl ?_;have hget:=Y2 hml
   by_cases hc:l[(i + j) / 2].Index < t
   ·rw [if_pos hc];refine ⟨((((i + j) / 2 + 1:Nat):Int),(j:Int)),?_,⟨(i + j) / 2 + 1,j,rfl,by omega,hj,fun k g hk hki => ?_,hhigh⟩,by simp;omega⟩
    ·rw [ZF (by omega)];simp
    ·rcases YG k ((i + j) / 2) with h | h
     ·have:=hs k _ g _ h hk hget;omega
     ·have:k = (i + j) / 2:=by omega
      subst this;rw [hget] at hk;cases hk;exact hc
   ·rw [if_neg hc];refine ⟨((i:Int),(((i + j) / 2:Nat):Int)),?_,⟨i,(i + j) / 2,rfl,by omega,by omega,hlow,fun k g hk hki => ?_⟩,by simp;omega⟩
    ·split <;> simp
    ·rcases YG ((i + j) / 2) k with h | h
     ·have:=hs _ k _ g h hget hk;omega
     ·have:k = (i + j) / 2:=by omega
      subst this;rw [hget] at hk;cases hk;omega
  ·refine .inr ⟨(i:Int),by rw [ZZ (show ¬ (i:Int) < j by omega)];rfl,i,rfl,by omega,hlow,fun k g hk hki => hhigh k g hk (by omega)⟩) (0,(l.length:Int)) ⟨0,l.length,rfl,YV _,YB _,fun k g _ h => by omega,fun k g hk h => by
    rw [Yc h] at hk;cases hk⟩
 refine ⟨p,hp,fun k g hk => ⟨fun h => hlow k g hk h,fun h => ?_⟩,?_⟩
 ·rcases YG k p with h2 | h2
  ·exact h2
  ·have:=hhigh k g hk h2;omega
 ·unfold Z2;rw [h1];simp only [Y0]
  by_cases hlt:p < l.length
  ·rw [ZU (show (p:Int) < l.length by omega),cond_true,at?_nat hlt]
   simp only [Y0,hcmp,Y5,Y3,true_and];have:=hhigh p _ (Y2 hlt) (YB _)
   rw [Y2 hlt]
   by_cases he:l[p].Index = t
   ·rw [if_neg (by omega),if_neg (by omega)];simp [he]
   ·rw [if_neg (by omega),if_pos (by omega)];simp [he]
  ·rw [ZZ (show ¬ (p:Int) < l.length by omega),cond_false]
   simp only [Y0,Y5,Y3,true_and];rw [Yc (by omega)]
   simp
structure Shape (f:Form):Prop where
 count:f.Count = f.Core.length
 zero:f.Count = 0 ↔ f.Period = 0
 per:0≤f.Period∧f.Period≤1099511627776
 core:∀ l ∈ f.Core,RightL l
 odd:∀ g ∈ f.Odd,RightL g.Ticks∧ZB g.Index
 inc:Inc f.Odd
structure Lim (f:Form):Prop where
 core:f.Core.length * 24≤reachBytes
 sets:∀ l ∈ f.Core,Len l∧Sp64 l
 odd:f.Odd.length * 32≤reachBytes
 ticks:∀ g ∈ f.Odd,In64 g.Index∧Len g.Ticks∧Sp64 g.Ticks
 count:In64 f.Count
 period:In64 f.Period
theorem Form.lim {f:Form} (h:f.ok):Lim f:=by
 obtain ⟨h1,h2,h3,h4⟩:=h
 exact ⟨h3.1,fun l hl => okSpans (h3.2 l hl),h4.1,fun g hg => ⟨(h4.2 g hg).1,okSpans (h4.2 g hg).2⟩,h2,h1⟩
theorem Z6G {f:Form} (hl:Lim f) (hs:Inc f.Odd) (i:Int):∃ p:Nat,p≤f.Odd.length∧(∀ (k:Nat) (g:Granule),f.Odd[k]? = some g→(k < p ↔ g.Index < i))∧Z53 f i = some ((p:Int),decide (∃ g,f.Odd[p]? = some g∧g.Index = i)):=by
 obtain ⟨p,h1,h2,h3⟩:=bsearch_eq (t:=i) hl.odd hs
 exact ⟨p,h1,h2,by unfold Z53;rw [h3];rfl⟩
def Z2S (f:Form) (i:Int):Prop:=∃ g ∈ f.Odd,g.Index = i
def Z04 (f:Form) (i:Int):List Span:=f.Core.getD (i % f.Count).toNat []
def Z4N (f:Form) (i:Int):Int:=i / f.Count * f.Period
open Classical in
noncomputable def ZJ (f:Form) (i:Int):List Span:=if h:Z2S f i then h.choose.Ticks else if f.Count = 0 then [] else (Z04 f i).map (ZS (Z4N f i))
theorem Inc.uniq {l:List Granule} (h:Inc l) {a b:Granule} (ha:a ∈ l) (hb:b ∈ l) (he:a.Index = b.Index):a = b:=by
 obtain ⟨j,hj⟩:=YC ha
 obtain ⟨k,hk⟩:=YC hb
 rcases Nat.lt_trichotomy j k with hjk | rfl | hjk
 ·have:=h j k a b hjk hj hk;omega
 ·rw [hj] at hk;cases hk;rfl
 ·have:=h k j b a hjk hk hj;omega
theorem Z0r {f:Form} (hs:Inc f.Odd) {g:Granule} (hg:g ∈ f.Odd):ZJ f g.Index = g.Ticks:=by
 have h:Z2S f g.Index:=⟨g,hg,rfl⟩
 unfold ZJ
 rw [dif_pos h]
 rw [hs.uniq h.choose_spec.1 hg h.choose_spec.2]
theorem Z3C {f:Form} {i:Int} (h:¬ Z2S f i) (h0:f.Count = 0):ZJ f i = []:=by unfold ZJ;rw [dif_neg h,if_pos h0]
theorem Z39 {f:Form} {i:Int} (h:¬ Z2S f i) (h0:f.Count ≠ 0):ZJ f i = (Z04 f i).map (ZS (Z4N f i)):=by unfold ZJ;rw [dif_neg h,if_neg h0]
theorem Z9l {f:Form} (hs:Shape f) (h0:f.Count ≠ 0):0 < f.Count:=by have:=hs.count;omega
theorem Z01 {f:Form} (hs:Shape f) (h0:f.Count ≠ 0) (i:Int):at? f.Core (i % f.Count) = some (Z04 f i)∧Z04 f i ∈ f.Core:=by
 have hp:=Z9l hs h0
 have h1:=Yf i h0
 have h2:=Yh i hp
 have h3:(i % f.Count).toNat < f.Core.length:=by have:=hs.count;omega
 unfold Z04
 rw [at?_lt h1 (by have:=hs.count;omega),YD,Y2 h3]
 exact ⟨rfl,YU h3⟩
theorem Z8m {f:Form} (hl:Lim f) (hs:Shape f) {g:Granule} (hg:g ∈ f.Odd):Z2t f g.Index = some (g.Ticks,0,0):=by
 obtain ⟨p,h1,h2,h3⟩:=Z6G hl hs.inc g.Index
 obtain ⟨k,hk⟩:=YC hg
 have hkl:=(List.getElem?_eq_some_iff.1 hk).1
 have hpk:p≤k:=by
  rcases YG k p with h | h
  ·have:=(h2 k g hk).1 h;omega
  ·exact h
 have hpl:p < f.Odd.length:=by omega
 have hpg:=h2 p _ (Y2 hpl)
 have:p = k:=by
  rcases YG p k with h | h
  ·have:=hs.inc p k _ g h (Y2 hpl) hk
   exact absurd (hpg.2 this) (Nat.lt_irrefl _)
  ·omega
 subst this
 unfold Z2t
 rw [h3]
 simp only [Y0]
 rw [ZU ⟨g,hk,rfl⟩,cond_true,at?_nat hpl]
 rw [Y2 hpl] at hk
 cases hk;rfl
theorem Z7z {f:Form} (hl:Lim f) (hs:Shape f) {i:Int} (hi:In64 i) (ho:¬ Z2S f i):Z2t f i = if f.Count = 0 then some ([],0,0) else some (Z04 f i,(fitS (Z4N f i)).1,(fitS (Z4N f i)).2):=by
 obtain ⟨p,h1,h2,h3⟩:=Z6G hl hs.inc i
 unfold Z2t
 rw [h3]
 simp only [Y0]
 rw [ZZ (by rintro ⟨g,hg,he⟩;exact ho ⟨g,Y6 hg,he⟩),cond_false]
 by_cases h0:f.Count = 0
 ·rw [Z8y h0,cond_true,if_pos h0]
 ·rw [Z4H h0,cond_false,if_neg h0,Z2r hi hl.count,Z4R (Z9l hs h0)];simp only [Y0];rw [(Z01 hs h0 i).1];simp only [Y0];have hq:In64 (i / f.Count):=by
   have hp:=Z9l hs h0
   unfold In64 at hi ⊢
   constructor
   ·have : -9223372036854775808≤i / f.Count:=by
     rw [Int.le_ediv_iff_mul_le hp];have:(-9223372036854775808) * f.Count≤-9223372036854775808:=by
      have:(-9223372036854775808) * f.Count≤(-9223372036854775808) * 1:=Int.mul_le_mul_of_nonpos_left (by omega) (by omega)
      omega
     omega
    exact this
   ·have:i / f.Count≤9223372036854775807:=by
     rcases Y0g i 0 with h | h
     ·have:i / f.Count < 0:=Int.ediv_neg_of_neg_of_pos h hp
      omega
     ·have:=Y0s f.Count h
      omega
    exact this
  rw [Z3s hq hl.period]
  rfl
def fits (f:Form) (i:Int):Prop:=∀ s ∈ ZJ f i,ZB s.From∧ZB s.To
theorem Z98 (l:List Span):l.map (ZS 0) = l:=by
 have:ZS 0 = id:=by funext s;simp [ZS]
 rw [this,List.map_id]
theorem Z2L {f:Form} {i:Int} (ho:¬ Z2S f i) (h0:f.Count ≠ 0):ZJ f i = [] ↔ Z04 f i = []:=by rw [Z39 ho h0,List.map_eq_nil_iff]
open Classical in
theorem Z52 {f:Form} (hl:Lim f) (hs:Shape f) {i:Int} (hi:In64 i):Zz f i = some (if ZB i∧fits f i then (ZJ f i,0) else ([],20)):=by
 unfold Zz
 rw [Z77]
 by_cases ht:ZB i
 ·rw [ZU ht,Ya,cond_false]
  by_cases ho:Z2S f i
  ·obtain ⟨g,hg,rfl⟩:=ho
   have hset:=Z0r hs.inc hg
   have hr:=(hs.odd g hg).1
   have hf:fits f g.Index:=by
    intro s hsm;rw [hset] at hsm;obtain ⟨k,hk⟩:=YC hsm
    exact ⟨(hr.ok k s hk).1,(hr.ok k s hk).2.1⟩
   rw [Z8m hl hs hg,if_pos ⟨ht,hf⟩,hset];simp only [Y0]
   by_cases hn:g.Ticks = []
   ·rw [hn];rfl
   ·have:((g.Ticks.length:Int) == 0) = false:=Z4H (by have:=List.length_pos_iff.2 hn;omega)
    rw [this,cond_false];simp only [bne_self_eq_false,cond_false]
    rcases Z4m (b:=0) (hl.ticks g hg).2.1 hr.sp64 ⟨by decide,by decide⟩ with ⟨_,h2⟩ | ⟨h1,_⟩
    ·rw [h2,Z98];rfl
    ·refine absurd (fun s hsm => ?_) h1
     rw [← hset] at hsm
     simpa using hf s hsm
  ·rw [Z7z hl hs hi ho]
   by_cases h0:f.Count = 0
   ·rw [if_pos h0,if_pos ⟨ht,by intro s hsm;rw [Z3C ho h0] at hsm;cases hsm⟩,Z3C ho h0];rfl
   ·rw [if_neg h0];simp only [Y0]
    by_cases hn:Z04 f i = []
    ·rw [if_pos ⟨ht,by intro s hsm;rw [(Z2L ho h0).2 hn] at hsm;cases hsm⟩,(Z2L ho h0).2 hn,hn];rfl
    ·have:(((Z04 f i).length:Int) == 0) = false:=Z4H (by have:=List.length_pos_iff.2 hn;omega)
     rw [this,cond_false];have hmem:=(Z01 hs h0 i).2
     have hr:=hs.core _ hmem
     have hfe:fits f i ↔ ∀ s ∈ Z04 f i,ZB (s.From + Z4N f i)∧ZB (s.To + Z4N f i):=by
      unfold fits;rw [Z39 ho h0]
      constructor
      ·intro h s hsm;exact h (ZS (Z4N f i) s) (List.mem_map.2 ⟨s,hsm,rfl⟩)
      ·intro h s hsm;obtain ⟨s,hsm',rfl⟩:=List.mem_map.1 hsm
       exact h s hsm'
     rcases Z7x (Z4N f i) with ⟨q1,q2⟩ | ⟨q1,q2⟩ <;> rw [q2]
     ·simp only [bne_self_eq_false,cond_false]
      rcases Z4m (b:=Z4N f i) (hl.sets _ hmem).1 hr.sp64 q1 with ⟨h1,h2⟩ | ⟨h1,h2⟩
      ·rw [h2,if_pos ⟨ht,hfe.2 h1⟩,Z39 ho h0];rfl
      ·rw [h2,if_neg (fun h => h1 (hfe.1 h.2))];rfl
     ·rw [if_neg]
      ·rfl
      ·rintro ⟨_,h⟩;have h:=hfe.1 h
       obtain ⟨s,hsm⟩:=List.exists_mem_of_ne_nil _ hn
       have h1:=(h s hsm).1
       obtain ⟨k,hk⟩:=YC hsm
       have h2:=(hr.ok k s hk).1
       unfold ZB at h1 h2;exact q1 (by unfold In64;omega)
 ·rw [ZZ ht,if_neg (fun h => ht h.1)];rfl
open Classical in
theorem Z9j {f:Form} (hl:Lim f) (hs:Shape f) {i:Int} (hi:In64 i):Z4V f i = some (decide (ZJ f i ≠ [])):=by
 unfold Z4V
 by_cases ho:Z2S f i
 ·obtain ⟨g,hg,rfl⟩:=ho
  rw [Z8m hl hs hg,Z0r hs.inc hg];simp only [Y0];cases g.Ticks <;> simp
 ·rw [Z7z hl hs hi ho]
  by_cases h0:f.Count = 0
  ·rw [if_pos h0,Z3C ho h0];rfl
  ·rw [if_neg h0];simp only [Y0,Ne,Z2L ho h0];cases Z04 f i <;> simp
end Go.Dn

namespace Go.Dn
open Go
theorem Z32 {α:Type} {l:List α} {b:Nat} (h:l.length * (b + 1)≤reachBytes):(l.length:Int) < 4611686018427387904:=by
 have:=Z1T
 have:l.length≤l.length * (b + 1):=Nat.le_mul_of_pos_right _ (by omega)
 omega
theorem ZAh {α:Type} {l:List α} {k:Nat} {x:α} (h:l[k]? = some x):at? l (k:Int) = some x∧(k:Int) < l.length:=by
 have hlt:=(List.getElem?_eq_some_iff.1 h).1
 rw [Y2 hlt] at h
 exact ⟨by rw [at?_nat hlt];exact h,by omega⟩
theorem shape_core {f:Form} (hl:Lim f):(loopO (Zi.s0 f) 0 = some (.go ())∧∀ l ∈ f.Core,RightL l)∨(loopO (Zi.s0 f) 0 = some (.ret false)∧¬ ∀ l ∈ f.Core,RightL l):=by
 have hlen:=Z32 (b:=23) hl.core
 rcases Z3Z (l:=f.Core) (step:=Zi.s0 f) (fun _ x => RightL x) (no:=.ret false) (yes:=.go ()) (fun k x hk _ => by
   obtain ⟨h1,h2⟩:=ZAh hk
   obtain ⟨b,hb,hr⟩:=Z7q (hl.sets x (Y6 hk)).1 (hl.sets x (Y6 hk)).2
   unfold Zi.s0;rw [ZU h2,cond_true,h1];simp only [Y0,hb,ZF (show -9223372036854775808≤(k:Int) + 1∧(k:Int) + 1≤9223372036854775807 by omega)]
   cases b
   ·exact .inr ⟨rfl,fun h => by have:=hr.2 h;cases this⟩
   ·exact .inl ⟨rfl,hr.1 rfl⟩) (by unfold Zi.s0;rw [ZZ (by omega)];rfl) with ⟨h1,h2⟩ | ⟨h1,h2⟩
 ·exact .inl ⟨h1,fun l hm => by obtain ⟨k,hk⟩:=YC hm;exact h2 k l hk⟩
 ·exact .inr ⟨h1,fun h => h2 fun k x hk => h x (Y6 hk)⟩
def goodOdd (f:Form) (k:Nat) (g:Granule):Prop:=RightL g.Ticks∧ZB g.Index∧∀ p,k ≠ 0→f.Odd[k - 1]? = some p→p.Index < g.Index
theorem shape_odd {f:Form} (hl:Lim f):(loopO (Zi.s1 f) 0 = some (.go ())∧∀ k g,f.Odd[k]? = some g→goodOdd f k g)∨(loopO (Zi.s1 f) 0 = some (.ret false)∧¬ ∀ k g,f.Odd[k]? = some g→goodOdd f k g):=by
 have hlen:=Z32 (b:=31) hl.odd
 refine Z3Z (l:=f.Odd) (step:=Zi.s1 f) (goodOdd f) (no:=.ret false) (yes:=.go ()) (fun k x hk _ => ?_) (by unfold Zi.s1;rw [ZZ (by omega)];rfl)
 obtain ⟨h1,h2⟩:=ZAh hk
 have hx:=hl.ticks x (Y6 hk)
 obtain ⟨b,hb,hr⟩:=Z7q hx.2.1 hx.2.2
 unfold Zi.s1
 rw [ZU h2,cond_true,h1]
 simp only [Y0,hb,Z77,ZF (show -9223372036854775808≤(k:Int) + 1∧(k:Int) + 1≤9223372036854775807 by omega)]
 by_cases hbt:b = true∧ZB x.Index
 ·rw [hbt.1,ZU hbt.2];simp only [Ya,Y0M,cond_false]
  by_cases h0:k = 0
  ·subst h0;exact .inl ⟨by simp,hr.1 hbt.1,hbt.2,fun p h => absurd rfl h⟩
  ·have hpl:k - 1 < f.Odd.length:=by omega
   rw [ZU (show (k:Int) > 0 by omega),cond_true,ZF (by omega),show (k:Int) - 1 = ((k - 1:Nat):Int) by omega,at?_nat hpl]
   simp only [Y0]
   by_cases hc:x.Index≤f.Odd[k - 1].Index
   ·rw [ZU hc];refine .inr ⟨rfl,fun h => ?_⟩
    have:=h.2.2 _ h0 (Y2 hpl);omega
   ·rw [ZZ hc];refine .inl ⟨rfl,hr.1 hbt.1,hbt.2,fun p _ hp => ?_⟩
    rw [Y2 hpl] at hp;cases hp;omega
 ·have:(!b || !decide (ZB x.Index)) = true:=by
   cases b
   ·rfl
   ·rw [ZZ (fun h => hbt ⟨rfl,h⟩)];rfl
  rw [this,cond_true];exact .inr ⟨rfl,fun h => hbt ⟨hr.2 h.1,h.2.1⟩⟩
theorem inc_of {f:Form} (h:∀ k g,f.Odd[k]? = some g→goodOdd f k g):Inc f.Odd:=by
 intro j k a b hjk ha hb
 induction k generalizing b with
 | zero => omega
 | succ k ih =>
  have hkl:=(List.getElem?_eq_some_iff.1 hb).1
  have h1:=(h (k + 1) b hb).2.2 f.Odd[k] (by omega) (by simp [Y2 (show k < f.Odd.length by omega)])
  rcases YG j k with h2 | h2
  ·have:=ih _ h2 (Y2 (show k < f.Odd.length by omega));omega
  ·have:j = k:=by omega
   subst this;rw [Y2 (show j < f.Odd.length by omega)] at ha;cases ha;exact h1
theorem gran_shape_eq {f:Form} (hl:Lim f):∃ b,Zi f = some b∧(b = true ↔ Shape f):=by
 unfold Zi
 by_cases h1:f.Count = f.Core.length∧(f.Count = 0 ↔ f.Period = 0)∧0≤f.Period∧f.Period≤1099511627776
 ·have e:(f.Count != (f.Core.length:Int) || (f.Count == 0) != (f.Period == 0) || decide (f.Period < 0) || decide (f.Period > 1099511627776)) = false:=by
   rw [bne_f h1.1,ZZ (show ¬ f.Period < 0 by omega),ZZ (show ¬ f.Period > 1099511627776 by omega)]
   simp only [Y0Y,Bool.or_false,bne_eq_false_iff_eq,ibeq,decide_eq_decide];exact h1.2.1
  rw [e,cond_false]
  rcases shape_core hl with ⟨h2,h3⟩ | ⟨h2,h3⟩
  ·rw [h2];simp only [Y0,Jx.elim]
   rcases shape_odd hl with ⟨h4,h5⟩ | ⟨h4,h5⟩
   ·rw [h4];exact ⟨true,rfl,fun _ => ⟨h1.1,h1.2.1,h1.2.2,h3,fun g hg => by obtain ⟨k,hk⟩:=YC hg;exact ⟨(h5 k g hk).1,(h5 k g hk).2.1⟩,inc_of h5⟩,fun _ => rfl⟩
   ·rw [h4];refine ⟨false,rfl,fun h => (by cases h),fun h => absurd (fun k g hk => ⟨(h.odd g (Y6 hk)).1,(h.odd g (Y6 hk)).2,fun p h0 hp => h.inc (k - 1) k p g (by omega) hp hk⟩) h5⟩
  ·rw [h2];exact ⟨false,rfl,fun h => (by cases h),fun h => absurd h.core h3⟩
 ·have e:(f.Count != (f.Core.length:Int) || (f.Count == 0) != (f.Period == 0) || decide (f.Period < 0) || decide (f.Period > 1099511627776)) = true:=by
   apply Classical.byContradiction;intro hn;simp only [Y0I,Bool.or_eq_false_iff,bne_eq_false_iff_eq,decide_eq_false_iff_not,ibeq,decide_eq_decide] at hn;exact h1 ⟨hn.1.1.1,hn.1.1.2,by omega,by omega⟩
  rw [e,cond_true];exact ⟨false,rfl,fun h => (by cases h),fun h => absurd ⟨h.count,h.zero,h.per⟩ h1⟩
def fstT (l:List Span):Int:=(l.head?.map Span.From).getD 0
def lstT (l:List Span):Int:=(l.getLast?.map Span.To).getD 0
theorem ZBw {a b:List Span} (ha:a ≠ []) (hb:b ≠ []):Z3j a b ↔ lstT a < fstT b:=by
 unfold Z3j lstT fstT
 rw [Y01 ha,Y05 hb]
 simp
theorem RightL.tail {s:Span} {l:List Span} (h:RightL (s :: l)):RightL l :=
 ⟨fun k x hk => h.ok (k + 1) x hk,fun k x y hx hy => h.gap (k + 1) x y hx hy⟩
theorem Z4Y {l:List Span} (h:RightL l) (hn:l ≠ []):fstT l≤lstT l:=by
 induction l with
 | nil => exact absurd rfl hn
 | cons s l ih =>
  have h0:=h.ok 0 s rfl
  cases l with
  | nil => simp [fstT,lstT];exact h0.2.2
  | cons t l =>
   have h1:=h.gap 0 s t rfl rfl
   have h2:=ih h.tail (by simp)
   have e1:lstT (s :: t :: l) = lstT (t :: l):=by simp [lstT]
   have e2:fstT (t :: l) = t.From:=rfl
   have e3:fstT (s :: t :: l) = s.From:=rfl
   rw [e1,e3];rw [e2] at h2;omega
theorem ZA0 {l:List Span} (h:RightL l) (hn:l ≠ []):ZB (lstT l)∧ZB (fstT l):=by
 have h1:l.getLast? = some (l.getLast hn):=Y01 hn
 have h2:l.head? = some (l.head hn):=Y05 hn
 obtain ⟨j,hj⟩:=YC (List.getLast_mem hn)
 obtain ⟨k,hk⟩:=YC (List.head_mem hn)
 unfold lstT fstT
 rw [h1,h2]
 exact ⟨(h.ok j _ hj).2.1,(h.ok k _ hk).1⟩
def full (f:Form):List (List Span):=f.Core.filter (fun l => decide (l.length > 0))
def Turns (f:Form):Prop:=(∀ (k:Nat) (a b:List Span),(full f)[k]? = some a→(full f)[k + 1]? = some b→lstT a < fstT b)∧∀ a b,(full f).getLast? = some a→(full f).head? = some b→lstT a < fstT b + f.Period
theorem full_loop {f:Form} (hl:Lim f):loopO (Z09.s0 f) (0,[]) = some (full f):=by
 have hlen:=Z32 (b:=23) hl.core
 refine Z1G (I:=fun s r => r = full f∧∃ k:Nat,k≤f.Core.length∧s = ((k:Int),(f.Core.take k).filter (fun l => decide (l.length > 0)))) (fun s => f.Core.length - s.1.toNat) ?_ ⟨rfl,0,YV _,by simp⟩
 rintro s r ⟨rfl,k,hk,rfl⟩
 unfold Z09.s0
 by_cases hlt:k < f.Core.length
 ·have htake:f.Core.take (k + 1) = f.Core.take k ++ [f.Core[k]]:=Y0X hlt
  simp only;rw [ZU (show (k:Int) < f.Core.length by omega),cond_true,at?_nat hlt,ZF (by omega)]
  simp only [Y0];refine .inl ?_;have hfl:((f.Core.take k).filter (fun l => decide (l.length > 0))).length≤k:=YZ (Y0F _ _) (by rw [YY];exact Nat.min_le_left _ _)
  by_cases hc:f.Core[k].length > 0
  ·rw [ZU (show ((f.Core[k].length:Int) > 0) by omega),cond_true,app?_ok (by have h1:=hl.core;rw [Z1T] at h1;rw [Z3g];simp only [Yv];omega)]
   exact ⟨_,rfl,⟨trivial,k + 1,hlt,by rw [htake,List.filter_append];simp [hc]⟩,by simp;omega⟩
  ·rw [ZZ (show ¬ ((f.Core[k].length:Int) > 0) by omega),cond_false]
   exact ⟨_,rfl,⟨trivial,k + 1,hlt,by rw [htake,List.filter_append];simp [hc]⟩,by simp;omega⟩
 ·have:k = f.Core.length:=by omega
  subst this;simp only;rw [ZZ (show ¬ ((f.Core.length:Int) < f.Core.length) by omega),cond_false,Y0J]
  exact .inr rfl
theorem gran_turns_eq {f:Form} (hl:Lim f) (hs:Shape f):∃ b,Z09 f = some b∧(b = true ↔ Turns f):=by
 have hlen:=Z32 (b:=23) hl.core
 have hfl:(full f).length≤f.Core.length:=Y0F _ _
 have hmem:∀ x ∈ full f,x ∈ f.Core∧x ≠ []:=fun x hx => by
  have:=List.mem_filter.1 hx
  exact ⟨this.1,by rintro rfl;simp at this⟩
 unfold Z09
 rw [full_loop hl]
 simp only [Y0]
 rcases Z3Z (l:=full f) (step:=Z09.s1 f (full f)) (fun k a => ∀ b,(full f)[(k + 1) % (full f).length]? = some b→lstT a < fstT b + (if k + 1 = (full f).length then f.Period else 0)) (no:=.ret false) (yes:=.go ()) (fun k a hk _ => by
   obtain ⟨h1,h2⟩:=ZAh hk
   have hkl:k < (full f).length:=by omega
   have hmod:(k + 1) % (full f).length < (full f).length:=Nat.mod_lt _ (by omega)
   have hnext:at? (full f) ((((k + 1) % (full f).length:Nat):Int)) = some (full f)[(k + 1) % (full f).length]:=at?_nat hmod
   obtain ⟨ha1,ha2⟩:=hmem a (Y6 hk)
   obtain ⟨hb1,hb2⟩:=hmem _ (YU hmod)
   have hra:=hs.core a ha1
   have hrb:=hs.core _ hb1
   have hal:a.length - 1 < a.length:=by have:=List.length_pos_iff.2 ha2;omega
   have hlast:at? a (w64 ((a.length:Int) - 1)) = some a[a.length - 1]:=by
    have:=Z32 (b:=15) (hl.sets a ha1).1
    rw [ZF (by omega),show (a.length:Int) - 1 = ((a.length - 1:Nat):Int) by omega,at?_nat hal]
   have hlt:lstT a = a[a.length - 1].To:=by unfold lstT;rw [Y0T,Y2 hal];rfl
   unfold Z09.s1;rw [ZU h2,cond_true,h1,nz?_ok (by omega),ZF (x:=(k:Int) + 1) (by omega)]
   have htm:((k:Int) + 1).tmod ((full f).length:Int) = (((k + 1) % (full f).length:Nat):Int):=by
    rw [Int.tmod_eq_emod_of_nonneg (by omega)];push_cast;rfl
   simp only [Y0,htm,hnext,hlast];rw [Y2 hmod];generalize (full f)[(k + 1) % (full f).length] = b at *
   have hb0:at? b 0 = some (b.head hb2):=by
    cases b with
    | nil => exact absurd rfl hb2
    | cons y b => rfl
   have hbf:fstT b = (b.head hb2).From:=by unfold fstT;rw [Y05 hb2];rfl
   have htick:=(ZA0 hrb hb2).2
   unfold ZB at htick;have hper:=hs.per
   by_cases hl1:k + 1 = (full f).length
   ·have e:((k:Int) + 1 == ((full f).length:Int)) = true:=Z8y (by omega)
    rw [e,cond_true];simp only [Y0,hb0,← hbf,ZF (show -9223372036854775808≤fstT b + f.Period∧fstT b + f.Period≤9223372036854775807 by omega),← hlt,if_pos hl1]
    by_cases hc:lstT a ≥ fstT b + f.Period
    ·rw [ZU hc];exact .inr ⟨rfl,fun h => by have:=h b rfl;omega⟩
    ·rw [ZZ hc];exact .inl ⟨rfl,fun b' hb' => by cases hb';omega⟩
   ·have e:((k:Int) + 1 == ((full f).length:Int)) = false:=Z4H (by omega)
    rw [e,cond_false];simp only [Y0,hb0,← hbf,ZF (show -9223372036854775808≤fstT b + 0∧fstT b + 0≤9223372036854775807 by omega),← hlt,if_neg hl1]
    by_cases hc:lstT a ≥ fstT b + 0
    ·rw [ZU hc];exact .inr ⟨rfl,fun h => by have:=h b rfl;omega⟩
    ·rw [ZZ hc];exact .inl ⟨rfl,fun b' hb' => by cases hb';omega⟩) (by unfold Z09.s1;rw [ZZ (by omega)];rfl) with ⟨h1,h2⟩ | ⟨h1,h2⟩
 ·rw [h1];refine ⟨true,rfl,fun _ => ⟨fun k a b ha hb => ?_,fun a b ha hb => ?_⟩,fun _ => rfl⟩
  ·have hkl:=(List.getElem?_eq_some_iff.1 hb).1
   have:=h2 k a ha b (by rw [Nat.mod_eq_of_lt hkl];exact hb)
   rw [if_neg (by omega)] at this;omega
  ·have hn:full f ≠ []:=by rintro e;rw [e] at ha;simp at ha
   have hpos:=List.length_pos_iff.2 hn
   rw [Y0T] at ha;have e1:(full f).length - 1 + 1 = (full f).length:=by omega
   have:=h2 _ a ha b (by rw [e1,Nat.mod_self,← List.head?_eq_getElem?];exact hb)
   rw [if_pos e1] at this;exact this
 ·rw [h1];refine ⟨false,rfl,fun h => (by cases h),fun h => absurd (fun k a hk b hb => ?_) h2⟩
  have hkl:=(List.getElem?_eq_some_iff.1 hk).1
  by_cases hl1:k + 1 = (full f).length
  ·rw [if_pos hl1];rw [hl1,Nat.mod_self,← List.head?_eq_getElem?] at hb;exact h.2 a b (by rw [Y0T,← hl1];exact hk) hb
  ·rw [if_neg hl1];rw [Nat.mod_eq_of_lt (by omega)] at hb
   have:=h.1 k a b hk hb;omega
end Go.Dn

namespace Go.Dn
open Go
theorem ZBh {l:List (List Span)} {p:List Span→Bool} (hl:l.length * 24≤reachBytes):ZT l (fun z => some (p z)) = some (decide (∃ x ∈ l,p x = true)):=by
 have hlen:=Z32 (b:=23) hl
 unfold ZT ZE
 by_cases hall:∀ (k:Nat) (x:List Span),l[k]? = some x→¬ p x = true
 ·have:loopO (ZE.s0 l (fun z => some (p z))) 0 = some (.go ()):=by
   refine Z1G (I:=fun (s:Int) r => r = .go ()∧∃ k:Nat,s = k∧k≤l.length) (fun s => l.length - s.toNat) ?_ ⟨rfl,0,rfl,YV _⟩
   rintro s r ⟨rfl,k,rfl,hk⟩;unfold ZE.s0
   by_cases hlt:k < l.length
   ·rw [ZU (show (k:Int) < l.length by omega),cond_true,at?_nat hlt,ZF (by omega)]
    have:=hall k _ (Y2 hlt)
    simp only [Y0,Y0I] at this ⊢;rw [this];exact .inl ⟨_,rfl,⟨trivial,k + 1,by push_cast;rfl,hlt⟩,by simp;omega⟩
   ·rw [ZZ (show ¬ (k:Int) < l.length by omega)];exact .inr rfl
  rw [this,ZZ (by rintro ⟨x,hx,hp⟩;obtain ⟨k,hk⟩:=YC hx;exact hall k x hk hp)]
  rfl
 ·obtain ⟨k0,x0,hx0,hb0,hg⟩:=ZAZ (good:=fun _ x => ¬ p x = true) hall
  have hb0:p x0 = true:=Classical.byContradiction hb0
  have hlt0:=(List.getElem?_eq_some_iff.1 hx0).1
  have:loopO (ZE.s0 l (fun z => some (p z))) 0 = some (.ret (k0:Int)):=by
   refine Z1G (I:=fun (s:Int) r => r = .ret (k0:Int)∧∃ k:Nat,s = k∧k≤k0) (fun s => l.length - s.toNat) ?_ ⟨rfl,0,rfl,YV _⟩
   rintro s r ⟨rfl,k,rfl,hk⟩;unfold ZE.s0;have hkl:k < l.length:=by omega
   rw [ZU (show (k:Int) < l.length by omega),cond_true,at?_nat hkl,ZF (by omega)]
   by_cases hlt:k < k0
   ·have:=hg k _ hlt (Y2 hkl)
    simp only [Y0,Y0I] at this ⊢;rw [this];exact .inl ⟨_,rfl,⟨trivial,k + 1,by push_cast;rfl,hlt⟩,by simp;omega⟩
   ·have:k = k0:=by omega
    subst this;rw [Y2 hkl] at hx0;cases hx0;simp only [Y0,hb0];exact .inr rfl
  rw [this,ZU ⟨x0,Y6 hx0,hb0⟩];simp only [Y0,Jx.elim];rw [ZU (by omega)]
def Bare (f:Form):Prop:=∀ l ∈ f.Core,l = []
theorem Z7D {f:Form} (hl:Lim f):∃ b,Z3P f = some b∧(b = true ↔ Bare f):=by
 unfold Z3P
 rw [ZBh hl.core]
 refine ⟨_,rfl,?_⟩
 simp only [Z50,YX,decide_eq_false_iff_not,decide_eq_true_eq]
 constructor
 ·intro h l hm;apply Classical.byContradiction;intro hn;exact h ⟨l,hm,by have:=List.length_pos_iff.2 hn;omega⟩
 ·rintro h ⟨l,hm,hp⟩;rw [h l hm] at hp;simp at hp
theorem Z70 {f:Form} (hs:Shape f) (hb:Bare f) {i:Int} (ho:¬ Z2S f i):ZJ f i = []:=by
 by_cases h0:f.Count = 0
 ·exact Z3C ho h0
 ·exact (Z2L ho h0).2 (hb _ (Z01 hs h0 i).2)
def UpTo (f:Form) (i:Int) (r:Int × Bool):Prop:=(r.2 = true∧i≤r.1∧ZB r.1∧ZJ f r.1 ≠ []∧∀ k,i≤k→k < r.1→ZJ f k = [])∨(r.2 = false∧r.1 = 0∧∀ k,i≤k→ZB k→ZJ f k = [])
def DownTo (f:Form) (i:Int) (r:Int × Bool):Prop:=(r.2 = true∧r.1≤i∧ZB r.1∧ZJ f r.1 ≠ []∧∀ k,k≤i→r.1 < k→ZJ f k = [])∨(r.2 = false∧r.1 = 0∧∀ k,k≤i→ZB k→ZJ f k = [])
theorem odd_split {f:Form} (hs:Shape f) {p:Nat} {i:Int} (hp:∀ (k:Nat) (g:Granule),f.Odd[k]? = some g→(k < p ↔ g.Index < i)) {j:Int} (hj:Z2S f j):∃ (k:Nat) (g:Granule),f.Odd[k]? = some g∧g.Index = j∧(k < p ↔ j < i):=by
 obtain ⟨g,hg,rfl⟩:=hj
 obtain ⟨k,hk⟩:=YC hg
 exact ⟨k,g,hk,rfl,hp k g hk⟩
theorem gran_step_up {f:Form} (hl:Lim f) (hs:Shape f) {i:Int} (hi : -1099511627776≤i∧i≤1099511627776):∃ r,Zq f i 1 = some r∧UpTo f i r:=by
 have hi64:In64 i:=by unfold In64;omega
 obtain ⟨b,hb,hbb⟩:=Z7D hl
 have holen:=Z32 (b:=31) hl.odd
 unfold Zq
 rw [hb]
 simp only [Y0]
 cases b with
 | true =>
  have hbare:=hbb.1 rfl
  rw [cond_true];obtain ⟨p,h1,h2,h3⟩:=Z6G hl hs.inc i
  rw [h3];simp only [Y0,ZZ (show ¬ (1:Int) < 0 by omega),Y0d,cond_false]
  obtain ⟨r,hr,hpost⟩:=Z0z (step:=Zq.s0 f 1) (I:=fun (s:Int) => ∃ k:Nat,s = k∧p≤k∧k≤f.Odd.length∧∀ (j:Nat) (g:Granule),f.Odd[j]? = some g→p≤j→j < k→g.Ticks = []) (fun s => f.Odd.length - s.toNat)
   (fun r => (∃ (k:Nat) (g:Granule),r = .ret (g.Index,true)∧f.Odd[k]? = some g∧p≤k∧g.Ticks ≠ []∧∀ (j:Nat) (g':Granule),f.Odd[j]? = some g'→p≤j→j < k→g'.Ticks = [])∨(r = .go ()∧∀ (j:Nat) (g':Granule),f.Odd[j]? = some g'→p≤j→g'.Ticks = [])) (by
   rintro s ⟨k,rfl,hpk,hk,hn⟩;unfold Zq.s0
   by_cases hlt:k < f.Odd.length
   ·rw [ZU (show (k:Int) ≥ 0 by omega),ZU (show (k:Int) < f.Odd.length by omega),Y0K,cond_true,at?_nat hlt,ZF (by omega)]
    simp only [Y0];have hget:=Y2 hlt
    by_cases hc:f.Odd[k].Ticks = []
    ·rw [hc];refine .inl ⟨(k:Int) + 1,rfl,⟨k + 1,by push_cast;rfl,by omega,hlt,fun j g hj hpj hjk => ?_⟩,by simp;omega⟩
     rcases YG j k with h | h
     ·exact hn j g hj hpj h
     ·have:j = k:=by omega
      subst this;rw [hget] at hj;cases hj;exact hc
    ·rw [ZU (show ((f.Odd[k].Ticks.length:Int) > 0) by have:=List.length_pos_iff.2 hc;omega),cond_true]
     exact .inr ⟨_,rfl,.inl ⟨k,_,rfl,hget,hpk,hc,hn⟩⟩
   ·rw [ZZ (show ¬ (k:Int) < f.Odd.length by omega),Bool.and_false,cond_false]
    refine .inr ⟨_,rfl,.inr ⟨rfl,fun j g hj hpj => hn j g hj hpj ?_⟩⟩
    have:=(List.getElem?_eq_some_iff.1 hj).1;omega) (p:Int) ⟨p,rfl,YB _,h1,fun j g _ h h' => by omega⟩
  rw [hr];simp only [Y0]
  rcases hpost with ⟨k,g,rfl,hk,hpk,hne,hn⟩ | ⟨rfl,hn⟩
  ·have hset:=Z0r hs.inc (Y6 hk)
   have hgi:¬ g.Index < i:=fun h => by have:=(h2 k g hk).2 h;omega
   refine ⟨_,rfl,.inl ⟨rfl,by simp only;omega,(hs.odd g (Y6 hk)).2,by simp only;rw [hset];exact hne,fun j hij hjg => ?_⟩⟩
   simp only at hjg
   by_cases ho:Z2S f j
   ·obtain ⟨k',g',hk',rfl,hiff⟩:=odd_split hs h2 ho
    rw [Z0r hs.inc (Y6 hk')];refine hn k' g' hk' ?_ ?_
    ·rcases YG k' p with h | h
     ·have:=hiff.1 h;omega
     ·exact h
    ·rcases YG k' k with h | h
     ·exact h
     ·rcases YG k k' with h' | h'
      ·have:=hs.inc k k' g g' h' hk hk';omega
      ·have:k = k':=by omega
       subst this;rw [hk] at hk';cases hk';omega
   ·exact Z70 hs hbare ho
  ·refine ⟨_,rfl,.inr ⟨rfl,rfl,fun j hij _ => ?_⟩⟩
   by_cases ho:Z2S f j
   ·obtain ⟨k',g',hk',rfl,hiff⟩:=odd_split hs h2 ho
    rw [Z0r hs.inc (Y6 hk')];refine hn k' g' hk' ?_
    rcases YG k' p with h | h
    ·have:=hiff.1 h;omega
    ·exact h
   ·exact Z70 hs hbare ho
 | false =>
  rw [cond_false];obtain ⟨r,hr,hpost⟩:=Z0z (step:=Zq.s1 f 1) (I:=fun (s:Int) => i≤s∧s≤1099511627777∧∀ k,i≤k→k < s→ZJ f k = []) (fun s => (1099511627777 - s).toNat)
   (fun r => (∃ j,r = .ret (j,true)∧i≤j∧ZB j∧ZJ f j ≠ []∧∀ k,i≤k→k < j→ZJ f k = [])∨(r = .go ()∧∀ k,i≤k→ZB k→ZJ f k = [])) (by
   rintro s ⟨hs1,hs2,hn⟩;unfold Zq.s1;rw [Z77]
   by_cases ht:ZB s
   ·rw [ZU ht,cond_true,Z9j hl hs (Z25 ht),ZF (by unfold ZB at ht;omega)]
    simp only [Y0]
    by_cases hc:ZJ f s = []
    ·rw [hc];refine .inl ⟨s + 1,by simp,⟨by omega,by unfold ZB at ht;omega,fun k hk hks => ?_⟩,by unfold ZB at ht;omega⟩
     by_cases h:k = s
     ·rw [h];exact hc
     ·exact hn k hk (by omega)
    ·rw [ZU hc,cond_true];exact .inr ⟨_,rfl,.inl ⟨s,rfl,hs1,ht,hc,hn⟩⟩
   ·rw [ZZ ht,cond_false];exact .inr ⟨_,rfl,.inr ⟨rfl,fun k hk htk => hn k hk (by unfold ZB at ht htk;omega)⟩⟩) i ⟨Y0B _,by omega,fun k h h' => by omega⟩
  rw [hr];simp only [Y0]
  rcases hpost with ⟨j,rfl,h1,h2,h3,h4⟩ | ⟨rfl,hn⟩
  ·exact ⟨_,rfl,.inl ⟨rfl,h1,h2,h3,h4⟩⟩
  ·exact ⟨_,rfl,.inr ⟨rfl,rfl,hn⟩⟩
theorem ZC6 {f:Form} (hl:Lim f) (hs:Shape f) {i:Int} (hi : -1099511627776≤i∧i≤1099511627776):∃ r,Zq f i (-1) = some r∧DownTo f i r:=by
 have hi64:In64 i:=by unfold In64;omega
 obtain ⟨b,hb,hbb⟩:=Z7D hl
 have holen:=Z32 (b:=31) hl.odd
 unfold Zq
 rw [hb]
 simp only [Y0]
 cases b with
 | true =>
  have hbare:=hbb.1 rfl
  rw [cond_true];obtain ⟨p,h1,h2,h3⟩:=Z6G hl hs.inc i
  rw [h3]
  -- the number of exceptions up to the index
  obtain ⟨q,hq1,hq2,hq3⟩ : ∃ q:Nat,q≤f.Odd.length∧(∀ (k:Nat) (g:Granule),f.Odd[k]? = some g→(k < q ↔ g.Index≤i))∧((bif (decide ((-1:Int) < 0) && !decide (∃ g,f.Odd[p]? = some g∧g.Index = i)) then some (w64 ((p:Int) - 1)) else some (p:Int)):Option Int) = some ((q:Int) - 1):=by
   by_cases he:∃ g,f.Odd[p]? = some g∧g.Index = i
   ·obtain ⟨g,hg,hgi⟩:=he
    have hpl:=(List.getElem?_eq_some_iff.1 hg).1
    refine ⟨p + 1,by omega,fun k g' hk => ?_,by rw [ZU (p:=∃ g,f.Odd[p]? = some g∧g.Index = i) ⟨g,hg,hgi⟩];simp⟩
    have:=h2 k g' hk
    constructor
    ·intro h
     rcases YG k p with h' | h'
     ·have:=this.1 h';omega
     ·have:k = p:=by omega
      subst this;rw [hg] at hk;cases hk;omega
    ·intro h
     rcases YG p k with h' | h'
     ·have:=hs.inc p k g g' h' hg hk;omega
     ·omega
   ·refine ⟨p,h1,fun k g' hk => ?_,by rw [ZZ (p:=∃ g,f.Odd[p]? = some g∧g.Index = i) he,ZF (by omega)];simp⟩
    have:=h2 k g' hk
    constructor
    ·intro h;have:=this.1 h;omega
    ·intro h
     by_cases hgi:g'.Index = i
     ·exfalso
      have hkp:¬ k < p:=fun h' => by have:=this.1 h';omega
      rcases YG p k with h' | h'
      ·have hpl:p < f.Odd.length:=by have:=(List.getElem?_eq_some_iff.1 hk).1;omega
       have h5:=hs.inc p k _ g' h' (Y2 hpl) hk
       have h6:=(h2 p _ (Y2 hpl)).2 (by omega)
       omega
      ·have:k = p:=by omega
       subst this;exact he ⟨g',hk,hgi⟩
     ·exact this.2 (by omega)
  simp only [Y0];rw [hq3];simp only [Y0];obtain ⟨r,hr,hpost⟩:=Z0z (step:=Zq.s0 f (-1)) (I:=fun (s:Int) => ∃ k:Nat,s = (k:Int) - 1∧k≤q∧∀ (j:Nat) (g:Granule),f.Odd[j]? = some g→k≤j→j < q→g.Ticks = []) (fun s => (s + 1).toNat)
   (fun r => (∃ (k:Nat) (g:Granule),r = .ret (g.Index,true)∧f.Odd[k]? = some g∧k < q∧g.Ticks ≠ []∧∀ (j:Nat) (g':Granule),f.Odd[j]? = some g'→k < j→j < q→g'.Ticks = [])∨(r = .go ()∧∀ (j:Nat) (g':Granule),f.Odd[j]? = some g'→j < q→g'.Ticks = [])) (by
   rintro s ⟨k,rfl,hk,hn⟩;unfold Zq.s0
   by_cases h0:0 < k
   ·have hlt:k - 1 < f.Odd.length:=by omega
    rw [ZU (show (k:Int) - 1 ≥ 0 by omega),ZU (show (k:Int) - 1 < f.Odd.length by omega),Y0K,cond_true,show (k:Int) - 1 = ((k - 1:Nat):Int) by omega,at?_nat hlt,ZF (by omega)]
    simp only [Y0];have hget:=Y2 hlt
    by_cases hc:f.Odd[k - 1].Ticks = []
    ·rw [hc];refine .inl ⟨((k - 1:Nat):Int) + -1,rfl,⟨k - 1,by omega,by omega,fun j g hj hpj hjk => ?_⟩,by simp;omega⟩
     rcases YG j k with h | h
     ·have:j = k - 1:=by omega
      subst this;rw [hget] at hj;cases hj;exact hc
     ·exact hn j g hj h hjk
    ·rw [ZU (show ((f.Odd[k - 1].Ticks.length:Int) > 0) by have:=List.length_pos_iff.2 hc;omega),cond_true]
     exact .inr ⟨_,rfl,.inl ⟨k - 1,_,rfl,hget,by omega,hc,fun j g hj h1 h2 => hn j g hj (by omega) h2⟩⟩
   ·rw [ZZ (show ¬ (k:Int) - 1 ≥ 0 by omega),Y0d,cond_false]
    exact .inr ⟨_,rfl,.inr ⟨rfl,fun j g hj hjq => hn j g hj (by omega) hjq⟩⟩) ((q:Int) - 1) ⟨q,rfl,YB _,fun j g _ h h' => by omega⟩
  rw [hr];simp only [Y0]
  rcases hpost with ⟨k,g,rfl,hk,hkq,hne,hn⟩ | ⟨rfl,hn⟩
  ·have hset:=Z0r hs.inc (Y6 hk)
   have hgi:=(hq2 k g hk).1 hkq
   refine ⟨_,rfl,.inl ⟨rfl,hgi,(hs.odd g (Y6 hk)).2,by simp only;rw [hset];exact hne,fun j hij hjg => ?_⟩⟩
   simp only at hjg
   by_cases ho:Z2S f j
   ·obtain ⟨g',hg',rfl⟩:=ho
    obtain ⟨k',hk'⟩:=YC hg'
    rw [Z0r hs.inc hg'];refine hn k' g' hk' ?_ ((hq2 k' g' hk').2 hij)
    rcases YG k k' with h | h
    ·exact h
    ·rcases YG k' k with h' | h'
     ·have:=hs.inc k' k g' g h' hk' hk;omega
     ·have:k = k':=by omega
      subst this;rw [hk] at hk';cases hk';omega
   ·exact Z70 hs hbare ho
  ·refine ⟨_,rfl,.inr ⟨rfl,rfl,fun j hij _ => ?_⟩⟩
   by_cases ho:Z2S f j
   ·obtain ⟨g',hg',rfl⟩:=ho
    obtain ⟨k',hk'⟩:=YC hg'
    rw [Z0r hs.inc hg'];exact hn k' g' hk' ((hq2 k' g' hk').2 hij)
   ·exact Z70 hs hbare ho
 | false =>
  rw [cond_false];obtain ⟨r,hr,hpost⟩:=Z0z (step:=Zq.s1 f (-1)) (I:=fun (s:Int) => s≤i∧-1099511627777≤s∧∀ k,k≤i→s < k→ZJ f k = []) (fun s => (s + 1099511627777).toNat)
   (fun r => (∃ j,r = .ret (j,true)∧j≤i∧ZB j∧ZJ f j ≠ []∧∀ k,k≤i→j < k→ZJ f k = [])∨(r = .go ()∧∀ k,k≤i→ZB k→ZJ f k = [])) (by
   rintro s ⟨hs1,hs2,hn⟩;unfold Zq.s1;rw [Z77]
   by_cases ht:ZB s
   ·rw [ZU ht,cond_true,Z9j hl hs (Z25 ht),ZF (by unfold ZB at ht;omega)]
    simp only [Y0]
    by_cases hc:ZJ f s = []
    ·rw [hc];refine .inl ⟨s + -1,by simp,⟨by omega,by unfold ZB at ht;omega,fun k hk hks => ?_⟩,by unfold ZB at ht;omega⟩
     by_cases h:k = s
     ·rw [h];exact hc
     ·exact hn k hk (by omega)
    ·rw [ZU hc,cond_true];exact .inr ⟨_,rfl,.inl ⟨s,rfl,hs1,ht,hc,hn⟩⟩
   ·rw [ZZ ht,cond_false];exact .inr ⟨_,rfl,.inr ⟨rfl,fun k hk htk => hn k hk (by unfold ZB at ht htk;omega)⟩⟩) i ⟨Y0B _,by omega,fun k h h' => by omega⟩
  rw [hr];simp only [Y0]
  rcases hpost with ⟨j,rfl,h1,h2,h3,h4⟩ | ⟨rfl,hn⟩
  ·exact ⟨_,rfl,.inl ⟨rfl,h1,h2,h3,h4⟩⟩
  ·exact ⟨_,rfl,.inr ⟨rfl,rfl,hn⟩⟩
def Above (f:Form) (i:Int) (r:Int × Bool):Prop:=(r.2 = true∧i < r.1∧ZB r.1∧ZJ f r.1 ≠ []∧∀ k,i < k→k < r.1→ZB k→ZJ f k = [])∨(r.2 = false∧r.1 = 0∧∀ k,i < k→ZB k→ZJ f k = [])
def Under (f:Form) (i:Int) (r:Int × Bool):Prop:=(r.2 = true∧r.1 < i∧ZB r.1∧ZJ f r.1 ≠ []∧∀ k,k < i→r.1 < k→ZB k→ZJ f k = [])∨(r.2 = false∧r.1 = 0∧∀ k,k < i→ZB k→ZJ f k = [])
theorem Z4A {f:Form} (hl:Lim f) (hs:Shape f) {i:Int} (hi:In64 i):∃ r,Z0q f i = some r∧Above f i r:=by
 unfold Z0q
 by_cases h:i ≥ 1099511627776
 ·rw [ZU h,cond_true];exact ⟨_,rfl,.inr ⟨rfl,rfl,fun k hk ht => by unfold ZB at ht;omega⟩⟩
 ·rw [ZZ h,cond_false,ZF (by unfold In64 at hi;omega)]
  have hm:iMax (i + 1) (-1099511627776) = max (i + 1) (-1099511627776):=by unfold iMax;omega
  rw [hm];obtain ⟨r,h1,h2⟩:=gran_step_up hl hs (i:=max (i + 1) (-1099511627776)) (by omega)
  rw [h1];refine ⟨r,rfl,?_⟩
  rcases h2 with ⟨a,b,c,d,e⟩ | ⟨a,b,e⟩
  ·exact .inl ⟨a,by omega,c,d,fun k hk hkr ht => e k (by unfold ZB at ht;omega) hkr⟩
  ·exact .inr ⟨a,b,fun k hk ht => e k (by have:=ht;unfold ZB at this;omega) ht⟩
theorem Z5p {f:Form} (hl:Lim f) (hs:Shape f) {i:Int} (hi:In64 i):∃ r,Z1X f i = some r∧Under f i r:=by
 unfold Z1X
 by_cases h:i≤-1099511627776
 ·rw [ZU h,cond_true];exact ⟨_,rfl,.inr ⟨rfl,rfl,fun k hk ht => by unfold ZB at ht;omega⟩⟩
 ·rw [ZZ h,cond_false,ZF (by unfold In64 at hi;omega)]
  have hm:iMin (i - 1) 1099511627776 = min (i - 1) 1099511627776:=by unfold iMin;omega
  rw [hm];obtain ⟨r,h1,h2⟩:=ZC6 hl hs (i:=min (i - 1) 1099511627776) (by omega)
  rw [h1];refine ⟨r,rfl,?_⟩
  rcases h2 with ⟨a,b,c,d,e⟩ | ⟨a,b,e⟩
  ·exact .inl ⟨a,by omega,c,d,fun k hk hkr ht => e k (by unfold ZB at ht;omega) hkr⟩
  ·exact .inr ⟨a,b,fun k hk ht => e k (by have:=ht;unfold ZB at this;omega) ht⟩
end Go.Dn

namespace Go.Dn
open Go
def BesideR (f:Form) (i:Int) (lo hi:Int × Bool):Prop :=
 fits f i∧(lo.2 = true→fits f lo.1∧Z3j (ZJ f lo.1) (ZJ f i))∧(hi.2 = true→fits f hi.1∧Z3j (ZJ f i) (ZJ f hi.1))∧(lo.2 = true→hi.2 = true→Z3j (ZJ f lo.1) (ZJ f hi.1))
theorem aheadL_nil_l (b:List Span):Z3j [] b:=by intro x hx;cases hx
theorem aheadL_nil_r (a:List Span):Z3j a []:=by intro x _ y hy;cases hy
theorem Z6u {f:Form} (hl:Lim f) (hs:Shape f) (i:Int):Len (ZJ f i):=by
 by_cases ho:Z2S f i
 ·obtain ⟨g,hg,rfl⟩:=ho
  rw [Z0r hs.inc hg];exact (hl.ticks g hg).2.1
 ·by_cases h0:f.Count = 0
  ·rw [Z3C ho h0];unfold Len;simp
  ·rw [Z39 ho h0];unfold Len;rw [YQ];exact (hl.sets _ (Z01 hs h0 i).2).1
theorem Z8F {f:Form} (hs:Shape f) {i:Int} (hf:fits f i):RightL (ZJ f i):=by
 by_cases ho:Z2S f i
 ·obtain ⟨g,hg,rfl⟩:=ho
  rw [Z0r hs.inc hg];exact (hs.odd g hg).1
 ·by_cases h0:f.Count = 0
  ·rw [Z3C ho h0];exact ⟨by simp,by simp⟩
  ·unfold fits at hf;rw [Z39 ho h0] at hf ⊢;exact (hs.core _ (Z01 hs h0 i).2).shift fun s hs' => hf (ZS (Z4N f i) s) (List.mem_map.2 ⟨s,hs',rfl⟩)
theorem near_l {c:Bool} {X S:List Span}:Z3j (if c = true then X else []) S ↔ (c = true→Z3j X S):=by
 cases c
 ·simp [aheadL_nil_l]
 ·simp
theorem near_r {c:Bool} {X S:List Span}:Z3j S (if c = true then X else []) ↔ (c = true→Z3j S X):=by
 cases c
 ·simp [aheadL_nil_r]
 ·simp
noncomputable def sideG (f:Form) (r:Int × Bool):Option (Jx (List Span) Bool) :=
 (bif r.2 then (Zz f r.1).bind fun x => (bif (x.2 != 0) then some (.ret false) else some (.go x.1)) else some (.go []))
open Classical in
theorem sideG_eq {f:Form} (hl:Lim f) (hs:Shape f) {r:Int × Bool} (ht:r.2 = true→ZB r.1):(r.2 = true∧¬ fits f r.1∧sideG f r = some (.ret false))∨((r.2 = true→fits f r.1)∧sideG f r = some (.go (if r.2 = true then ZJ f r.1 else []))):=by
 obtain ⟨j,c⟩:=r
 unfold sideG
 cases c with
 | false => exact .inr ⟨by simp,by simp⟩
 | true =>
  simp only [cond_true];rw [Z52 hl hs (Z25 (ht rfl))]
  by_cases hfl:fits f j
  ·rw [if_pos ⟨ht rfl,hfl⟩];exact .inr ⟨fun _ => hfl,by simp⟩
  ·rw [if_neg (fun h => hfl h.2)];exact .inl ⟨trivial,hfl,rfl⟩
open Classical in
theorem ZCe {f:Form} (hl:Lim f) (hs:Shape f) {i:Int} (hi:ZB i) {lo hi':Int × Bool} (hlo:Z1X f i = some lo) (hhi:Z0q f i = some hi') (tlo:lo.2 = true→ZB lo.1) (thi:hi'.2 = true→ZB hi'.1) :
  ∃ b,Z1w f i = some b∧(b = true ↔ BesideR f i lo hi'):=by
 have e:Z1w f i = (Zz f i).bind fun x1 => (bif (x1.2 != 0) then some false else (sideG f lo).bind fun y1 => y1.elim (fun r' => some r') fun a2 => (sideG f hi').bind fun y2 => y2.elim (fun r' => some r') fun a4 =>
   (Z0d a2 x1.1).bind fun x6 => ((bif x6 then (Z0d x1.1 a4).bind fun x7 => some x7 else some false)).bind fun y3 => ((bif y3 then (Z0d a2 a4).bind fun x8 => some x8 else some false)).bind fun y4 => some y4):=by
  unfold Z1w sideG;rw [hlo,hhi];simp only [Y0]
 rw [e,Z52 hl hs (Z25 hi)]
 clear e
 by_cases hf:fits f i
 ·rw [if_pos ⟨hi,hf⟩];simp only [Y0,bne_self_eq_false,cond_false]
  rcases sideG_eq hl hs tlo with ⟨h1,h2,h0⟩ | ⟨h1,h0⟩
  ·rw [h0];exact ⟨false,rfl,fun h => (by cases h),fun h => absurd (h.2.1 h1).1 h2⟩
  ·rw [h0];simp only [Y0,Jx.elim]
   rcases sideG_eq hl hs thi with ⟨h3,h4,h0'⟩ | ⟨h3,h0'⟩
   ·rw [h0'];exact ⟨false,rfl,fun h => (by cases h),fun h => absurd (h.2.2.1 h3).1 h4⟩
   ·rw [h0'];simp only [Y0];have lenA:Len (if lo.2 = true then ZJ f lo.1 else []):=by
     by_cases hc:lo.2 = true
     ·rw [if_pos hc];exact Z6u hl hs _
     ·rw [if_neg hc];unfold Len;simp
    generalize hA:(if lo.2 = true then ZJ f lo.1 else []) = A at lenA
    generalize hB:(if hi'.2 = true then ZJ f hi'.1 else []) = B
    obtain ⟨r1,q1,p1⟩:=Z5e (b:=ZJ f i) lenA
    obtain ⟨r2,q2,p2⟩:=Z5e (a:=ZJ f i) (b:=B) (Z6u hl hs i)
    obtain ⟨r3,q3,p3⟩:=Z5e (b:=B) lenA
    rw [q1,q2,q3];subst hA hB;rw [near_l] at p1;rw [near_r] at p2;rw [near_l,near_r] at p3;refine ⟨r1 && r2 && r3,by cases r1 <;> cases r2 <;> rfl,?_⟩
    rw [Y9,Y9,p1,p2,p3]
    constructor
    ·rintro ⟨⟨a,b⟩,c⟩;exact ⟨hf,fun h => ⟨h1 h,a h⟩,fun h => ⟨h3 h,b h⟩,c⟩
    ·rintro ⟨_,a,b,c⟩;exact ⟨⟨fun h => (a h).2,fun h => (b h).2⟩,c⟩
 ·rw [if_neg (fun h => hf h.2)]
  exact ⟨false,rfl,fun h => (by cases h),fun h => absurd h.1 hf⟩
def Beside (f:Form) (i:Int):Prop:=∀ lo hi,Under f i lo→Above f i hi→BesideR f i lo hi
theorem Under.uniq {f:Form} {i:Int} {r r':Int × Bool} (h:Under f i r) (h':Under f i r'):r = r':=by
 obtain ⟨a,b⟩:=r
 obtain ⟨a',b'⟩:=r'
 rcases h with ⟨rfl,h1,h2,h3,h4⟩ | ⟨rfl,rfl,h4⟩ <;> rcases h' with ⟨rfl,k1,k2,k3,k4⟩ | ⟨rfl,rfl,k4⟩
 ·simp only at *
  rcases Int.lt_trichotomy a a' with h | h | h
  ·exact absurd (h4 a' k1 h k2) k3
  ·rw [h]
  ·exact absurd (k4 a h1 h h2) h3
 ·exact absurd (k4 a h1 h2) h3
 ·exact absurd (h4 a' k1 k2) k3
 ·rfl
theorem Above.uniq {f:Form} {i:Int} {r r':Int × Bool} (h:Above f i r) (h':Above f i r'):r = r':=by
 obtain ⟨a,b⟩:=r
 obtain ⟨a',b'⟩:=r'
 rcases h with ⟨rfl,h1,h2,h3,h4⟩ | ⟨rfl,rfl,h4⟩ <;> rcases h' with ⟨rfl,k1,k2,k3,k4⟩ | ⟨rfl,rfl,k4⟩
 ·simp only at *
  rcases Int.lt_trichotomy a a' with h | h | h
  ·exact absurd (k4 a h1 h h2) h3
  ·rw [h]
  ·exact absurd (h4 a' k1 h k2) k3
 ·exact absurd (k4 a h1 h2) h3
 ·exact absurd (h4 a' k1 k2) k3
 ·rfl
theorem ZBl {f:Form} (hl:Lim f) (hs:Shape f) {i:Int} (hi:ZB i):∃ b,Z1w f i = some b∧(b = true ↔ Beside f i):=by
 obtain ⟨lo,h1,h2⟩:=Z5p hl hs (Z25 hi)
 obtain ⟨hi',h3,h4⟩:=Z4A hl hs (Z25 hi)
 obtain ⟨b,h5,h6⟩:=ZCe hl hs hi h1 h3 (fun h => by rcases h2 with ⟨_,_,h,_⟩ | ⟨h',_⟩ <;> simp_all) (fun h => by rcases h4 with ⟨_,_,h,_⟩ | ⟨h',_⟩ <;> simp_all)
 refine ⟨b,h5,h6.trans ⟨fun h lo' hi'' q1 q2 => ?_,fun h => h lo hi' h2 h4⟩⟩
 rw [q1.uniq h2,q2.uniq h4];exact h
def Z5T (f:Form):Nat:=(f.Core.map List.length).sum + (f.Odd.map (·.Ticks.length)).sum
theorem sum_take {α:Type} (g:α→Nat) {l:List α} {k:Nat} (h:k < l.length):((l.take (k + 1)).map g).sum = ((l.take k).map g).sum + g l[k]:=by
 rw [Y0X h,Yo,List.sum_append];simp
theorem ZAA {f:Form} (hl:Lim f) (hc:f.Core.length≤6000) (ho:f.Odd.length≤6000):Z02 f = some (Z5T f:Int):=by
 have hr:=Z1T
 have lenC:∀ l ∈ f.Core,l.length≤8796093022207:=fun l hm => by have:=(hl.sets l hm).1;unfold Len at this;omega
 have lenO:∀ g ∈ f.Odd,g.Ticks.length≤8796093022207:=fun l hm => by have:=(hl.ticks l hm).2.1;unfold Len at this;omega
 obtain ⟨a,h1,h2,h3⟩:=fold_loop (l:=f.Core) (step:=Z02.s0 f) (f:=fun a _ x => a + (x.length:Int)) (fin:=id) (a0:=(0:Int)) (fun k a => a = ((((f.Core.take k).map List.length).sum:Nat):Int)∧a≤k * 8796093022207) ⟨by simp,by simp⟩ (fun k x a hk ⟨ha,hb⟩ => by
   obtain ⟨q1,q2⟩:=ZAh hk
   have hx:=lenC x (Y6 hk)
   have hkl:k < f.Core.length:=by omega
   have h0:0≤a:=by rw [ha];omega
   unfold Z02.s0;simp only;rw [ZU q2,cond_true,q1,ZF (x:=(k:Int) + 1) (by omega)]
   simp only [Y0];rw [ZF (x:=a + (x.length:Int)) (by omega)]
   refine ⟨rfl,?_,by push_cast;omega⟩
   rw [sum_take _ hkl];rw [Y2 hkl] at hk;cases hk;rw [ha];push_cast;rfl) (fun a _ => by unfold Z02.s0;simp only;rw [ZZ (by omega)];rfl)
 rw [Y0J] at h2
 obtain ⟨b,h4,h5,h6⟩:=fold_loop (l:=f.Odd) (step:=Z02.s1 f) (f:=fun a _ x => a + (x.Ticks.length:Int)) (fin:=id) (a0:=a) (fun k b => b = a + ((((f.Odd.take k).map (·.Ticks.length)).sum:Nat):Int)∧b≤a + k * 8796093022207) ⟨by simp,by simp⟩ (fun k x b hk ⟨ha,hb⟩ => by
   obtain ⟨q1,q2⟩:=ZAh hk
   have hx:=lenO x (Y6 hk)
   have hkl:k < f.Odd.length:=by omega
   have h0:0≤b:=by rw [ha,h2];omega
   unfold Z02.s1;simp only;rw [ZU q2,cond_true,q1,ZF (x:=(k:Int) + 1) (by omega)]
   simp only [Y0];rw [ZF (x:=b + (x.Ticks.length:Int)) (by omega)]
   refine ⟨rfl,?_,by push_cast;omega⟩
   rw [sum_take _ hkl];rw [Y2 hkl] at hk;cases hk;rw [ha];push_cast;omega) (fun a _ => by unfold Z02.s1;simp only;rw [ZZ (by omega)];rfl)
 rw [Y0J] at h5
 unfold Z02
 rw [h1]
 simp only [Y0,id]
 rw [h4]
 simp only [Y0,id,h5,h2,Z5T]
 push_cast;rfl
structure RightF (f:Form):Prop where
 shape:Shape f
 turns:Turns f
 beside:∀ g ∈ f.Odd,Beside f g.Index
def Z5h (f:Form):Prop:=6000 < f.Core.length∨6000 < f.Odd.length∨60000 < Z5T f
theorem Z6R {f:Form} (hl:Lim f):(Z5h f∧Zy f = some 3)∨(¬ Z5h f∧RightF f∧Zy f = some 0)∨(¬ Z5h f∧¬ RightF f∧Zy f = some 50):=by
 have holen:=Z32 (b:=31) hl.odd
 unfold Zy
 by_cases h1:6000 < f.Core.length∨6000 < f.Odd.length
 ·have e:(decide ((f.Core.length:Int) > 6000) || decide ((f.Odd.length:Int) > 6000)) = true:=by
   rcases h1 with h | h
   ·rw [ZU (show (f.Core.length:Int) > 6000 by omega)];rfl
   ·rw [ZU (show (f.Odd.length:Int) > 6000 by omega)];simp
  rw [e];exact .inl ⟨h1.elim .inl (fun h => .inr (.inl h)),rfl⟩
 ·have e:(decide ((f.Core.length:Int) > 6000) || decide ((f.Odd.length:Int) > 6000)) = false:=by
   rw [ZZ (show ¬ (f.Core.length:Int) > 6000 by omega),ZZ (show ¬ (f.Odd.length:Int) > 6000 by omega)];rfl
  rw [e,cond_false,ZAA hl (by omega) (by omega)]
  simp only [Y0]
  by_cases h2:60000 < Z5T f
  ·rw [ZU (show (Z5T f:Int) > 60000 by omega)]
   exact .inl ⟨.inr (.inr h2),rfl⟩
  ·have hnl:¬ Z5h f:=by unfold Z5h;omega
   rw [ZZ (show ¬ (Z5T f:Int) > 60000 by omega),cond_false]
   obtain ⟨b,hb,hbs⟩:=gran_shape_eq hl
   rw [hb];simp only [Y0];refine .inr ?_;cases b with
   | false => exact .inr ⟨hnl,fun h => (by have:=hbs.2 h.shape;cases this),rfl⟩
   | true =>
    have hs:=hbs.1 rfl
    obtain ⟨c,hc,hct⟩:=gran_turns_eq hl hs
    rw [hc];simp only [Y0,Ya,cond_false];cases c with
    | false => exact .inr ⟨hnl,fun h => (by have:=hct.2 h.turns;cases this),rfl⟩
    | true =>
     simp only [Ya,cond_false]
     rcases Z3Z (l:=f.Odd) (step:=Zy.s0 f) (fun _ g => Beside f g.Index) (no:=.ret 50) (yes:=.go ()) (fun k g hk _ => by
       obtain ⟨q1,q2⟩:=ZAh hk
       obtain ⟨b,hb,hbb⟩:=ZBl hl hs (hs.odd g (Y6 hk)).2
       unfold Zy.s0;rw [ZU q2,cond_true,q1,ZF (by omega)]
       simp only [Y0,hb];cases b
       ·exact .inr ⟨rfl,fun h => by have:=hbb.2 h;cases this⟩
       ·exact .inl ⟨rfl,hbb.1 rfl⟩) (by unfold Zy.s0;rw [ZZ (by omega)];rfl) with ⟨q1,q2⟩ | ⟨q1,q2⟩
     ·rw [q1];exact .inl ⟨hnl,⟨hs,hct.1 rfl,fun g hg => by obtain ⟨k,hk⟩:=YC hg;exact q2 k g hk⟩,rfl⟩
     ·rw [q1];exact .inr ⟨hnl,fun h => q2 fun k g hk => h.beside g (Y6 hk),rfl⟩
def Z6P (f:Form):Prop:=f.Core.length≤12∧f.Odd.length≤8∧Z5T f≤60
theorem Z8f {f:Form} (hl:Lim f):∃ b,Z0o f = some b∧(b = true ↔ Z6P f):=by
 unfold Z0o
 by_cases h:f.Core.length≤12∧f.Odd.length≤8
 ·rw [ZU (show (f.Core.length:Int)≤12 by omega),ZU (show (f.Odd.length:Int)≤8 by omega),ZAA hl (by omega) (by omega)]
  refine ⟨decide ((Z5T f:Int)≤60),rfl,?_⟩;rw [decide_eq_true_iff];exact ⟨fun h' => ⟨h.1,h.2,by omega⟩,fun h' => by have:=h'.2.2;omega⟩
 ·have e:(decide ((f.Core.length:Int)≤12) && decide ((f.Odd.length:Int)≤8)) = false:=by
   by_cases h1:f.Core.length≤12
   ·rw [ZZ (show ¬ (f.Odd.length:Int)≤8 by omega)];simp
   ·rw [ZZ (show ¬ (f.Core.length:Int)≤12 by omega)];rfl
  rw [e];exact ⟨false,rfl,fun h => (by cases h),fun h' => absurd ⟨h'.1,h'.2.1⟩ h⟩
end Go.Dn

namespace Go.Dn
open Go
theorem Z3X {f:Form} {l:List Span}:l ∈ full f ↔ l ∈ f.Core∧l ≠ []:=by
 unfold full
 rw [List.mem_filter,decide_eq_true_iff,gt_iff_lt,List.length_pos_iff]
theorem full_pair {f:Form} (hs:Shape f) (ht:Turns f):(full f).Pairwise (fun a b => lstT a < fstT b):=by
 have hm:∀ x ∈ full f,fstT x≤lstT x:=fun x hx => Z4Y (hs.core x (Z3X.1 hx).1) (Z3X.1 hx).2
 have h1:=ht.1
 generalize full f = l at hm h1
 induction l with
 | nil => exact .nil
 | cons x l ih =>
  have ih:=ih (fun y hy => hm y (YL _ hy)) (fun k a b ha hb => h1 (k + 1) a b ha hb)
  refine List.pairwise_cons.2 ⟨fun y hy => ?_,ih⟩
  cases l with
  | nil => cases hy
  | cons z l =>
   have hxz:=h1 0 x z rfl rfl
   rcases List.mem_cons.1 hy with rfl | hy
   ·exact hxz
   ·have:=(List.pairwise_cons.1 ih).1 y hy
    have:=hm z (by simp)
    omega
theorem core_pair {f:Form} (hs:Shape f) (ht:Turns f) {j k:Nat} {a b:List Span} (hjk:j < k) (ha:f.Core[j]? = some a) (hb:f.Core[k]? = some b) (na:a ≠ []) (nb:b ≠ []):lstT a < fstT b:=by
 have h:=full_pair hs ht
 unfold full at h
 rw [List.pairwise_filter] at h
 have hj:=(List.getElem?_eq_some_iff.1 ha)
 have hk:=(List.getElem?_eq_some_iff.1 hb)
 obtain ⟨hj,rfl⟩:=hj
 obtain ⟨hk,rfl⟩:=hk
 exact List.pairwise_iff_getElem.1 h j k hj hk hjk (by rw [decide_eq_true_iff];exact List.length_pos_iff.2 na) (by rw [decide_eq_true_iff];exact List.length_pos_iff.2 nb)
theorem core_turn {f:Form} (hs:Shape f) (ht:Turns f) {a b:List Span} (ha:a ∈ f.Core) (hb:b ∈ f.Core) (na:a ≠ []) (nb:b ≠ []):lstT a < fstT b + f.Period:=by
 have hA:=Z3X.2 ⟨ha,na⟩
 have hB:=Z3X.2 ⟨hb,nb⟩
 have hm:∀ x ∈ full f,fstT x≤lstT x:=fun x hx => Z4Y (hs.core x (Z3X.1 hx).1) (Z3X.1 hx).2
 have hn:full f ≠ []:=List.ne_nil_of_mem hA
 have hlast:=Y01 hn
 have hhead:=Y05 hn
 have h2:=ht.2 _ _ hlast hhead
 have hp:=full_pair hs ht
 have e1:lstT a≤lstT ((full f).getLast hn):=by
  obtain ⟨j,hj⟩:=YC hA
  obtain ⟨hjl,hj⟩:=List.getElem?_eq_some_iff.1 hj
  by_cases hc:j = (full f).length - 1
  ·subst hc;rw [List.getLast_eq_getElem,hj];exact Y0B _
  ·have:=List.pairwise_iff_getElem.1 hp j ((full f).length - 1) hjl (by omega) (by omega)
   rw [hj] at this;have h5:=hm _ (List.getLast_mem hn)
   rw [List.getLast_eq_getElem] at h5 ⊢;omega
 have e2:fstT ((full f).head hn)≤fstT b:=by
  obtain ⟨j,hj⟩:=YC hB
  obtain ⟨hjl,hj⟩:=List.getElem?_eq_some_iff.1 hj
  have hh:(full f).head hn = (full f)[0]'(by omega):=List.head_eq_getElem hn
  by_cases hc:j = 0
  ·subst hc;rw [hh,hj];exact Y0B _
  ·have:=List.pairwise_iff_getElem.1 hp 0 j (by omega) hjl (by omega)
   rw [hj,← hh] at this;have h5:=hm _ (List.head_mem hn)
   omega
 omega
theorem ZCA {f:Form} (hs:Shape f) (h0:f.Count ≠ 0) (i:Int):f.Core[(i % f.Count).toNat]? = some (Z04 f i):=by
 have:=(Z01 hs h0 i).1
 unfold at? at this
 rwa [if_pos (Yf i h0)] at this
theorem ZBt {f:Form} (hs:Shape f) (ht:Turns f) (h0:f.Count ≠ 0) {i k:Int} (hik:i < k) (ni:Z04 f i ≠ []) (nk:Z04 f k ≠ []):lstT (Z04 f i) + Z4N f i < fstT (Z04 f k) + Z4N f k:=by
 have hp:=Z9l hs h0
 have di:=Yd i f.Count
 have dk:=Yd k f.Count
 have mi:=Yf i h0
 have mk:=Yf k h0
 have li:=Yh i hp
 have lk:=Yh k hp
 have hq:i / f.Count≤k / f.Count:=Int.ediv_le_ediv hp (by omega)
 unfold Z4N
 rcases Int.lt_or_eq_of_le hq with h | h
 ·have h1:=core_turn hs ht (Z01 hs h0 i).2 (Z01 hs h0 k).2 ni nk
  have h2:(i / f.Count + 1) * f.Period≤k / f.Count * f.Period:=YM (by omega) hs.per.1
  rw [Y0W,Y0y] at h2;omega
 ·rw [h] at di ⊢;have:i % f.Count < k % f.Count:=by omega
  have h1:=core_pair hs ht (j:=(i % f.Count).toNat) (k:=(k % f.Count).toNat) (by omega) (ZCA hs h0 i) (ZCA hs h0 k) ni nk
  omega
theorem Z1h {l:List Span} (d:Int) (hn:l ≠ []):lstT (l.map (ZS d)) = lstT l + d∧fstT (l.map (ZS d)) = fstT l + d:=by
 unfold lstT fstT
 rw [List.getLast?_map,List.head?_map,Y01 hn,Y05 hn]
 exact ⟨rfl,rfl⟩
theorem under_some {f:Form} (hl:Lim f) (hs:Shape f) {i k:Int} (hk:In64 k) (hik:i < k) (ti:ZB i) (ni:ZJ f i ≠ []):∃ j,Under f k (j,true)∧i≤j:=by
 obtain ⟨r,_,h⟩:=Z5p hl hs hk
 obtain ⟨j,b⟩:=r
 have h':=h
 rcases h with ⟨rfl,h1,h2,h3,h4⟩ | ⟨rfl,_,h4⟩
 ·refine ⟨j,h',?_⟩;apply Classical.byContradiction;intro hc;exact ni (h4 i hik (by simp only;omega) ti)
 ·exact absurd (h4 i hik ti) ni
theorem above_some {f:Form} (hl:Lim f) (hs:Shape f) {i k:Int} (hk:In64 k) (hik:k < i) (ti:ZB i) (ni:ZJ f i ≠ []):∃ j,Above f k (j,true)∧j≤i:=by
 obtain ⟨r,_,h⟩:=Z4A hl hs hk
 obtain ⟨j,b⟩:=r
 have h':=h
 rcases h with ⟨rfl,h1,h2,h3,h4⟩ | ⟨rfl,_,h4⟩
 ·refine ⟨j,h',?_⟩;apply Classical.byContradiction;intro hc;exact ni (h4 i hik (by simp only;omega) ti)
 ·exact absurd (h4 i hik ti) ni
theorem RightF.order {f:Form} (hl:Lim f) (hr:RightF f):∀ (n:Nat) (i k:Int),(k - i).toNat = n→i < k→ZB i→ZB k→fits f i→fits f k→ZJ f i ≠ []→ZJ f k ≠ []→lstT (ZJ f i) < fstT (ZJ f k):=by
 have hs:=hr.shape
 intro n
 induction n using Nat.strongRecOn with
 | _ n ih =>
  intro i k hn hik ti tk fi fk ni nk
  by_cases ok:Z2S f k
  ·obtain ⟨g,hg,rfl⟩:=ok
   obtain ⟨j,hj,hij⟩:=under_some hl hs (Z25 tk) hik ti ni
   obtain ⟨hi',_,hab⟩:=Z4A hl hs (Z25 tk)
   obtain ⟨_,hlo,_,_⟩:=hr.beside g hg _ _ hj hab
   obtain ⟨fj,aj⟩:=hlo rfl
   have hj2:=hj
   rcases hj2 with ⟨_,j1,j2,j3,j4⟩ | ⟨h,_⟩
   ·simp only at fj aj j1 j2 j3;have hjk:=(ZBw j3 nk).1 aj
    by_cases hji:i = j
    ·rw [hji];exact hjk
    ·have h1:=ih (j - i).toNat (by omega) i j rfl (by omega) ti j2 fi fj ni j3
     have h2:=Z4Y (Z8F hs fj) j3
     omega
   ·cases h
  ·by_cases oi:Z2S f i
   ·obtain ⟨g,hg,rfl⟩:=oi
    obtain ⟨j,hj,hij⟩:=above_some hl hs (Z25 ti) hik tk nk
    obtain ⟨lo',_,hun⟩:=Z5p hl hs (Z25 ti)
    obtain ⟨_,_,hhi,_⟩:=hr.beside g hg _ _ hun hj
    obtain ⟨fj,aj⟩:=hhi rfl
    have hj2:=hj
    rcases hj2 with ⟨_,j1,j2,j3,j4⟩ | ⟨h,_⟩
    ·simp only at fj aj j1 j2 j3;have hjk:=(ZBw ni j3).1 aj
     by_cases hji:j = k
     ·rw [← hji];exact hjk
     ·have h1:=ih (k - j).toNat (by omega) j k rfl (by omega) j2 tk fj fk j3 nk
      have h2:=Z4Y (Z8F hs fj) j3
      omega
    ·cases h
   ·have h0:f.Count ≠ 0:=fun h => ni (Z3C oi h)
    have ni':=fun h => ni ((Z2L oi h0).2 h)
    have nk':=fun h => nk ((Z2L ok h0).2 h)
    rw [Z39 oi h0,Z39 ok h0,(Z1h _ ni').1,(Z1h _ nk').2];exact ZBt hs hr.turns h0 hik ni' nk'
theorem iMin_eq (a b:Int):iMin a b = min a b:=by unfold iMin;omega
theorem iMax_eq (a b:Int):iMax a b = max a b:=by unfold iMax;omega
end Go.Dn

namespace Go.Dn
open Go
theorem Above.tick {f:Form} {i:Int} {r:Int × Bool} (h:Above f i r) (hr:r.2 = true):i < r.1∧ZB r.1∧ZJ f r.1 ≠ []∧∀ k,i < k→k < r.1→ZB k→ZJ f k = []:=by
 rcases h with ⟨_,h1,h2,h3,h4⟩ | ⟨h,_⟩
 ·exact ⟨h1,h2,h3,h4⟩
 ·rw [hr] at h;cases h
theorem Under.tick {f:Form} {i:Int} {r:Int × Bool} (h:Under f i r) (hr:r.2 = true):r.1 < i∧ZB r.1∧ZJ f r.1 ≠ []∧∀ k,k < i→r.1 < k→ZB k→ZJ f k = []:=by
 rcases h with ⟨_,h1,h2,h3,h4⟩ | ⟨h,_⟩
 ·exact ⟨h1,h2,h3,h4⟩
 ·rw [hr] at h;cases h
end Go.Dn

namespace Go.Dn
open Go
theorem eqf_loop {α β:Type} {a:List α} {b:List β} {step:Int→Option (Int ⊕ Jx Unit Bool)} {eq:α→β→Option Bool} (P:α→β→Prop)
  (hl:(a.length:Int) < 9223372036854775807) (hab:a.length = b.length)
  (heq:∀ (k:Nat) x y,a[k]? = some x→b[k]? = some y→∃ r,eq x y = some r∧(r = true ↔ P x y))
  (hstep:∀ s,step s = bif decide (s < (a.length:Int)) then (at? a s).bind fun x1 => (at? b s).bind fun x2 => (eq x1 x2).bind fun x3 => bif (!x3) then some (.inr (.ret false)) else some (.inl (w64 (s + 1))) else some (.inr (.go ()))) :
  (loopO step 0 = some (.go ())∧∀ (k:Nat) x y,a[k]? = some x→b[k]? = some y→P x y)∨(loopO step 0 = some (.ret false)∧¬ ∀ (k:Nat) x y,a[k]? = some x→b[k]? = some y→P x y):=by
 rcases Z3Z (l:=a) (step:=step) (fun k x => ∀ y,b[k]? = some y→P x y) (no:=.ret false) (yes:=.go ()) (fun k x hk hp => by
  have hlt:=(List.getElem?_eq_some_iff.1 hk).1
  have hat:at? a (k:Int) = some x:=by rw [at?_nat hlt];rw [Y2 hlt] at hk;exact hk
  have hbt:at? b (k:Int) = some (b[k]'(by omega)):=at?_nat (by omega)
  have hbk:b[k]? = some (b[k]'(by omega)):=Y2 (by omega)
  obtain ⟨r,h1,h2⟩:=heq k x _ hk hbk
  rw [hstep,ZU (show (k:Int) < a.length by omega),cond_true,hat,hbt,ZF (show _ by omega)]
  simp only [Y0,h1];cases r with
  | true => exact .inl ⟨rfl,fun y hy => by rw [hbk] at hy;cases hy;exact h2.1 rfl⟩
  | false => exact .inr ⟨rfl,fun h => by have:=h2.2 (h _ hbk);cases this⟩) (by
  rw [hstep,ZZ (by omega)];rfl) with ⟨h1,h2⟩ | ⟨h1,h2⟩
 ·exact .inl ⟨h1,fun k x y hx hy => h2 k x hx y hy⟩
 ·exact .inr ⟨h1,fun h => h2 fun k x hx y hy => h k x y hx hy⟩
theorem ZBR {a b:List Span} {d:Int} (hl:a.length = b.length):(∀ (k:Nat) x y,a[k]? = some x→b[k]? = some y→y.From - x.From = d∧y.To - x.To = d) ↔ b = a.map (ZS d):=by
 constructor
 ·intro h;apply Y0l;intro k
  by_cases hk:k < a.length
  ·have h1:a[k]? = some a[k]:=Y2 hk
   have h2:b[k]? = some (b[k]'(by omega)):=Y2 (by omega)
   rw [h2,YP,h1];obtain ⟨q1,q2⟩:=h k _ _ h1 h2
   simp only [Y8,ZS,Y5];generalize b[k]'(by omega) = y at q1 q2 ⊢
   obtain ⟨y1,y2⟩:=y
   simp only at q1 q2;simp only [Span.mk.injEq];omega
  ·rw [Yc (by omega),Yc (by simp;omega)]
 ·rintro rfl k x y hx hy;rw [YP,hx] at hy;simp only [Y8,Y5] at hy;subst hy;simp only [ZS];omega
theorem ZAv {a b:List Span} {d:Int} (ha:RightL a) (hb:RightL b) (hl:Len a):∃ r,Z28 a b d = some r∧(r = true ↔ b = a.map (ZS d)):=by
 have hl':(a.length:Int) < 9223372036854775807:=by have:=Z1T;unfold Len at hl;omega
 unfold Z28 Z8
 by_cases hlen:a.length = b.length
 ·rw [bne_f (by omega),cond_false]
  have tk:∀ {l:List Span},RightL l→∀ (k:Nat) s,l[k]? = some s→ZB s.From∧ZB s.To:=fun {l} h k s hs => by
   have:=Z7N.1 h k s hs
   unfold Z54 at this;exact ⟨this.1,this.2.1⟩
  rcases eqf_loop (a:=a) (b:=b) (step:=Z8.s0 a b (fun z0 z1 => some (Z1L z0 z1 d))) (eq:=fun z0 z1 => some (Z1L z0 z1 d)) (fun x y => y.From - x.From = d∧y.To - x.To = d) hl' hlen (fun k x y hx hy => by
   refine ⟨_,rfl,?_⟩;obtain ⟨x1,x2⟩:=tk ha k x hx
   obtain ⟨y1,y2⟩:=tk hb k y hy
   unfold ZB at x1 x2 y1 y2;unfold Z1L;rw [ZF (by omega),ZF (by omega)]
   simp) (fun s => rfl) with ⟨h1,h2⟩ | ⟨h1,h2⟩
  ·rw [h1];exact ⟨true,rfl,⟨fun _ => (ZBR hlen).1 h2,fun _ => rfl⟩⟩
  ·rw [h1];refine ⟨false,rfl,by simp only [YA,false_iff];exact fun h => h2 ((ZBR hlen).2 h)⟩
 ·rw [bne_t (by omega),cond_true]
  refine ⟨false,rfl,by simp only [YA,false_iff];rintro rfl;exact hlen (by simp)⟩
end Go.Dn

namespace Go.Dn
open Go
noncomputable def cs (f:Form) (i:Int):List Span:=(Z04 f i).map (ZS (Z4N f i))
theorem Z1a (l:List Span) (a b:Int):(l.map (ZS a)).map (ZS b) = l.map (ZS (a + b)):=by
 rw [List.map_map]
 congr 1
 funext s
 simp only [Function.comp,ZS,Span.mk.injEq]
 omega
theorem shift_inj {a b:List Span} {d:Int} (h:a.map (ZS d) = b.map (ZS d)):a = b:=by
 have:=congrArg (List.map (ZS (-d))) h
 rw [Z1a,Z1a,Int.add_right_neg,Z98,Z98] at this
 exact this
theorem Z8V {f:Form} (h0:f.Count ≠ 0) (i:Int):cs f (i + f.Count) = (cs f i).map (ZS f.Period):=by
 unfold cs Z04 Z4N
 rw [Z1a,Int.add_emod_right,Int.add_ediv_of_dvd_right (Int.dvd_refl _),Int.ediv_self h0,Y0W,Y0y]
theorem Z4P {f:Form} (h0:f.Count ≠ 0) (i k:Int):cs f (i + f.Count * k) = (cs f i).map (ZS (k * f.Period)):=by
 unfold cs Z04 Z4N
 rw [Z1a,Int.add_mul_emod_self_left,Int.add_mul_ediv_left _ _ h0,Y0W]
theorem Z5W {f:Form} {i:Int} (h0:0≤i) (h1:i < f.Count):cs f i = f.Core.getD i.toNat []:=by
 unfold cs Z04 Z4N
 rw [Int.emod_eq_of_lt h0 h1,Int.ediv_eq_zero_of_lt h0 h1,Int.zero_mul,Z98]
def TurnZ (f:Form) (d q:Int):Prop:=∀ i,cs f (i + d) = (cs f i).map (ZS q)
theorem turn_of {f:Form} (h0:0 < f.Count) {d q:Int} (h:∀ i,0≤i→i < f.Count→cs f (i + d) = (cs f i).map (ZS q)):TurnZ f d q:=by
 intro i
 have e:i = i % f.Count + f.Count * (i / f.Count):=(Yd i f.Count).symm
 have h1:=h (i % f.Count) (Yf i (by omega)) (Yh i h0)
 have e2:i + d = (i % f.Count + d) + f.Count * (i / f.Count):=by omega
 rw [e2,Z4P (by omega),h1]
 conv => rhs;rw [e,Z4P (by omega)]
 rw [Z1a,Z1a,Int.add_comm]
def Z6s (f:Form) (d k:Int):Int:=if k + d ≥ f.Count then k + d - f.Count else k + d
def Z87 (f:Form) (d k:Int):Int:=if k + d ≥ f.Count then f.Period else 0
theorem wrap_cs {f:Form} {d k:Int} (hd:1≤d) (hdn:d≤f.Count) (h0:0≤k) (h1:k < f.Count):0≤Z6s f d k∧Z6s f d k < f.Count∧cs f (k + d) = (cs f (Z6s f d k)).map (ZS (Z87 f d k)):=by
 unfold Z6s Z87
 by_cases h:k + d ≥ f.Count
 ·rw [if_pos h,if_pos h];refine ⟨by omega,by omega,?_⟩
  rw [← Z8V (by omega)]
  congr 1;omega
 ·rw [if_neg h,if_neg h,Z98];exact ⟨by omega,by omega,rfl⟩
theorem canon_turn_eq {f:Form} (hl:Lim f) (hs:Shape f) {d q:Int} (hd:1≤d) (hdn:d≤f.Count) (hq:0≤q∧q≤1099511627776):∃ r,Z0j f d q = some r∧(r = true ↔ TurnZ f d q):=by
 have hcl:(f.Core.length:Int) < 4611686018427387904:=Z32 (b:=23) hl.core
 have hcnt:=hs.count
 have key:∀ k:Int,0≤k→k < f.Count→(cs f (Z6s f d k) = (cs f k).map (ZS (q - Z87 f d k)) ↔ cs f (k + d) = (cs f k).map (ZS q)):=fun k k0 k1 => by
  obtain ⟨_,_,h⟩:=wrap_cs hd hdn k0 k1
  rw [h]
  constructor
  ·intro e;rw [e,Z1a]
   congr 2;omega
  ·intro e;apply shift_inj (d:=Z87 f d k)
   rw [e,Z1a]
   congr 2;omega
 unfold Z0j
 rcases Z3Z (l:=f.Core) (step:=Z0j.s0 f d q) (fun k x => cs f (Z6s f d k) = x.map (ZS (q - Z87 f d k))) (no:=.ret false) (yes:=.go ()) (fun k x hk hp => by
  have hlt:=(List.getElem?_eq_some_iff.1 hk).1
  have hat:at? f.Core (k:Int) = some x:=by rw [at?_nat hlt];rw [Y2 hlt] at hk;exact hk
  obtain ⟨w0,w1,_⟩:=wrap_cs (f:=f) (k:=(k:Int)) hd hdn (by omega) (by omega)
  have hx:=hs.core x (Y6 hk)
  have hlx:=(hl.sets x (Y6 hk)).1
  have hwl:(Z6s f d k).toNat < f.Core.length:=by omega
  have hgw:cs f (Z6s f d k) = f.Core[(Z6s f d k).toNat]:=by rw [Z5W w0 w1,YD,Y2 hwl];rfl
  have hy:=hs.core _ (YU hwl)
  have hat2:at? f.Core (Z6s f d k) = some f.Core[(Z6s f d k).toNat]:=at?_lt w0 (by omega)
  have hpk:(bif decide (w64 ((k:Int) + d) ≥ f.Count) then some (w64 (w64 ((k:Int) + d) - f.Count),f.Period) else some (w64 ((k:Int) + d),0)) = some (Z6s f d k,Z87 f d k):=by
   rw [ZF (show _ by omega)]
   unfold Z6s Z87
   by_cases h:(k:Int) + d ≥ f.Count
   ·rw [ZU h,cond_true,if_pos h,if_pos h,ZF (show _ by omega)]
   ·rw [ZZ h,cond_false,if_neg h,if_neg h]
  obtain ⟨r,h1,h2⟩:=ZAv (d:=q - Z87 f d k) hx hy hlx
  have hwp:0≤Z87 f d k∧Z87 f d k≤1099511627776:=by have:=hs.per;unfold Z87;split <;> omega
  unfold Z0j.s0;rw [ZU (show (k:Int) < f.Core.length by omega),cond_true,hat]
  simp only [Y0,hpk,hat2];rw [ZF (show _ by omega),h1]
  simp only [Y0];rw [hgw];cases r with
  | true => exact .inl ⟨by simp only [Ya,cond_false,Y0,Jx.elim];rw [ZF (show _ by omega)],h2.1 rfl⟩
  | false => exact .inr ⟨rfl,fun h => by have:=h2.2 h;cases this⟩) (by
  unfold Z0j.s0;rw [ZZ (by omega)];rfl) with ⟨h1,h2⟩ | ⟨h1,h2⟩
 ·rw [h1];refine ⟨true,rfl,⟨fun _ => turn_of (by omega) fun i i0 i1 => ?_,fun _ => rfl⟩⟩
  have hlt:i.toNat < f.Core.length:=by omega
  have:=h2 i.toNat _ (Y2 hlt)
  rw [Yx i0] at this;refine (key i i0 i1).1 ?_;rw [this,Z5W i0 i1,YD,Y2 hlt];rfl
 ·rw [h1];refine ⟨false,rfl,⟨(fun h => nomatch h),fun ht => absurd (fun k x hk => ?_) h2⟩⟩
  have hlt:=(List.getElem?_eq_some_iff.1 hk).1
  have:=(key k (by omega) (by omega)).2 (ht k)
  rw [this,Z5W (by omega) (by omega),YD,Y0U,hk];rfl
end Go.Dn

namespace Go.Dn
open Go
structure Good (f:Form) (d:Int):Prop where
 pos:1≤d
 dvd:d ∣ f.Count
 rest:f.Period % (f.Count / d) = 0
 turn:TurnZ f d (f.Period / (f.Count / d))
theorem good_self {f:Form} (h0:0 < f.Count):Good f f.Count:=by
 have e:f.Count / f.Count = 1:=Int.ediv_self (by omega)
 exact ⟨by omega,Int.dvd_refl _,by rw [e];omega,by rw [e,Int.ediv_one];exact Z8V (by omega)⟩
theorem copy_loop {x4:List (List Span)} (hc:x4.length * 24≤reachBytes) (hs:∀ l ∈ x4,Len l):loopO (Zm.s1 x4) (0,[]) = some x4:=by
 have hcl:(x4.length:Int) < 4611686018427387904:=Z32 (b:=23) hc
 have hr:=Z1T
 have hro:=Z3g
 refine Z1G (I:=fun s r => r = x4∧∃ k:Nat,k≤x4.length∧s = ((k:Int),x4.take k)) (fun s => x4.length - s.1.toNat) ?_ ⟨rfl,0,YV _,rfl⟩
 rintro s r ⟨rfl,k,hk,rfl⟩
 unfold Zm.s1
 by_cases hlt:k < r.length
 ·left
  have hl:=hs _ (YU hlt)
  unfold Len at hl;have hcp:clone? 16 r[k] = some r[k]:=by unfold clone?;rw [if_pos (by omega)]
  have hap:app? 24 (r.take k) [r[k]] = some (r.take (k + 1)):=by
   rw [app?_ok (by simp only [YY,Yu,Yk];have:min k r.length + 1≤r.length:=(by omega);have:=YK 24 this;omega)]
   rw [Y0Z hlt]
  refine ⟨((k:Int) + 1,r.take (k + 1)),?_,⟨rfl,k + 1,hlt,by push_cast;rfl⟩,by simp;omega⟩
  rw [ZU (show (k:Int) < r.length by omega),cond_true,at?_nat hlt]
  simp only [Y0,hcp,hap];rw [ZF (show _ by omega)]
 ·right
  have:k = r.length:=by omega
  subst this;rw [ZZ (show ¬ ((r.length:Int) < r.length) by omega),cond_false,Y0J]
theorem core_b0_eq {f:Form} (hl:Lim f) (hs:Shape f) {d:Int} (hd:1≤d) (hdn:d ∣ f.Count) (h0:0 < f.Count) :
  (Good f d∧Zm.b0 f ([],0,0) d = some ((f.Core.take d.toNat,f.Period / (f.Count / d),d),1))∨(¬ Good f d∧Zm.b0 f ([],0,0) d = some (([],0,0),0)):=by
 have hle:d≤f.Count:=Y0t h0 hdn
 have hcl:(f.Core.length:Int) < 4611686018427387904:=Z32 (b:=23) hl.core
 have hcnt:=hs.count
 have hm:0 < f.Count / d:=Y0o h0 (by omega) hdn
 have hmle:f.Count / d≤f.Count:=Y0s _ (by omega)
 have htd:f.Count.tdiv d = f.Count / d:=Int.tdiv_eq_ediv_of_nonneg (by omega)
 have hq:0≤f.Period / (f.Count / d)∧f.Period / (f.Count / d)≤1099511627776:=by
  have h1:=hs.per
  have h2:f.Period / (f.Count / d)≤f.Period:=Y0s _ h1.1
  have h3:0≤f.Period / (f.Count / d):=Int.ediv_nonneg h1.1 (by omega)
  omega
 have hfl:Z0A f.Period (w64 (f.Count.tdiv d)) = some (f.Period / (f.Count / d),f.Period % (f.Count / d),0):=by
  rw [htd,ZF (show _ by omega),Z2r hl.period (by unfold In64;omega),Z4R hm]
 unfold Zm.b0
 rw [nz?_ok (by omega),hfl]
 simp only [Y0]
 by_cases hr:f.Period % (f.Count / d) = 0
 ·rw [bne_f hr,cond_false];obtain ⟨r,h1,h2⟩:=canon_turn_eq hl hs hd hle hq
  rw [h1];cases r with
  | true =>
   left
   refine ⟨⟨hd,hdn,hr,h2.1 rfl⟩,?_⟩;have hcut:cut? f.Core 0 d = some (f.Core.take d.toNat):=by
    unfold cut?;rw [if_pos ⟨by omega,by omega,by omega⟩]
    rfl
   simp only [Y0,Ya,cond_false,hcut];have:=copy_loop (x4:=f.Core.take d.toNat) (by have:=hl.core;simp only [YY];have h:=YK 24 (Nat.min_le_right d.toNat f.Core.length);omega) (fun l hl' => (hl.sets l (Yq hl')).1)
   rw [this]
   rfl
  | false =>
   right
   exact ⟨fun g => (by have:=h2.2 g.turn;cases this),rfl⟩
 ·right
  refine ⟨fun g => hr g.rest,?_⟩
  rw [bne_t hr]
  rfl
theorem least_good {f:Form} (h0:0 < f.Count):∃ d,Good f d∧∀ d',Good f d'→d≤d':=by
 have:∃ n:Nat,Good f n:=⟨f.Count.toNat,by rw [Yx (by omega)];exact good_self h0⟩
 obtain ⟨n,hn⟩:=this
 induction n using Nat.strongRecOn with
 | _ n ih =>
  by_cases h:∃ m:Nat,m < n∧Good f m
  ·obtain ⟨m,h1,h2⟩:=h
   exact ih m h1 h2
  ·refine ⟨n,hn,fun d' hd' => ?_⟩
   apply Classical.byContradiction;intro hlt;have:=hd'.pos
   exact h ⟨d'.toNat,by omega,by rw [Yx (by omega)];exact hd'⟩
theorem canon_bare_eq {f:Form} (hl:Lim f):Z3o f = Z3P f:=by
 unfold Z3o Z3P
 rfl
theorem canon_core_eq {f:Form} (hl:Lim f) (hs:Shape f):(Bare f∧Zm f = some (Form.mk 0 0 [] [])) ∨
  (¬ Bare f∧0 < f.Count∧∃ d,Good f d∧(∀ d',Good f d'→d≤d')∧Zm f = some (Form.mk (f.Period / (f.Count / d)) d (f.Core.take d.toNat) [])):=by
 have hcl:(f.Core.length:Int) < 4611686018427387904:=Z32 (b:=23) hl.core
 have hcnt:=hs.count
 obtain ⟨b,h1,h2⟩:=Z7D hl
 unfold Zm
 rw [canon_bare_eq hl,h1]
 cases b with
 | true => exact .inl ⟨h2.1 rfl,rfl⟩
 | false =>
  right
  have hnb:¬ Bare f:=fun h => by have:=h2.2 h;cases this
  have h0:0 < f.Count:=by
   rcases Y0O f.Core.length with h | h
   ·exact absurd (fun l hl' => by rw [List.length_eq_zero_iff.1 h] at hl';cases hl') hnb
   ·omega
  obtain ⟨d,hg,hmin⟩:=least_good h0
  refine ⟨hnb,h0,d,hg,hmin,?_⟩;have hdn:d≤f.Count:=Y0t h0 hg.dvd
  have hd1:=hg.pos
  have hloop:loopO (Zr.s0 f.Count (Z1O (Zm.b0 f))) (1,(([],0,0),0)) = some (.ret ((f.Core.take d.toNat,f.Period / (f.Count / d),d),1)):=by
   refine Z1G (I:=fun s r => r = .ret ((f.Core.take d.toNat,f.Period / (f.Count / d),d),1)∧∃ k:Int,1≤k∧k≤d∧s = (k,(([],0,0),0))) (fun s => (d - s.1).toNat) ?_ ⟨rfl,1,by omega,hd1,rfl⟩
   rintro s r ⟨rfl,k,k1,k2,rfl⟩;unfold Zr.s0;rw [ZU (show k≤f.Count by omega),cond_true,nz?_ok (by omega)]
   simp only [Y0]
   by_cases hkd:k ∣ f.Count
   ·rw [Z8y (show f.Count.tmod k = 0 from Int.tmod_eq_zero_of_dvd hkd),cond_true]
    rcases core_b0_eq hl hs k1 hkd h0 with ⟨g,e⟩ | ⟨g,e⟩
    ·have:k = d:=by have:=hmin k g;omega
     subst this
     right
     simp only [Z1O,if_true,e,Y8,Y0]
     rfl
    ·left
     have hne:k ≠ d:=fun h => g (h ▸ hg)
     refine ⟨(k + 1,(([],0,0),0)),?_,⟨trivial,k + 1,by omega,by omega,rfl⟩,by simp;omega⟩
     simp only [Z1O,if_true,e,Y8,Y0];rw [ZF (show _ by omega)]
     rfl
   ·left
    have hne:k ≠ d:=fun h => hkd (h ▸ hg.dvd)
    refine ⟨(k + 1,(([],0,0),0)),?_,⟨trivial,k + 1,by omega,by omega,rfl⟩,by simp;omega⟩
    rw [Z4H (fun h => hkd (Int.dvd_of_tmod_eq_zero h)),cond_false]
    simp only [Y0,cond_false];rw [ZF (show _ by omega)]
  unfold Zr;rw [hloop]
  rfl
end Go.Dn

namespace Go.Dn
open Go
def Turn (h:Int→List Span) (d q:Int):Prop:=∀ i,h (i + d) = (h i).map (ZS q)
theorem Turn.neg {h:Int→List Span} {d q:Int} (t:Turn h d q):Turn h (-d) (-q):=fun i => by
 have:=t (i + -d)
 rw [show i + -d + d = i by omega] at this
 rw [this,Z1a,Int.add_right_neg,Z98]
theorem Turn.add {h:Int→List Span} {d q d' q':Int} (t:Turn h d q) (t':Turn h d' q'):Turn h (d + d') (q + q'):=fun i => by
 rw [show i + (d + d') = (i + d) + d' by omega,t',t,Z1a]
theorem Turn.zero (h:Int→List Span):Turn h 0 0:=fun i => by rw [Int.add_zero,Z98]
theorem Turn.nat {h:Int→List Span} {d q:Int} (t:Turn h d q):∀ k:Nat,Turn h (k * d) (k * q)
 | 0 => by simpa using Turn.zero h
 | k + 1 => by
  have:=(Turn.nat t k).add t
  push_cast
  rw [Y0W,Y0y,Y0W,Y0y];exact this
theorem Turn.mul {h:Int→List Span} {d q:Int} (t:Turn h d q) (k:Int):Turn h (k * d) (k * q):=by
 rcases Int.natAbs_eq k with e | e
 ·rw [e];exact t.nat _
 ·rw [e,Int.neg_mul,Int.neg_mul];exact (t.nat _).neg
theorem Turn.agree {h h':Int→List Span} {d q a:Int} (t:Turn h d q) (t':Turn h' d q) (hd:0 < d) (he:∀ i,a≤i→i < a + d→h i = h' i):h = h':=by
 funext i
 have e:i = ((i - a) % d + a) + (i - a) / d * d:=by
  have:=Yd (i - a) d
  rw [Y04] at this;omega
 have h1:=Yf (i - a) (show d ≠ 0 by omega)
 have h2:=Yh (i - a) hd
 rw [e,t.mul,t'.mul,he _ (by omega) (by omega)]
noncomputable def csz (f:Form) (i:Int):List Span:=if f.Count = 0 then [] else cs f i
theorem Z15 {f:Form} (h0:0 < f.Count):csz f = cs f:=by funext i;exact if_neg (by omega)
theorem Z2q {f:Form} {i:Int} (h:¬ Z2S f i):ZJ f i = csz f i:=by
 unfold csz
 by_cases h0:f.Count = 0
 ·rw [if_pos h0,Z3C h h0]
 ·rw [if_neg h0,Z39 h h0];rfl
theorem csz_bare {f:Form} (hs:Shape f) (hb:Bare f) (i:Int):csz f i = []:=by
 unfold csz
 by_cases h0:f.Count = 0
 ·rw [if_pos h0]
 ·rw [if_neg h0];unfold cs;rw [hb _ (Z01 hs h0 i).2];rfl
def Z1o (f c:Form):Prop:=(Bare f∧c = Form.mk 0 0 [] [])∨(¬ Bare f∧0 < f.Count∧∃ d,Good f d∧(∀ d',Good f d'→d≤d')∧c = Form.mk (f.Period / (f.Count / d)) d (f.Core.take d.toNat) [])
theorem canon_core_ok {f:Form} (hl:Lim f) (hs:Shape f):∃ c,Zm f = some c∧Z1o f c:=by
 rcases canon_core_eq hl hs with ⟨h1,h2⟩ | ⟨h1,h2,d,h3,h4,h5⟩
 ·exact ⟨_,h2,.inl ⟨h1,rfl⟩⟩
 ·exact ⟨_,h5,.inr ⟨h1,h2,d,h3,h4,rfl⟩⟩
theorem Z1o.odd {f c:Form} (h:Z1o f c):c.Odd = []:=by
 rcases h with ⟨_,rfl⟩ | ⟨_,_,d,_,_,rfl⟩ <;> rfl
theorem Z1o.csz {f c:Form} (hs:Shape f) (h:Z1o f c):csz c = csz f:=by
 rcases h with ⟨hb,rfl⟩ | ⟨hb,h0,d,hg,_,rfl⟩
 ·funext i;rw [csz_bare hs hb];rfl
 ·have hd:=hg.pos
  have hdn:d≤f.Count:=Y0t h0 hg.dvd
  have hcnt:=hs.count
  rw [Z15 h0,Z15 (show 0 < (Form.mk (f.Period / (f.Count / d)) d (f.Core.take d.toNat) []).Count by show 0 < d;omega)]
  refine Turn.agree (a:=0) (d:=d) (q:=f.Period / (f.Count / d)) (Z8V (f:=Form.mk (f.Period / (f.Count / d)) d (f.Core.take d.toNat) []) (show d ≠ 0 by omega)) hg.turn (by omega) (fun i i0 i1 => ?_)
  rw [Z5W i0 (show i < d by omega),Z5W i0 (by omega)]
  show (f.Core.take d.toNat).getD i.toNat [] = _
  rw [YD,YD,List.getElem?_take_of_lt (by omega)]
theorem Z1o.shape {f c:Form} (hs:Shape f) (h:Z1o f c):Shape c:=by
 rcases h with ⟨hb,rfl⟩ | ⟨hb,h0,d,hg,_,rfl⟩
 ·exact ⟨rfl,by simp,by simp,by simp,by simp,fun j k a b _ h => by simp at h⟩
 ·have hd:=hg.pos
  have hdn:d≤f.Count:=Y0t h0 hg.dvd
  have hcnt:=hs.count
  have hm:0 < f.Count / d:=Y0o h0 (by omega) hg.dvd
  have hp:0 < f.Period:=by
   have:=hs.per;have:=hs.zero
   rcases Y0g 0 f.Period with h | h
   ·exact h
   ·have:f.Period = 0:=by omega
    have:=hs.zero.2 this
    omega
  have hq:0 < f.Period / (f.Count / d):=Y0o hp (by omega) (Int.dvd_of_emod_eq_zero hg.rest)
  have hq2:f.Period / (f.Count / d)≤f.Period:=Y0s _ (by omega)
  refine ⟨?_,?_,?_,?_,by simp,fun j k a b _ h => by simp at h⟩
  ·simp only [YY];omega
  ·simp only;omega
  ·simp only;have:=hs.per;omega
  ·intro l hl';exact hs.core l (Yq hl')
theorem Z1o.lim {f c:Form} (hl:Lim f) (hs:Shape f) (h:Z1o f c):Lim c:=by
 have hsc:=h.shape hs
 have hn:c.Core.length≤f.Core.length∧∀ l ∈ c.Core,l ∈ f.Core:=by
  rcases h with ⟨hb,rfl⟩ | ⟨hb,h0,d,hg,_,rfl⟩
  ·exact ⟨YV _,fun l hl' => by cases hl'⟩
  ·exact ⟨by simp only [YY];omega,fun l hl' => Yq hl'⟩
 have hc:=hl.core
 have h24:=YK 24 hn.1
 have hp:=hsc.per
 have hcnt:=hsc.count
 have hcl:(f.Core.length:Int) < 4611686018427387904:=Z32 (b:=23) hl.core
 exact ⟨by omega,fun l hl' => hl.sets l (hn.2 l hl'),by rw [h.odd];simp [Z1T],by rw [h.odd];simp,by unfold In64;omega,by unfold In64;omega⟩
theorem Z1o.ZJ {f c:Form} (hs:Shape f) (h:Z1o f c) (i:Int):ZJ c i = Go.Dn.csz f i:=by
 rw [Z2q (by rintro ⟨g,hg,_⟩;rw [h.odd] at hg;cases hg),h.csz hs]
theorem ZCP {f c:Form} (hl:Lim f) (hs:Shape f) (h:Z1o f c) {g:Granule} (hg:g ∈ f.Odd):∃ r,Z37 c g = some r∧(r = true ↔ csz f g.Index = g.Ticks):=by
 obtain ⟨hr,ht⟩:=hs.odd g hg
 have hlc:=h.lim hl hs
 have hsc:=h.shape hs
 unfold Z37
 rw [Z52 hlc hsc (Z25 ht)]
 by_cases hf:fits c g.Index
 ·rw [if_pos ⟨ht,hf⟩];obtain ⟨r,h1,h2⟩:=Z8t (a:=Go.Dn.ZJ c g.Index) (b:=g.Ticks) (Z6u hlc hsc _)
  refine ⟨r,?_,?_⟩
  ·simp only [Y0];rw [Z8y rfl,cond_true,h1];rfl
  ·rw [h2,h.ZJ hs]
 ·rw [if_neg (fun h' => hf h'.2)]
  refine ⟨false,rfl,⟨(fun h' => nomatch h'),fun e => absurd (fun s hs' => ?_) hf⟩⟩
  rw [h.ZJ hs,e] at hs';obtain ⟨k,hk⟩:=YC hs'
  have:=Z7N.1 hr k s hk
  exact ⟨this.1,this.2.1⟩
open Classical in
noncomputable def oddly (f:Form) (g:Granule):Bool:=decide (¬ csz f g.Index = g.Ticks)
noncomputable def Z22 (f c:Form):Form:=Form.mk c.Period c.Count c.Core (f.Odd.filter (oddly f))
theorem Z2p {f:Form} (hl:Lim f) (hs:Shape f):∃ c,Z1o f c∧ZW f = some (Z22 f c):=by
 obtain ⟨c,h1,hc⟩:=canon_core_ok hl hs
 refine ⟨c,hc,?_⟩
 unfold ZW
 rw [h1]
 simp only [Y0]
 have hol:(f.Odd.length:Int) < 4611686018427387904:=Z32 (b:=31) hl.odd
 have hr:=Z1T
 have hro:=Z3g
 have:loopO (ZW.s0 f c) (0,[]) = some (f.Odd.filter (oddly f)):=by
  refine Z1G (I:=fun s r => r = f.Odd.filter (oddly f)∧∃ k:Nat,k≤f.Odd.length∧s = ((k:Int),(f.Odd.take k).filter (oddly f))) (fun s => f.Odd.length - s.1.toNat) ?_ ⟨rfl,0,YV _,rfl⟩
  rintro s r ⟨rfl,k,hk,rfl⟩;unfold ZW.s0
  by_cases hlt:k < f.Odd.length
  ·left
   have hmem:=YU hlt
   obtain ⟨r,p1,p2⟩:=ZCP hl hs hc hmem
   have htk:f.Odd.take (k + 1) = f.Odd.take k ++ [f.Odd[k]]:=(Y0Z hlt).symm
   have hlen:=(hl.ticks _ hmem).2.1
   unfold Len at hlen;refine ⟨((k:Int) + 1,(f.Odd.take (k + 1)).filter (oddly f)),?_,⟨rfl,k + 1,hlt,by push_cast;rfl⟩,by simp;omega⟩
   rw [ZU (show (k:Int) < f.Odd.length by omega),cond_true,at?_nat hlt]
   simp only [Y0,p1];rw [ZF (show _ by omega),htk,List.filter_append]
   cases r with
   | true =>
    have:oddly f f.Odd[k] = false:=by unfold oddly;rw [decide_eq_false_iff_not];exact fun h => h (p2.1 rfl)
    simp only [Ya,cond_false,Y0,List.filter_cons,this,YA,if_false,List.filter_nil,YR]
   | false =>
    have:oddly f f.Odd[k] = true:=by unfold oddly;rw [decide_eq_true_iff];exact fun h => by have:=p2.2 h;cases this
    have hcp:clone? 16 f.Odd[k].Ticks = some f.Odd[k].Ticks:=by unfold clone?;rw [if_pos (by omega)]
    have hfl:((f.Odd.take k).filter (oddly f)).length≤k:=by
     have:=Y0F (oddly f) (f.Odd.take k)
     simp only [YY] at this;omega
    have hap:app? 32 ((f.Odd.take k).filter (oddly f)) [Granule.mk f.Odd[k].Index f.Odd[k].Ticks] = some ((f.Odd.take k).filter (oddly f) ++ [f.Odd[k]]):=by
     rw [app?_ok (by simp only [Yu,Yk];have h3:=hl.odd;have:=YK 32 (show ((f.Odd.take k).filter (oddly f)).length + 1≤f.Odd.length by omega);omega)]
    simp only [Y0c,cond_true,Y0,hcp,hap,List.filter_cons,this,if_true,List.filter_nil]
  ·right
   have:k = f.Odd.length:=by omega
   subst this;rw [ZZ (show ¬ ((f.Odd.length:Int) < f.Odd.length) by omega),cond_false,Y0J]
 rw [this]
 rfl
end Go.Dn

namespace Go.Dn
open Go
theorem form_ext {a b:Form}:a = b ↔ a.Period = b.Period∧a.Count = b.Count∧a.Core = b.Core∧a.Odd = b.Odd:=by
 obtain ⟨a1,a2,a3,a4⟩:=a
 obtain ⟨b1,b2,b3,b4⟩:=b
 simp
end Go.Dn

namespace Go.Dn
open Go
theorem Z5J {l:List Granule}:Inc l ↔ l.Pairwise (fun a b => a.Index < b.Index):=by
 rw [Yr]
 constructor
 ·intro h i j hi hj hij;exact h i j _ _ hij (Y2 hi) (Y2 hj)
 ·intro h j k a b hjk ha hb;obtain ⟨h1,rfl⟩:=List.getElem?_eq_some_iff.1 ha
  obtain ⟨h2,rfl⟩:=List.getElem?_eq_some_iff.1 hb
  exact h j k h1 h2 hjk
theorem Inc.filter {l:List Granule} (h:Inc l) (p:Granule→Bool):Inc (l.filter p):=Z5J.2 ((Z5J.1 h).filter p)
theorem Z60 {f c:Form} (hs:Shape f) (h:Z1o f c):csz (Z22 f c) = csz f:=by
 rw [← h.csz hs];rfl
theorem ZAj {f:Form} {g:Granule}:oddly f g = true ↔ ¬ csz f g.Index = g.Ticks:=by unfold oddly;rw [decide_eq_true_iff]
theorem Z33 {f c:Form} {g:Granule}:g ∈ (Z22 f c).Odd ↔ g ∈ f.Odd∧oddly f g = true:=List.mem_filter
theorem ZA2 {f c:Form} (hs:Shape f) (h:Z1o f c):ZJ (Z22 f c) = ZJ f:=by
 funext i
 by_cases ho:Z2S f i
 ·obtain ⟨g,hg,rfl⟩:=ho
  rw [Z0r hs.inc hg]
  by_cases hod:oddly f g = true
  ·exact Z0r (hs.inc.filter _) (Z33.2 ⟨hg,hod⟩)
  ·have he:csz f g.Index = g.Ticks:=Classical.byContradiction fun hn => hod (ZAj.2 hn)
   rw [Z2q (f:=Z22 f c),Z60 hs h,he]
   rintro ⟨g',hg',e⟩;obtain ⟨m1,m2⟩:=Z33.1 hg'
   have:=hs.inc.uniq m1 hg e
   subst this;exact hod m2
 ·rw [Z2q ho,Z2q (f:=Z22 f c),Z60 hs h]
  rintro ⟨g',hg',e⟩;exact ho ⟨g',(Z33.1 hg').1,e⟩
theorem Z7C {f c:Form} (hs:Shape f) (h:Z1o f c):Shape (Z22 f c):=by
 have:=h.shape hs
 exact ⟨this.count,this.zero,this.per,this.core,fun g hg => hs.odd g (Z33.1 hg).1,hs.inc.filter _⟩
theorem canonF_lim {f c:Form} (hl:Lim f) (hs:Shape f) (h:Z1o f c):Lim (Z22 f c):=by
 have:=h.lim hl hs
 refine ⟨this.core,this.sets,?_,fun g hg => hl.ticks g (Z33.1 hg).1,this.count,this.period⟩
 have h1:(Z22 f c).Odd.length≤f.Odd.length:=Y0F _ _
 have:=hl.odd
 have:=YK 32 h1
 omega
theorem turns_of {f:Form} (hs:Shape f) (h:0 < f.Count→∀ i k,i < k→cs f i ≠ []→cs f k ≠ []→lstT (cs f i) < fstT (cs f k)):Turns f:=by
 have hcnt:=hs.count
 have at_:∀ (j:Nat) (a:List Span),f.Core[j]? = some a→cs f j = a:=fun j a ha => by
  have:=(List.getElem?_eq_some_iff.1 ha).1
  rw [Z5W (by omega) (by omega),YD,Y0U,ha];rfl
 have hpw:f.Core.Pairwise (fun a b => a ≠ []→b ≠ []→lstT a < fstT b):=by
  rw [Yr];intro i j hi hj hij na nb;have h1:=at_ i _ (Y2 hi)
  have h2:=at_ j _ (Y2 hj)
  have:=h (by omega) i j (by omega) (by rw [h1];exact na) (by rw [h2];exact nb)
  rw [h1,h2] at this;exact this
 constructor
 ·intro k a b ha hb;have hp:=hpw.filter (fun l => decide (l.length > 0))
  rw [Yr] at hp;obtain ⟨h1,rfl⟩:=List.getElem?_eq_some_iff.1 ha
  obtain ⟨h2,rfl⟩:=List.getElem?_eq_some_iff.1 hb
  exact hp k (k + 1) h1 h2 (by omega) (Z3X.1 (YU h1)).2 (Z3X.1 (YU h2)).2
 ·intro a b ha hb;obtain ⟨ma,na⟩:=Z3X.1 (List.mem_of_getLast? ha)
  obtain ⟨mb,nb⟩:=Z3X.1 (List.mem_of_head? hb)
  obtain ⟨j,hj⟩:=YC ma
  obtain ⟨k,hk⟩:=YC mb
  have hjl:=(List.getElem?_eq_some_iff.1 hj).1
  have h1:=at_ j _ hj
  have h2:=at_ k _ hk
  have h3:cs f ((k:Int) + f.Count) = b.map (ZS f.Period):=by rw [Z8V (by omega),h2]
  have:=h (by omega) j ((k:Int) + f.Count) (by omega) (by rw [h1];exact na) (by rw [h3];simpa using nb)
  rw [h1,h3,(Z1h _ nb).2] at this;exact this
theorem Z6d {f:Form} (hs:Shape f) (ht:Turns f) {i k:Int} (hik:i < k) (ni:csz f i ≠ []) (nk:csz f k ≠ []):lstT (csz f i) < fstT (csz f k):=by
 have h0:f.Count ≠ 0:=fun h => ni (by unfold csz;rw [if_pos h])
 unfold csz at ni nk ⊢
 rw [if_neg h0] at ni nk ⊢
 rw [if_neg h0]
 have n1:Z04 f i ≠ []:=fun h => ni (by unfold cs;rw [h];rfl)
 have n2:Z04 f k ≠ []:=fun h => nk (by unfold cs;rw [h];rfl)
 have:=ZBt hs ht h0 hik n1 n2
 unfold cs
 rw [(Z1h _ n1).1,(Z1h _ n2).2]
 exact this
theorem beside_congr {f g:Form} (h:ZJ g = ZJ f) {i:Int} (hb:Beside f i):Beside g i:=by
 intro lo hi hlo hhi
 have hu:Under f i lo:=by unfold Under at hlo ⊢;rw [h] at hlo;exact hlo
 have ha:Above f i hi:=by unfold Above at hhi ⊢;rw [h] at hhi;exact hhi
 have:=hb lo hi hu ha
 unfold BesideR fits at this ⊢
 rw [h]
 exact this
theorem canonF_right {f c:Form} (hr:RightF f) (h:Z1o f c):RightF (Z22 f c):=by
 have hs:=hr.shape
 refine ⟨Z7C hs h,turns_of (Z7C hs h) (fun h0 i k hik ni nk => ?_),fun g hg => beside_congr (ZA2 hs h) (hr.beside g (Z33.1 hg).1)⟩
 rw [← Z15 h0,Z60 hs h] at ni nk ⊢
 exact Z6d hs hr.turns hik ni nk
theorem canonF_fix {f c:Form} (hs:Shape f) (h:Z1o f c):Z1o (Z22 f c) c∧Z22 (Z22 f c) c = Z22 f c:=by
 have hcz:=Z60 hs h
 have hodd:(Z22 f c).Odd.filter (oddly (Z22 f c)) = (Z22 f c).Odd:=by
  rw [List.filter_eq_self];intro g hg;have:=(Z33.1 hg).2
  rw [ZAj] at this ⊢;rw [hcz];exact this
 have hco:=h.odd
 refine ⟨?_,by unfold Z22 at hodd ⊢;rw [form_ext];exact ⟨rfl,rfl,rfl,hodd⟩⟩
 rcases h with ⟨hb,rfl⟩ | ⟨hb,h0,d,hg,hmin,rfl⟩
 ·exact .inl ⟨(fun l hl => by cases hl),rfl⟩
 ·right
  have hd:=hg.pos
  have hdn:d≤f.Count:=Y0t h0 hg.dvd
  have hcnt:=hs.count
  generalize hc':Z22 f (Form.mk (f.Period / (f.Count / d)) d (f.Core.take d.toNat) []) = c' at hcz;have e1:c'.Count = d:=by rw [← hc'];rfl
  have e2:c'.Period = f.Period / (f.Count / d):=by rw [← hc'];rfl
  have e3:c'.Core = f.Core.take d.toNat:=by rw [← hc'];rfl
  have hcs:cs c' = cs f:=by rw [← Z15 (show 0 < c'.Count by omega),← Z15 h0,hcz]
  have hlen:(f.Core.take d.toNat).length = d.toNat:=by rw [YY];omega
  have good_up:∀ d',Good c' d'→Good f d':=fun d' g => by
   have q1:=g.pos
   have q2:=g.dvd
   have q3:=g.rest
   have q4:=g.turn
   rw [e1] at q2 q3 q4;rw [e2] at q3 q4;have hdd:d' ∣ f.Count:=Int.dvd_trans q2 hg.dvd
   obtain ⟨a,ha⟩:=q2
   obtain ⟨b,hb'⟩:=hg.dvd
   have hbp:0 < b:=by
    rcases Y0g 0 b with h | h
    ·exact h
    ·have:d * b≤0:=Y0R (by omega) h
     omega
   have hap:0 < a:=by
    rcases Y0g 0 a with h | h
    ·exact h
    ·have:d' * a≤0:=Y0R (by omega) h
     omega
   have f1:f.Count / d = b:=by rw [hb',Int.mul_ediv_cancel_left _ (by omega)]
   have f2:d / d' = a:=by rw [ha,Int.mul_ediv_cancel_left _ (by omega)]
   have f3:f.Count / d' = a * b:=by rw [hb',ha,Y03,Int.mul_ediv_cancel_left _ (by omega)]
   have hrest:=hg.rest
   rw [f1] at hrest q3 q4;rw [f2] at q3 q4;have f4:f.Period = a * (f.Period / b / a) * b:=by
    have z1:=Int.ediv_mul_cancel (Int.dvd_of_emod_eq_zero hrest)
    have z2:=Int.ediv_mul_cancel (Int.dvd_of_emod_eq_zero q3)
    rw [Y04 a,z2,z1]
   have f5:f.Period = (f.Period / b / a) * (a * b):=by
    conv => lhs;rw [f4]
    rw [Y04 a,Y03]
   have hab:a * b ≠ 0:=by
    have:=Int.mul_pos hap hbp
    omega
   have f6:f.Period / (a * b) = f.Period / b / a:=by
    conv => lhs;rw [f5]
    exact Int.mul_ediv_cancel _ hab
   refine ⟨q1,hdd,?_,?_⟩
   ·rw [f3];exact Int.emod_eq_zero_of_dvd ⟨f.Period / b / a,by rw [Y04];exact f5⟩
   ·rw [f3,f6];intro i;have:=q4 i;rw [hcs] at this;exact this
  have hself:Good c' c'.Count:=good_self (by omega)
  refine ⟨fun hbare => hb ?_,by omega,d,by rw [← e1];exact hself,fun d' g => hmin d' (good_up d' g),?_⟩
  ·intro l hl;obtain ⟨k,hk⟩:=YC hl
   have hkl:=(List.getElem?_eq_some_iff.1 hk).1
   have hbz:∀ i,cs f i = []:=fun i => by
    rw [← hcs];have hcore:∀ i,Z04 c' i ∈ c'.Core:=fun i => by
     unfold Z04;have h1:=Yf i (show c'.Count ≠ 0 by omega)
     have h2:=Yh i (show 0 < c'.Count by omega)
     have:(i % c'.Count).toNat < c'.Core.length:=by rw [e3,hlen];omega
     rw [YD,Y2 this];exact YU _
    unfold cs;rw [hbare _ (hcore i)];rfl
   have:=hbz k
   rw [Z5W (by omega) (by omega),YD,Y0U,hk] at this
   exact this
  ·rw [form_ext];have hdd:d / d = 1:=Int.ediv_self (by omega)
   refine ⟨?_,rfl,?_,rfl⟩
   ·show _ = c'.Period / (c'.Count / d)
    rw [e1,e2,hdd,Int.ediv_one]
   ·show _ = c'.Core.take d.toNat
    rw [e3,List.take_take,Nat.min_self]
end Go.Dn

namespace Go.Dn
open Go
theorem Z8u {α:Type} (g:α→Nat) (p:α→Bool):∀ l:List α,((l.filter p).map g).sum≤(l.map g).sum
 | [] => YB _
 | x :: l => by
  have:=Z8u g p l
  rw [List.filter_cons]
  split <;> simp only [Y06,List.sum_cons] <;> omega
theorem ZBQ {α:Type} (g:α→Nat):∀ (n:Nat) (l:List α),((l.take n).map g).sum≤(l.map g).sum
 | 0,l => by simp
 | n + 1,[] => by simp
 | n + 1,x :: l => by
  have:=ZBQ g n l
  simp only [List.take_succ_cons,Y06,List.sum_cons];omega
theorem coreOf_le {f c:Form} (hs:Shape f) (h:Z1o f c):c.Count≤f.Count∧c.Period≤f.Period∧c.Core.length≤f.Core.length∧(c.Core.map List.length).sum≤(f.Core.map List.length).sum:=by
 have hp:=hs.per
 have hcnt:=hs.count
 rcases h with ⟨hb,rfl⟩ | ⟨hb,h0,d,hg,hmin,rfl⟩
 ·exact ⟨by simp only;omega,by simp only;omega,YV _,YV _⟩
 ·exact ⟨Y0t h0 hg.dvd,Y0s _ hp.1,by simp only [YY];omega,ZBQ _ _ _⟩
theorem canon_facts {f:Form} (hl:Lim f) (hr:RightF f):∃ g,ZW f = some g∧Lim g∧RightF g∧ZJ g = ZJ f∧ZW g = some g∧g.Count≤f.Count∧g.Period≤f.Period∧g.Core.length≤f.Core.length∧g.Odd.length≤f.Odd.length∧Z5T g≤Z5T f:=by
 have hs:=hr.shape
 obtain ⟨c,hc,hf⟩:=Z2p hl hs
 have hl':=canonF_lim hl hs hc
 have hs':=Z7C hs hc
 obtain ⟨hfx,hfe⟩:=canonF_fix hs hc
 have hcl:=coreOf_le hs hc
 refine ⟨_,hf,hl',canonF_right hr hc,ZA2 hs hc,?_,hcl.1,hcl.2.1,hcl.2.2.1,Y0F _ _,?_⟩
 ·obtain ⟨c2,hc2,hf2⟩:=Z2p hl' hs'
  have:c2 = c:=by
   rcases hfx with ⟨b1,e1⟩ | ⟨b1,z1,d1,g1,m1,e1⟩ <;> rcases hc2 with ⟨b2,e2⟩ | ⟨b2,z2,d2,g2,m2,e2⟩
   ·rw [e1,e2]
   ·exact absurd b1 b2
   ·exact absurd b2 b1
   ·have:d1 = d2:=by have:=m1 d2 g2;have:=m2 d1 g1;omega
    subst this;rw [e2];exact e1.symm
  rw [hf2,this,hfe]
 ·have h1:=hcl.2.2.2
  have h2:=Z8u (fun g:Granule => g.Ticks.length) (oddly f) f.Odd
  unfold Z5T
  show (c.Core.map List.length).sum + ((f.Odd.filter (oddly f)).map (fun g => g.Ticks.length)).sum≤_
  omega
end Go.Dn

namespace Go.Dn
open Go
theorem shift_ne {l:List Span} (hn:l ≠ []) {a b:Int} (h:l.map (ZS a) = l.map (ZS b)):a = b:=by
 cases l with
 | nil => exact absurd rfl hn
 | cons s l =>
  simp only [Y06,List.cons.injEq,ZS,Span.mk.injEq] at h;omega
theorem Turn.uniq {h:Int→List Span} {d q q':Int} (t:Turn h d q) (t':Turn h d q') {i:Int} (hn:h i ≠ []):q = q':=shift_ne hn ((t i).symm.trans (t' i))
def NearF (f:Form) (m:Int):Prop:=∀ g ∈ f.Odd,-m≤g.Index∧g.Index≤m
end Go.Dn

namespace Go.Dn
open Go
end Go.Dn

namespace Go.Dn
open Go
end Go.Dn

namespace Go.Dn
open Go
def Mid (x:Int):Prop:=-1000000000000000000≤x∧x≤1000000000000000000
end Go.Dn

namespace Go.Dn
open Go
end Go.Dn

namespace Go.Dn
open Go
theorem u64_id {a:Int} (h:0≤a∧a < 18446744073709551616):IntKind.u64.wrap a = a:=by rw [Z5X];omega
def Dig (x:Int):Prop:=0≤x∧x < 65536
structure Digs (d:Arr9_u32):Prop where
 h0:Dig d.d0
 h1:Dig d.d1
 h2:Dig d.d2
 h3:Dig d.d3
 h4:Dig d.d4
 h5:Dig d.d5
 h6:Dig d.d6
 h7:Dig d.d7
 h8:Dig d.d8
def lsz (d:Arr9_u32):Int:=d.d0 + 65536 * (d.d1 + 65536 * (d.d2 + 65536 * (d.d3 + 65536 * (d.d4 + 65536 * (d.d5 + 65536 * (d.d6 + 65536 * (d.d7 + 65536 * d.d8)))))))
def lval (x:epactref01_long):Int:=if x.minus = true then -lsz x.digits else lsz x.digits
end Go.Dn

namespace Go.Dn
open Go
structure Low (d:Arr9_u32):Prop where
 z4:d.d4 = 0
 z5:d.d5 = 0
 z6:d.d6 = 0
 z7:d.d7 = 0
 z8:d.d8 = 0
end Go.Dn

namespace Go.Dn
open Go
theorem gcd_ok {a b:Int} (ha:In64 a) (hb:In64 b):gcd? (a.natAbs:Int) b.natAbs = some ((Nat.gcd a.natAbs b.natAbs:Nat):Int):=by
 unfold gcd?
 rw [if_pos (by unfold In64 at *;omega)]
 rfl
theorem gcd_lt {a b:Int} (ha:In64 a) (hb:In64 b):Nat.gcd a.natAbs b.natAbs≤9223372036854775808:=by
 unfold In64 at *
 by_cases h:a = 0
 ·subst h;simp;omega
 ·exact YZ (Nat.gcd_le_left _ (by omega)) (by omega)
def lcmS (a b:Int):Int × Int:=if a = 0∨b = 0 then (0,0) else fitS (((a.natAbs / Nat.gcd a.natAbs b.natAbs:Nat):Int) * b.natAbs)
theorem ZBG {a b:Int} (ha:In64 a) (hb:In64 b):Z3w a b = some (lcmS a b):=by
 have:=gcd_lt ha hb
 unfold Z3w lcmS
 rw [Z5E ha,Z5E hb]
 by_cases h0:a = 0∨b = 0
 ·rw [if_pos h0];have:(((a.natAbs:Int) == 0) || ((b.natAbs:Int) == 0)) = true:=by simp;omega
  rw [this,cond_true]
 rw [if_neg h0]
 have h1:(((a.natAbs:Int) == 0) || ((b.natAbs:Int) == 0)) = false:=by simp;omega
 rw [h1,cond_false,gcd_ok ha hb]
 simp only [Y0]
 have gp:0 < Nat.gcd a.natAbs b.natAbs:=Nat.gcd_pos_of_pos_left _ (by omega)
 rw [nz?_ok (by omega)]
 simp only [Y0]
 have hd:((a.natAbs:Int)).tdiv ((Nat.gcd a.natAbs b.natAbs:Nat):Int) = ((a.natAbs / Nat.gcd a.natAbs b.natAbs:Nat):Int):=by
  rw [Int.tdiv_eq_ediv_of_nonneg (by omega)];rfl
 have hle:a.natAbs / Nat.gcd a.natAbs b.natAbs≤a.natAbs:=Nat.div_le_self _ _
 rw [hd]
 generalize a.natAbs / Nat.gcd a.natAbs b.natAbs = q at *
 rw [u64_id (a:=(q:Int)) (by unfold In64 at ha;omega),mul64_eq (by unfold Z7S;unfold In64 at ha;omega) (inU_abs hb)]
 simp only
 have hnn:0≤(q:Int) * b.natAbs:=Y0P (by omega) (by omega)
 generalize (q:Int) * b.natAbs = p at *
 by_cases hp:p / 18446744073709551616 = 0
 ·rw [bne_f hp,cond_false,Z8C _ (by unfold Z7S;omega)]
  have:p % 18446744073709551616 = p:=by omega
  rw [this];rfl
 ·rw [bne_t hp,cond_true,fitS_not (by unfold In64;omega)]
end Go.Dn

namespace Go.Dn
open Go
theorem hull_eq {l:List Span} (hl:Len l):Z2X l = some (if l = [] then (⟨0,0⟩,false) else (⟨fstT l,lstT l⟩,true)):=by
 have hlen:=Z32 (b:=15) hl
 unfold Z2X
 by_cases h:l = []
 ·subst h;rfl
 ·have hp:0 < l.length:=List.length_pos_iff.2 h
  rw [if_neg h,Z4H (by omega),cond_false,ZF (by omega)]
  have e1:at? l 0 = some (l.head h):=by
   have:=at?_nat (l:=l) (k:=0) hp
   rw [show ((0:Nat):Int) = 0 from rfl] at this
   rw [this,List.head_eq_getElem]
  have e2:at? l ((l.length:Int) - 1) = some (l.getLast h):=by
   have:=at?_nat (l:=l) (k:=l.length - 1) (by omega)
   rw [show ((l.length - 1:Nat):Int) = (l.length:Int) - 1 by omega] at this
   rw [this,List.getLast_eq_getElem]
  rw [e1,e2];simp only [Y0];unfold fstT lstT;rw [Y05 h,Y01 h]
  rfl
def spotOf (g:Form) (j:Nat):Option size_spot:=if g.Core.getD j [] = [] then none else some ⟨(j:Int),⟨fstT (g.Core.getD j []),lstT (g.Core.getD j [])⟩⟩
def spotsUp (g:Form) (k:Nat):List size_spot:=(List.range k).filterMap (spotOf g)
abbrev spotsOf (g:Form):List size_spot:=spotsUp g g.Core.length
structure Spots (g:Form) (l:List size_spot):Prop where
 mem:∀ s ∈ l,0≤s.index∧s.index < g.Count∧cs g s.index ≠ []∧s.place.first = fstT (cs g s.index)∧s.place.last = lstT (cs g s.index)
 all:∀ j,0≤j→j < g.Count→cs g j ≠ []→∃ s ∈ l,s.index = j
 inc:l.Pairwise (fun a b => a.index < b.index)
def LastC (g:Form) (t i:Int):Prop:=cs g i ≠ []∧fstT (cs g i)≤t∧∀ k,i < k→cs g k ≠ []→t < fstT (cs g k)
def FirstC (g:Form) (t i:Int):Prop:=cs g i ≠ []∧t≤lstT (cs g i)∧∀ k,k < i→cs g k ≠ []→lstT (cs g k) < t
structure Fit (g:Form):Prop where
 lim:Lim g
 shape:Shape g
 turns:Turns g
 few:g.Core.length≤12
 odds:g.Odd.length≤8
theorem Fit.per {g:Form} (h:Fit g) (h0:0 < g.Count):0 < g.Period:=by
 have h1:=h.shape.per
 have h2:=h.shape.zero
 omega
def BigT (t:Int):Prop:=-4398046511104≤t∧t≤4398046511104
end Go.Dn

namespace Go.Dn
open Go
def putB (b:Int × Bool) (n:Int):Int × Bool:=if b.2 = false∨n > b.1 then (n,true) else b
structure Best (S:Int→Prop) (b:Int × Bool):Prop where
 yes:b.2 = true→S b.1∧∀ n,S n→n≤b.1
 no:b.2 = false→b.1 = 0∧∀ n,¬ S n
theorem Best.put {S S':Int→Prop} {b:Int × Bool} {n:Int} (h:Best S b) (hS:∀ m,S' m ↔ S m∨m = n):Best S' (putB b n):=by
 unfold putB
 split
 ·rename_i hc;refine ⟨fun _ => ⟨(hS n).2 (.inr rfl),fun m hm => ?_⟩,fun h => by cases h⟩
  rcases (hS m).1 hm with h1 | h1
  ·cases hb:b.2 with
   | false => exact absurd h1 ((h.no hb).2 m)
   | true =>
    have:=(h.yes hb).2 m h1
    rcases hc with h2 | h2
    ·rw [hb] at h2;cases h2
    ·simp only;omega
  ·subst h1;exact Y0B _
 ·rename_i hc;have hb:b.2 = true:=by cases hb:b.2 <;> simp_all
  refine ⟨fun _ => ⟨(hS b.1).2 (.inl (h.yes hb).1),fun m hm => ?_⟩,fun h => by rw [hb] at h;cases h⟩
  rcases (hS m).1 hm with h1 | h1
  ·exact (h.yes hb).2 m h1
  ·subst h1;have:¬ (m > b.1):=fun h => hc (.inr h)
   omega
theorem Best.congr {S S':Int→Prop} {b:Int × Bool} (h:Best S b) (hS:∀ m,S' m ↔ S m):Best S' b :=
 ⟨fun hb => ⟨(hS _).2 (h.yes hb).1,fun n hn => (h.yes hb).2 n ((hS n).1 hn)⟩,fun hb => ⟨(h.no hb).1,fun n hn => (h.no hb).2 n ((hS n).1 hn)⟩⟩
theorem Best.none {S:Int→Prop} (h:∀ n,¬ S n):Best S (0,false):=⟨fun h => by (cases h),fun _ => ⟨rfl,h⟩⟩
end Go.Dn

namespace Go.Dn
open Go
def byU (up:Bool):Int:=if up then 1 else -1
def sgU (up:Bool):Int:=if up then -1 else 1
def AtP (g:Form) (up:Bool) (t i:Int):Prop:=ZJ g i ≠ []∧(if up then t≤lstT (ZJ g i) else fstT (ZJ g i)≤t)
end Go.Dn

namespace Go.Dn
open Go
def CoreP (g:Form) (up:Bool) (d i j:Int):Prop:=cs g i ≠ []∧cs g j ≠ []∧(if up then d≤lstT (cs g j) - fstT (cs g i) else fstT (cs g j) - lstT (cs g i)≤d)
def Z7Y (g:Form) (up:Bool) (d i j:Int):Prop:=ZJ g i ≠ []∧ZJ g j ≠ []∧(if up then d≤lstT (ZJ g j) - fstT (ZJ g i) else fstT (ZJ g j) - lstT (ZJ g i)≤d)
def BigI (n:Int):Prop:=-600000000000000≤n∧n≤600000000000000
end Go.Dn

namespace Go.Dn
open Go
def FewF (f:Form):Prop:=f.Core.length≤12∧f.Odd.length≤8
theorem Z6P.few {f:Form} (h:Z6P f):FewF f:=⟨h.1,h.2.1⟩
structure DownS (f:Form) (d:Int) (r:Int × Bool):Prop where
 yes:r.2 = true→(∃ i j,Z7Y f false d i j∧r.1 = j - i)∧∀ i j,Z7Y f false d i j→j - i≤r.1
 no:r.2 = false→∀ i j,¬ Z7Y f false d i j
structure UpS (f:Form) (d:Int) (r:Int × Bool):Prop where
 yes:r.2 = true→(∃ i j,Z7Y f true d i j∧r.1 = j - i)∧∀ i j,Z7Y f true d i j→r.1≤j - i
 no:r.2 = false→∀ i j,¬ Z7Y f true d i j
theorem down_mono {f:Form} {d d' i j:Int} (h:Z7Y f false d i j) (hd:d≤d'):Z7Y f false d' i j:=by
 unfold Z7Y at *
 simp only [YA,if_false] at *
 exact ⟨h.1,h.2.1,by omega⟩
noncomputable def bad (low high:Bound):Bool:=(((!(Z0w low)) || (!(Z0w high))) || (low.Inf == 1)) || (high.Inf == (-1))
structure RangeS (f:Form) (low high:Bound) (r:Range) (ok:Bool):Prop where
 none:ok = false→r = Range.mk 0 0 false false
 hi:ok = true→(r.HasHigh = true ↔ high.Inf = 0∧high.N≤1099511627776)
 lo:ok = true→(r.HasLow = true ↔ low.Inf = 0∧-1099511627776≤low.N)
 atH:ok = true→r.HasHigh = true→DownS f (max high.N (-1099511627776)) (r.High,true)
 atL:ok = true→r.HasLow = true→UpS f (min low.N 1099511627776) (r.Low,true)
 nhi:ok = true→r.HasHigh = false→r.High = 0
 nlo:ok = true→r.HasLow = false→r.Low = 0
 not:ok = false→(high.Inf = 0∧high.N≤1099511627776∧∀ i j,¬ Z7Y f false (max high.N (-1099511627776)) i j)∨(low.Inf = 0∧-1099511627776≤low.N∧∀ i j,¬ Z7Y f true (min low.N 1099511627776) i j)
def Near (f:Form) (m d:Int):Prop:=∃ i j,Z7Y f false d i j∧m≤j - i
theorem Near.mono {f:Form} {m m' d d':Int} (h:Near f m d) (hm:m'≤m) (hd:d≤d'):Near f m' d':=by
 obtain ⟨i,j,h1,h2⟩:=h
 exact ⟨i,j,down_mono h1 hd,by omega⟩
def farI (m:Int):Int:=min (max m (-4611686018427387904)) 4611686018427387904
def LowD (f:Form) (m d:Int):Prop:=-1099511627776≤d∧d≤1099511627776∧(∀ z,-1099511627776≤z→z < d→¬ Near f m z)∧(d < 1099511627776→Near f m d)
def boundD (d:Int):Bound:=if d = -1099511627776 then ⟨-1,0⟩ else ⟨0,d⟩
theorem LowD.mono {f:Form} {m m' d d':Int} (h:LowD f m d) (h':LowD f m' d') (hm:m≤m'):d≤d':=by
 obtain ⟨a1,a2,a3,a4⟩:=h
 obtain ⟨b1,b2,b3,b4⟩:=h'
 by_cases hd:d≤d'
 ·exact hd
 ·exact absurd ((b4 (by omega)).mono hm (Y0B _)) (a3 d' b1 (by omega))
def boundH (d:Int):Bound:=if d = -1099511627776 then ⟨1,0⟩ else ⟨0,-d⟩
def goodB (x:Bound):Prop:=Z0w x = true∧x.N≤1099511627776∧-1099511627776≤x.N
end Go.Dn

namespace Go.Dn
open Go
def bareF (f:Form):Form:=Form.mk f.Period f.Count f.Core []
def Bears (f:Form) (i t:Int):Prop:=ZB i∧fits f i∧∃ s ∈ ZJ f i,s.From≤t∧t≤s.To
theorem Bears.ends {f:Form} (hs:Shape f) {i t:Int} (h:Bears f i t):ZJ f i ≠ []∧fstT (ZJ f i)≤t∧t≤lstT (ZJ f i)∧ZB t:=by
 obtain ⟨h1,h2,s,h3,h4,h5⟩:=h
 have hr:=Z8F hs h2
 have hn:ZJ f i ≠ []:=fun e => by rw [e] at h3;cases h3
 obtain ⟨k,hk,he⟩:=Yj h3
 have hlt:=hk
 have key:fstT (ZJ f i)≤s.From∧s.To≤lstT (ZJ f i):=by
  have h0:∀ (l:List Span),RightL l→∀ (s:Span),s ∈ l→fstT l≤s.From∧s.To≤lstT l:=by
   intro l
   induction l with
   | nil => intro _ s hs;cases hs
   | cons a l ih =>
    intro hr s hs;have ha:=hr.ok 0 a rfl
    have e1:fstT (a :: l) = a.From:=rfl
    cases l with
    | nil =>
     rw [YE] at hs;subst hs;exact ⟨by rw [e1];omega,by show s.To≤s.To;omega⟩
    | cons b l =>
     have hg:=hr.gap 0 a b rfl rfl
     have e2:lstT (a :: b :: l) = lstT (b :: l):=by unfold lstT;rw [List.getLast?_cons_cons]
     have hrt:=hr.tail
     rcases List.mem_cons.1 hs with rfl | hs
     ·have:=ih hrt b (by simp)
      have hb:=hrt.ok 0 b rfl
      refine ⟨by rw [e1];omega,by rw [e2];omega⟩
     ·have:=ih hrt s hs
      have e3:fstT (b :: l) = b.From:=rfl
      rw [e3] at this;refine ⟨by rw [e1];omega,by rw [e2];exact this.2⟩
  exact h0 _ hr s h3
 have hl:=ZA0 hr hn
 unfold ZB at *
 exact ⟨hn,by omega,by omega,by omega⟩
end Go.Dn

namespace Go.Dn
open Go
noncomputable def Z1i (f:Form) (m:Int):Form:=Form.mk f.Period f.Count ((List.range f.Core.length).map fun (j:Nat) => csz f ((j:Int) - m)) (f.Odd.map fun g => Granule.mk (g.Index + m) g.Ticks)
theorem Z6z {f:Form} (hs:Shape f) (m i:Int):csz (Z1i f m) i = csz f (i - m):=by
 have hcnt:=hs.count
 by_cases h0:f.Count = 0
 ·unfold csz;rw [if_pos (show (Z1i f m).Count = 0 from h0),if_pos h0]
 ·have hp:0 < f.Count:=by omega
  rw [Z15 (show 0 < (Z1i f m).Count from hp),Z15 hp]
  have hi:=Yf i h0
  have hi2:=Yh i hp
  have e:i - m = (i % f.Count - m) + f.Count * (i / f.Count):=by
   have:=Yd i f.Count
   omega
  rw [e,Z4P h0]
  show (Z04 (Z1i f m) i).map (ZS (i / f.Count * f.Period)) = _
  congr 1
  show ((List.range f.Core.length).map fun (j:Nat) => csz f ((j:Int) - m)).getD (i % f.Count).toNat [] = _
  rw [YD,YP,List.getElem?_range (by omega)]
  simp only [Y8,Y0N];rw [Z15 hp,Yx hi]
theorem shiftF_odd {f:Form} {m i:Int}:Z2S (Z1i f m) i ↔ Z2S f (i - m):=by
 unfold Z2S Z1i
 simp only [List.mem_map]
 constructor
 ·rintro ⟨g,⟨x,hx,rfl⟩,e⟩;exact ⟨x,hx,by simp only at e;omega⟩
 ·rintro ⟨x,hx,e⟩;exact ⟨_,⟨x,hx,rfl⟩,by simp only;omega⟩
theorem shiftF_inc {f:Form} (hs:Shape f) (m:Int):Inc (Z1i f m).Odd:=by
 rw [Z5J]
 show (f.Odd.map fun g => Granule.mk (g.Index + m) g.Ticks).Pairwise _
 rw [List.pairwise_map]
 exact (Z5J.1 hs.inc).imp fun h => by simp only;omega
theorem shiftF_setAt {f:Form} (hs:Shape f) (m i:Int):ZJ (Z1i f m) i = ZJ f (i - m):=by
 by_cases ho:Z2S f (i - m)
 ·obtain ⟨x,hx,e⟩:=ho
  have h1:=Z0r hs.inc hx
  have h2:=Z0r (f:=Z1i f m) (shiftF_inc hs m) (g:=Granule.mk (x.Index + m) x.Ticks) (List.mem_map.2 ⟨x,hx,rfl⟩)
  simp only at h2;rw [show i = x.Index + m by omega,h2,show x.Index + m - m = x.Index by omega,h1]
 ·rw [Z2q ho,Z2q (fun h => ho (shiftF_odd.1 h)),Z6z hs]
theorem raw_eq {f:Form} (hl:Lim f) (hs:Shape f) {i:Int} (hi:In64 i):(Z0m f i = some (csz f i,0)∧(∀ s ∈ csz f i,ZB s.From∧ZB s.To)∧Len (csz f i))∨Z0m f i = some ([],20):=by
 unfold Z0m
 have hcnt:=hs.count
 have len0:Len ([] : List Span):=by show ([] : List Span).length * 16≤reachBytes;simp
 by_cases h0:f.Count = 0
 ·rw [Z8y h0,cond_true];have:csz f i = []:=if_pos h0
  rw [this];exact .inl ⟨rfl,by simp,len0⟩
 ·have hp:0 < f.Count:=by omega
  rw [Z4H h0,cond_false,Z2r hi hl.count,Z4R hp];simp only [Y0];obtain ⟨c1,c2⟩:=Z01 hs h0 i
  rw [c1];simp only [Y0];have hcsz:csz f i = (Z04 f i).map (ZS (i / f.Count * f.Period)):=by rw [Z15 hp];rfl
  by_cases hn:Z04 f i = []
  ·rw [hcsz,hn];exact .inl ⟨rfl,by simp,len0⟩
  ·have hlen:¬ ((Z04 f i).length:Int) = 0:=by have:=List.length_pos_iff.2 hn;omega
   rw [Z4H hlen,cond_false];have hq:In64 (i / f.Count):=by
    unfold In64 at hi ⊢;have q1:i / f.Count≤9223372036854775807:=Y0G hp (by
     have:(9223372036854775807:Int) * 1≤9223372036854775807 * f.Count:=YF (by omega) (by decide)
     omega)
    have q2 : -9223372036854775808≤i / f.Count:=Y0H hp (by
     have:(9223372036854775808:Int) * 1≤9223372036854775808 * f.Count:=YF (by omega) (by decide)
     omega)
    exact ⟨q2,q1⟩
   rw [Z3s hq hl.period]
   rcases Z7x (i / f.Count * f.Period) with ⟨f1,f2⟩ | ⟨f1,f2⟩
   ·rw [f2];simp only [bne_self_eq_false,Y0M,cond_false]
    rcases Z4m (hl.sets _ c2).1 (hl.sets _ c2).2 f1 with ⟨m1,m2⟩ | ⟨m1,m2⟩
    ·rw [m2]
     left
     rw [hcsz];refine ⟨rfl,fun s hs' => ?_,by unfold Len;rw [YQ];exact (hl.sets _ c2).1⟩
     obtain ⟨x,hx,rfl⟩:=List.mem_map.1 hs'
     exact m1 x hx
    ·rw [m2];exact .inr rfl
   ·rw [f2];exact .inr rfl
structure Bnd (f:Form):Prop where
 core:f.Core.length≤12
 odd:f.Odd.length≤8
 sets:∀ l ∈ f.Core,l.length≤720
 ticks:∀ g ∈ f.Odd,g.Ticks.length≤720
theorem ZAW {α:Type} (g:α→Nat):∀ {l:List α} {x:α},x ∈ l→g x≤(l.map g).sum
 | y :: l,x,h => by
  rw [Y06,List.sum_cons]
  rcases List.mem_cons.1 h with rfl | h
  ·omega
  ·have:=ZAW g h;omega
theorem sum_le {α:Type} (g:α→Nat) {b:Nat}:∀ {l:List α},(∀ x ∈ l,g x≤b)→(l.map g).sum≤l.length * b
 | [],_ => by simp
 | y :: l,h => by
  rw [Y06,List.sum_cons,Yu,Yl];have h1:=h y YO
  have h2:=sum_le g (l:=l) (b:=b) fun x hx => h x (YL _ hx)
  omega
theorem Z6P.bnd {f:Form} (h:Z6P f):Bnd f:=by
 obtain ⟨h1,h2,h3⟩:=h
 unfold Z5T at h3
 refine ⟨h1,h2,fun l hl => ?_,fun g hg => ?_⟩
 ·have:=ZAW List.length hl;omega
 ·have:=ZAW (fun g:Granule => g.Ticks.length) hg;omega
theorem Bnd.short {f:Form} (h:Bnd f):¬ Z5h f:=by
 have h1:=sum_le List.length h.sets
 have h2:=sum_le (fun g:Granule => g.Ticks.length) h.ticks
 have h3:=h.core
 have h4:=h.odd
 unfold Z5h Z5T
 have h5:f.Core.length * 720≤12 * 720:=YK _ h3
 have h6:f.Odd.length * 720≤8 * 720:=YK _ h4
 omega
theorem csz_len {f:Form} (hs:Shape f) (h:Bnd f) (i:Int):(csz f i).length≤720:=by
 unfold csz
 by_cases h0:f.Count = 0
 ·rw [if_pos h0];simp
 ·rw [if_neg h0];unfold cs;rw [YQ];exact h.sets _ (Z01 hs h0 i).2
theorem shiftF_bnd {f:Form} (hs:Shape f) (h:Bnd f) (m:Int):Bnd (Z1i f m):=by
 refine ⟨?_,?_,fun l hl => ?_,fun g hg => ?_⟩
 ·show ((List.range f.Core.length).map _).length≤12
  rw [YQ,Yy];exact h.core
 ·show (f.Odd.map _).length≤8
  rw [YQ];exact h.odd
 ·obtain ⟨j,_,rfl⟩:=List.mem_map.1 hl
  exact csz_len hs h _
 ·obtain ⟨x,hx,rfl⟩:=List.mem_map.1 hg
  exact h.ticks x hx
theorem canonF_bnd {f c:Form} (h:Bnd f) (hc:Z1o f c):Bnd (Z22 f c):=by
 have hcore:c.Core.length≤12∧∀ l ∈ c.Core,l.length≤720:=by
  rcases hc with ⟨_,rfl⟩ | ⟨_,_,d,_,_,rfl⟩
  ·exact ⟨by simp,by simp⟩
  ·refine ⟨YZ (List.length_take_le' _ _) h.core,fun l hl => h.sets l (Yq hl)⟩
 exact ⟨hcore.1,YZ (Y0F _ _) h.odd,hcore.2,fun g hg => h.ticks g (List.mem_filter.1 hg).1⟩
end Go.Dn

namespace Go.Dn
open Go
theorem inRange13 {i:Int}:Z1F i = decide (ZB i):=by
 unfold Z1F ZB
 rw [← Bool.decide_and]
theorem right13_eq {f:Form} (hl:Lim f):∃ b,Z1E f = some b∧(b = true ↔ Z6P f∧RightF f):=by
 unfold Z1E
 obtain ⟨b,hb,hbs⟩:=Z8f hl
 rw [hb]
 simp only [Y0]
 cases b with
 | false => exact ⟨false,rfl,fun h => (by cases h),fun h => by have:=hbs.2 h.1;cases this⟩
 | true =>
  have hsm:=hbs.1 rfl
  have hnl:¬ Z5h f:=by unfold Z5h;have:=hsm.1;have:=hsm.2.1;have:=hsm.2.2;omega
  rw [cond_true]
  rcases Z6R hl with ⟨h,_⟩ | ⟨_,h1,h2⟩ | ⟨_,h1,h2⟩
  ·exact absurd h hnl
  ·rw [h2];exact ⟨true,rfl,fun _ => ⟨hsm,h1⟩,fun _ => rfl⟩
  ·rw [h2];exact ⟨false,rfl,fun h => (by cases h),fun h => absurd h.2 h1⟩
theorem shift_core {f:Form} (hl:Lim f) (hs:Shape f) (hb:Bnd f) {m:Int} (hm:ZB m) :
  loopO (ZY.s0 f m) (0,[]) = some (.ret (Form.mk 0 0 [] [],20))∨(loopO (ZY.s0 f m) (0,[]) = some (.go (Z1i f m).Core)∧∀ l ∈ (Z1i f m).Core,Len l∧Sp64 l):=by
 have hcnt:=hs.count
 have hfew:=hb.core
 unfold ZB at hm
 obtain ⟨r,q1,q2⟩:=Z0z (step:=ZY.s0 f m)
  (fun s => ∃ k:Nat,k≤f.Core.length∧s = ((k:Int),(List.range k).map fun (j:Nat) => csz f ((j:Int) - m))∧∀ j:Nat,j < k→Len (csz f ((j:Int) - m))∧Sp64 (csz f ((j:Int) - m)))
  (fun s => f.Core.length - s.1.toNat)
  (fun r => r = .ret (Form.mk 0 0 [] [],20)∨(r = .go (Z1i f m).Core∧∀ l ∈ (Z1i f m).Core,Len l∧Sp64 l)) (by
   rintro s ⟨k,hk,rfl,hall⟩;unfold ZY.s0;simp only
   by_cases hlt:k < f.Core.length
   ·rw [ZU (show (k:Int) < f.Count by omega),cond_true,ZF (x:=(k:Int) - m) (by omega)]
    rcases raw_eq hl hs (i:=(k:Int) - m) (by unfold In64;omega) with ⟨e,t1,t2⟩ | e
    ·left
     rw [e];simp only [Y0,bne_self_eq_false,cond_false];rw [app?_ok (by
      have:=Z3g
      simp only [Ye,YQ,Yy,Yv];omega)]
     simp only [Y0];rw [ZF (x:=(k:Int) + 1) (by omega)]
     refine ⟨_,rfl,⟨k + 1,hlt,?_,fun j hj => ?_⟩,by simp only;omega⟩
     ·rw [List.range_succ,Yo];push_cast;rfl
     ·by_cases hjk:j = k
      ·subst hjk;refine ⟨t2,fun s hs' => ?_⟩
       have:=t1 s hs'
       unfold ZB at this;unfold In64;omega
      ·exact hall j (by omega)
    ·right
     rw [e];exact ⟨_,rfl,.inl rfl⟩
   ·right
    obtain rfl:k = f.Core.length:=by omega
    rw [ZZ (show ¬ ((f.Core.length:Int) < f.Count) by omega),cond_false]
    refine ⟨_,rfl,.inr ⟨rfl,fun l hl' => ?_⟩⟩
    obtain ⟨j,hj,rfl⟩:=List.mem_map.1 hl'
    exact hall j (List.mem_range.1 hj)) (0,[]) ⟨0,YV _,rfl,fun j hj => absurd hj (Nat.not_lt_zero _)⟩
 rcases q2 with rfl | ⟨rfl,h⟩
 ·exact .inl q1
 ·exact .inr ⟨q1,h⟩
theorem shift_odd {f:Form} (hl:Lim f) (hs:Shape f) (hb:Bnd f) {m:Int} (hm:ZB m) :
  loopO (ZY.s1 f m) (0,[]) = some (.ret (Form.mk 0 0 [] [],20))∨(loopO (ZY.s1 f m) (0,[]) = some (.go (Z1i f m).Odd)∧∀ g ∈ f.Odd,ZB (g.Index + m)):=by
 have hfew:=hb.odd
 unfold ZB at hm
 obtain ⟨r,q1,q2⟩:=Z0z (step:=ZY.s1 f m)
  (fun s => ∃ k:Nat,k≤f.Odd.length∧s = ((k:Int),(f.Odd.take k).map fun g => Granule.mk (g.Index + m) g.Ticks)∧∀ g ∈ f.Odd.take k,ZB (g.Index + m))
  (fun s => f.Odd.length - s.1.toNat)
  (fun r => r = .ret (Form.mk 0 0 [] [],20)∨(r = .go (Z1i f m).Odd∧∀ g ∈ f.Odd,ZB (g.Index + m))) (by
   rintro s ⟨k,hk,rfl,hall⟩;unfold ZY.s1;simp only
   by_cases hlt:k < f.Odd.length
   ·have hmem:=YU hlt
    have htk:f.Odd.take (k + 1) = f.Odd.take k ++ [f.Odd[k]]:=(Y0Z hlt).symm
    have hti:=(hs.odd _ hmem).2
    unfold ZB at hti;rw [ZU (show (k:Int) < f.Odd.length by omega),cond_true,at?_nat hlt]
    simp only [Y0];rw [ZF (x:=f.Odd[k].Index + m) (by omega),inRange13]
    by_cases hr:ZB (f.Odd[k].Index + m)
    ·left
     rw [ZU hr];simp only [Ya,cond_false];have h60:=hb.ticks _ hmem
     rw [app?_ok (by
      have:=Z3g
      simp only [Yk];omega)]
     simp only [Y0,Y0v];rw [app?_ok (by
      have:=Z3g
      simp only [Ye,YQ,YY,Yv];omega)]
     simp only [Y0];rw [ZF (x:=(k:Int) + 1) (by omega)]
     refine ⟨_,rfl,⟨k + 1,hlt,?_,fun g hg => ?_⟩,by simp only;omega⟩
     ·rw [htk,Yo];push_cast;rfl
     ·rw [htk] at hg
      rcases List.mem_append.1 hg with hg | hg
      ·exact hall g hg
      ·rw [YE] at hg;subst hg;exact hr
    ·right
     rw [ZZ hr];exact ⟨_,rfl,.inl rfl⟩
   ·right
    obtain rfl:k = f.Odd.length:=by omega
    rw [ZZ (by omega),cond_false]
    rw [Y0J] at hall ⊢;exact ⟨_,rfl,.inr ⟨rfl,hall⟩⟩) (0,[]) ⟨0,YV _,rfl,by simp⟩
 rcases q2 with rfl | ⟨rfl,h⟩
 ·exact .inl q1
 ·exact .inr ⟨q1,h⟩
theorem shift_eq {f:Form} (hl:Lim f) (hs:Shape f) (hb:Bnd f) {m:Int} (hm:ZB m) :
  ZY f m = some (Form.mk 0 0 [] [],20)∨∃ g,ZY f m = some (g,0)∧Lim (Z1i f m)∧RightF (Z1i f m)∧ZW (Z1i f m) = some g:=by
 unfold ZY
 rw [inRange13,ZU hm,Ya,cond_false]
 rcases shift_core hl hs hb hm with h1 | ⟨h1,c1⟩
 ·rw [h1];exact .inl rfl
 rw [h1]
 simp only [Y0,Jx.elim]
 rcases shift_odd hl hs hb hm with h2 | ⟨h2,c2⟩
 ·rw [h2];exact .inl rfl
 rw [h2]
 simp only [Y0]
 have e:Form.mk f.Period f.Count (Z1i f m).Core (Z1i f m).Odd = Z1i f m:=rfl
 rw [e]
 have lim:Lim (Z1i f m):=by
  have r:=Z1T
  have h3:=hb.core
  have h4:=hb.odd
  refine ⟨?_,c1,?_,fun g hg => ?_,hl.count,hl.period⟩
  ·show ((List.range f.Core.length).map _).length * 24≤reachBytes
   rw [YQ,Yy];omega
  ·show (f.Odd.map _).length * 32≤reachBytes
   rw [YQ];omega
  ·obtain ⟨x,hx,rfl⟩:=List.mem_map.1 hg
   exact ⟨Z25 (c2 x hx),(hl.ticks x hx).2⟩
 have short:=(shiftF_bnd hs hb m).short
 unfold Z1e
 rcases Z6R lim with ⟨h,_⟩ | ⟨_,h3,h4⟩ | ⟨_,h3,h4⟩
 ·exact absurd h short
 ·rw [h4];simp only [Y0,beq_self_eq_true,cond_true];obtain ⟨c,_,hc⟩:=Z2p lim h3.shape
  right
  rw [hc];exact ⟨_,rfl,lim,h3,rfl⟩
 ·rw [h4];exact .inl rfl
end Go.Dn

namespace Go.Dn
open Go
def seam (x s:Span):List Span:=if s.From = x.To + 1 then [⟨x.From,s.To⟩] else [x,s]
def glue (out l:List Span):List Span :=
 match out.getLast?,l with
 | some x,s :: l' => out.dropLast ++ (seam x s ++ l')
 | _,_ => out ++ l
theorem Z41 (a:List Span):glue a [] = a:=by
 unfold glue
 cases h:a.getLast? <;> simp
theorem Z38 (b:List Span):glue [] b = b:=by
 unfold glue
 cases b <;> simp
theorem Z2E (a:List Span) (x s:Span) (l:List Span):glue (a ++ [x]) (s :: l) = a ++ (seam x s ++ l):=by
 unfold glue
 simp
theorem Z4l {a:List Span} (h:a ≠ []):∃ b x,a = b ++ [x]:=⟨a.dropLast,a.getLast h,(List.dropLast_concat_getLast h).symm⟩
theorem glue_ne {a b:List Span}:glue a b = [] ↔ a = []∧b = []:=by
 by_cases ha:a = []
 ·subst ha;rw [Z38];simp
 ·obtain ⟨a',x,rfl⟩:=Z4l ha
  cases b with
  | nil => rw [Z41];simp
  | cons s l =>
   rw [Z2E];unfold seam
   split <;> simp
def gl (h:Int→List Span) (a:Int):Nat→List Span
 | 0 => []
 | n + 1 => glue (gl h a n) (h (a + n))
theorem gl_congr {h g:Int→List Span} {a b:Int} {n:Nat} (he:∀ j:Nat,j < n→h (a + j) = g (b + j)):gl h a n = gl g b n:=by
 induction n with
 | zero => rfl
 | succ n ih =>
  show glue (gl h a n) (h (a + n)) = glue (gl g b n) (g (b + n))
  rw [ih fun j hj => he j (by omega),he n (by omega)]
theorem gl_one (h:Int→List Span) (a:Int):gl h a 1 = h a:=by
 show glue [] (h (a + 0)) = h a
 rw [Z38,Int.add_zero]
theorem seam_shift (d:Int) (x s:Span):seam (ZS d x) (ZS d s) = (seam x s).map (ZS d):=by
 unfold seam
 by_cases h:s.From = x.To + 1
 ·rw [if_pos h,if_pos (by unfold ZS;simp only;omega)];rfl
 ·rw [if_neg h,if_neg (by unfold ZS;simp only;omega)];rfl
theorem glue_shift (d:Int) (a b:List Span):glue (a.map (ZS d)) (b.map (ZS d)) = (glue a b).map (ZS d):=by
 by_cases ha:a = []
 ·subst ha;rw [Z38,List.map_nil,Z38]
 ·obtain ⟨a',x,rfl⟩:=Z4l ha
  cases b with
  | nil => rw [Z41,List.map_nil,Z41]
  | cons s l =>
   rw [Z2E,Yo,Y06,List.map_nil,Y06,Z2E,seam_shift,Yo,Yo]
theorem gl_shift {h:Int→List Span} {d p:Int} (hp:∀ i,h (i + p) = (h i).map (ZS d)) (a:Int):∀ n:Nat,gl h (a + p) n = (gl h a n).map (ZS d)
 | 0 => rfl
 | n + 1 => by
  show glue (gl h (a + p) n) (h (a + p + n)) = (glue (gl h a n) (h (a + n))).map (ZS d)
  rw [gl_shift hp a n,show a + p + (n:Int) = a + n + p by omega,hp,glue_shift]
theorem glue_len (a b:List Span):(glue a b).length≤a.length + b.length:=by
 by_cases ha:a = []
 ·subst ha;rw [Z38];simp
 ·obtain ⟨a',x,rfl⟩:=Z4l ha
  cases b with
  | nil => rw [Z41];simp
  | cons s l =>
   rw [Z2E];unfold seam
   split <;> simp <;> omega
end Go.Dn

namespace Go.Dn
open Go
def Z0a (l:List Span):Prop:=∀ s ∈ l,ZB s.From∧ZB s.To
theorem ZCF {a b:List Span} (ha:Z0a a) (hb:Z0a b):Z0a (glue a b):=by
 by_cases h:a = []
 ·subst h;rw [Z38];exact hb
 ·obtain ⟨a',x,rfl⟩:=Z4l h
  cases b with
  | nil => rw [Z41];exact ha
  | cons s l =>
   rw [Z2E];intro t ht;have hx:=ha x (by simp)
   have hs:=hb s (by simp)
   rcases List.mem_append.1 ht with h1 | h1
   ·exact ha t (Yb _ h1)
   ·rcases List.mem_append.1 h1 with h2 | h2
    ·unfold seam at h2
     split at h2
     ·rw [YE] at h2;subst h2;exact ⟨hx.1,hs.2⟩
     ·rcases List.mem_cons.1 h2 with rfl | h2
      ·exact hx
      ·rw [YE] at h2;subst h2;exact hs
    ·exact hb t (YL _ h2)
theorem at?_last {a:List Span} {x:Span}:at? (a ++ [x]) (((a ++ [x]).length:Int) - 1) = some x:=by
 have h:=at?_nat (l:=a ++ [x]) (k:=a.length) (by simp)
 have e:(((a ++ [x]).length:Int) - 1) = (a.length:Int):=by simp
 rw [e,h]
 simp
theorem b0_eq {out l:List Span} {e:Int} (ho:out.length≤4000000) (hl:l.length≤4000000) (to:Z0a out) (tl:Z0a l):Zg.b0 (out,e) (l,0) = some ((glue out l,e),0):=by
 have hr:=Z3g
 unfold Zg.b0
 simp only [bne_self_eq_false,cond_false]
 by_cases h:out = []
 ·subst h;rw [ZZ (show ¬ ((([] : List Span).length:Int) > 0) by simp)]
  simp only [Y0d,cond_false,Y0];rw [app?_ok (by simp only [Yk];omega)]
  simp only [Y0,Jx.elim,Z38,Y0v]
 ·obtain ⟨a',x,rfl⟩:=Z4l h
  have hlen:((a' ++ [x]).length:Int) = a'.length + 1:=by simp
  have hlenN:(a' ++ [x]).length = a'.length + 1:=by simp
  cases l with
  | nil =>
   rw [ZZ (show ¬ ((([] : List Span).length:Int) > 0) by simp)]
   simp only [Bool.and_false,cond_false,Y0];rw [app?_ok (by simp only [Yk];omega)]
   simp only [Y0,Jx.elim,Z41,YR]
  | cons s l =>
   have hll:(s :: l).length = l.length + 1:=rfl
   have tx:=to x (by simp)
   unfold ZB at tx;rw [ZU (show ((a' ++ [x]).length:Int) > 0 by omega),ZU (show (((s :: l).length:Nat):Int) > 0 by rw [hll];omega)]
   simp only [Y0K,cond_true];have e1:at? (s :: l) 0 = some s:=rfl
   have e2:at? (a' ++ [x]) (w64 (((a' ++ [x]).length:Int) - 1)) = some x:=by rw [ZF (by omega),at?_last]
   rw [e1];simp only [Y0];rw [e2];simp only [Y0];rw [ZF (x:=x.To + 1) (by omega)]
   by_cases hc:s.From = x.To + 1
   ·rw [Z8y hc];simp only [cond_true];have e3:cut? (s :: l) 1 (((s :: l).length:Nat):Int) = some l:=by
     unfold cut?;rw [if_pos (by rw [hll];omega)]
     simp
    rw [e3];simp only [Y0];have e4:(a' ++ [x]).set (w64 (((a' ++ [x]).length:Int) - 1)).toNat (Span.mk x.From s.To) = a' ++ [Span.mk x.From s.To]:=by
     rw [ZF (by omega),hlen,show ((a'.length:Int) + 1 - 1).toNat = a'.length by omega]
     simp
    rw [e4,app?_ok (by
     have:(a' ++ [Span.mk x.From s.To]).length = a'.length + 1:=by simp
     omega)]
    simp only [Y0,Jx.elim,Z2E];unfold seam;rw [if_pos hc]
    simp
   ·rw [Z4H hc];simp only [cond_false,Y0];rw [app?_ok (by omega)]
    simp only [Y0,Jx.elim,Z2E];unfold seam;rw [if_neg hc]
    simp
theorem Z9w {h:Int→List Span} {a:Int} {B:Nat}:∀ {n:Nat},(∀ j:Nat,j < n→(h (a + j)).length≤B∧Z0a (h (a + j)))→(gl h a n).length≤n * B∧Z0a (gl h a n)
 | 0,_ => ⟨by simp [gl],fun s hs => by cases hs⟩
 | n + 1,hh => by
  obtain ⟨h1,h2⟩:=Z9w (n:=n) fun j hj => hh j (by omega)
  obtain ⟨h3,h4⟩:=hh n (by omega)
  refine ⟨?_,ZCF h2 h4⟩;have:=glue_len (gl h a n) (h (a + n))
  show (glue (gl h a n) (h (a + n))).length≤(n + 1) * B
  rw [Yl];omega
theorem ZBS {tell:Int→Option (List Span × Int)} {h:Int→List Span} {a:Int} {m B:Nat} (hm:m * B≤4000000) (hm2:m≤4000000) (hB:B≤4000000) (ha : -4611686018427387904≤a∧a≤4611686018427387904)
  (ht:∀ j:Nat,j < m→(tell (a + j) = some (h (a + j),0)∧(h (a + j)).length≤B∧Z0a (h (a + j)))∨tell (a + j) = some ([],20)) :
  (Zg tell a m = some (gl h a m,0)∧∀ j:Nat,j < m→(h (a + j)).length≤B∧Z0a (h (a + j))∧tell (a + j) = some (h (a + j),0)) ∨
  (Zg tell a m = some ([],20)∧∃ j:Nat,j < m∧tell (a + j) = some ([],20)):=by
 obtain ⟨r,q1,q2⟩:=Z0z (step:=Z0K.s0 m tell a (Z1O Zg.b0))
  (fun s => ∃ k:Nat,k≤m∧s = ((k:Int),((gl h a k,0),0))∧∀ j:Nat,j < k→(h (a + j)).length≤B∧Z0a (h (a + j))∧tell (a + j) = some (h (a + j),0))
  (fun s => m - s.1.toNat)
  (fun r => (r = .go ((gl h a m,0),0)∧∀ j:Nat,j < m→(h (a + j)).length≤B∧Z0a (h (a + j))∧tell (a + j) = some (h (a + j),0))∨((∃ o,r = .ret ((o,20),1))∧∃ j:Nat,j < m∧tell (a + j) = some ([],20))) (by
   rintro s ⟨k,hk,rfl,hall⟩;unfold Z0K.s0;simp only
   by_cases hlt:k < m
   ·rw [ZU (show (k:Int) < m by omega),cond_true,ZF (x:=a + (k:Int)) (by omega)]
    rcases ht k hlt with ⟨t1,t2,t3⟩ | t1
    ·left
     rw [t1];obtain ⟨g1,g2⟩:=Z9w (B:=B) (n:=k) fun j hj => ⟨(hall j hj).1,(hall j hj).2.1⟩
     have hkB:k * B≤m * B:=YK _ hk
     simp only [Y0,Z1O,if_true];rw [b0_eq (by omega) (by omega) g2 t3]
     simp only [Y8,Y0,beq_self_eq_true,Ya,cond_false];rw [ZF (x:=(k:Int) + 1) (by omega)]
     refine ⟨_,rfl,⟨k + 1,hlt,by push_cast;rfl,fun j hj => ?_⟩,by simp only;omega⟩
     by_cases hjk:j = k
     ·subst hjk;exact ⟨t2,t3,t1⟩
     ·exact hall j (by omega)
    ·right
     rw [t1];exact ⟨_,rfl,.inr ⟨⟨_,rfl⟩,k,hlt,t1⟩⟩
   ·right
    obtain rfl:k = m:=by omega
    rw [ZZ (by omega),cond_false]
    exact ⟨_,rfl,.inl ⟨rfl,hall⟩⟩) (0,(([],0),0)) ⟨0,YV _,rfl,fun j hj => absurd hj (Nat.not_lt_zero _)⟩
 unfold Zg Z0K
 simp only [Y0]
 rw [q1]
 rcases q2 with ⟨rfl,h1⟩ | ⟨⟨o,rfl⟩,h1⟩
 ·exact .inl ⟨rfl,h1⟩
 ·exact .inr ⟨rfl,h1⟩
end Go.Dn

namespace Go.Dn
open Go
structure BndB (f:Form) (B:Nat):Prop where
 core:f.Core.length≤12
 odd:f.Odd.length≤8
 sets:∀ l ∈ f.Core,l.length≤B
 ticks:∀ g ∈ f.Odd,g.Ticks.length≤B
theorem Bnd.b {f:Form} (h:Bnd f):BndB f 720:=⟨h.core,h.odd,h.sets,h.ticks⟩
theorem BndB.small {f:Form} {B:Nat} (h:BndB f B) (hB:B≤720):Bnd f:=⟨h.core,h.odd,fun l hl => YZ (h.sets l hl) hB,fun g hg => YZ (h.ticks g hg) hB⟩
theorem Z6P.b60 {f:Form} (h:Z6P f):BndB f 60:=by
 obtain ⟨h1,h2,h3⟩:=h
 unfold Z5T at h3
 refine ⟨h1,h2,fun l hl => ?_,fun g hg => ?_⟩
 ·have:=ZAW List.length hl;omega
 ·have:=ZAW (fun g:Granule => g.Ticks.length) hg;omega
theorem csz_lenB {f:Form} {B:Nat} (hs:Shape f) (h:BndB f B) (i:Int):(csz f i).length≤B:=by
 unfold csz
 by_cases h0:f.Count = 0
 ·rw [if_pos h0];simp
 ·rw [if_neg h0];unfold cs;rw [YQ];exact h.sets _ (Z01 hs h0 i).2
theorem setAt_lenB {f:Form} {B:Nat} (hs:Shape f) (h:BndB f B) (i:Int):(ZJ f i).length≤B:=by
 by_cases ho:Z2S f i
 ·obtain ⟨x,hx,rfl⟩:=ho
  rw [Z0r hs.inc hx];exact h.ticks x hx
 ·rw [Z2q ho];exact csz_lenB hs h i
theorem rounds_eq {f:Form} (hs:Shape f) (h12:f.Core.length≤12) (h0:0 < f.Count) {m:Nat} (m1:1≤m) (m2:m≤6000):∃ u v:Nat,Z1Z f m = some ((v:Int),f.Count * u)∧f.Count * (u:Int) = v * m∧1≤u∧u≤m∧1≤v∧v≤12:=by
 have hcnt:=hs.count
 unfold Z1Z
 rw [Z4H (show ¬ f.Count = 0 by omega),cond_false,ZBG (by unfold In64;omega) (by unfold In64;omega)]
 simp only [Y0]
 obtain ⟨c,hc⟩ : ∃ c:Nat,f.Count = c:=⟨f.Core.length,hcnt⟩
 rw [hc] at h0 ⊢
 have hcl:c≤12:=by omega
 unfold lcmS
 rw [if_neg (by omega)]
 simp only [Int.natAbs_natCast]
 have g0:0 < Nat.gcd c m:=Nat.gcd_pos_of_pos_left _ (by omega)
 obtain ⟨v,hv⟩:=Nat.gcd_dvd_left c m
 obtain ⟨u,hu⟩:=Nat.gcd_dvd_right c m
 generalize Nat.gcd c m = g at *
 have e1:c / g = v:=by rw [hv];exact Nat.mul_div_cancel_left v g0
 rw [e1]
 have v1:1≤v:=by
  rcases Y0O v with h | h
  ·rw [h] at hv;omega
  ·exact h
 have u1:1≤u:=by
  rcases Y0O u with h | h
  ·rw [h] at hu;omega
  ·exact h
 have vle:v≤c:=by rw [hv];exact Y0h v g0
 have ule:u≤m:=by rw [hu];exact Y0h u g0
 have e2:v * m = c * u:=by rw [hu,hv];exact (by rw [Nat.mul_comm v,Nat.mul_assoc,Nat.mul_comm u,← Nat.mul_assoc])
 have hb:v * m≤12 * 6000:=Y0z (by omega) m2
 have e3:((v:Int) * (m:Int)) = ((v * m:Nat):Int):=by push_cast;rfl
 rw [e3,fitS_of (by unfold In64;omega)]
 simp only
 rw [nz?_ok (show (m:Int) ≠ 0 by omega)]
 simp only [Y0]
 have e4:((v * m:Nat):Int).tdiv (m:Int) = (v:Int):=by
  push_cast
  exact Int.mul_tdiv_cancel _ (by omega)
 rw [e4,ZF (by omega)]
 refine ⟨u,v,?_,?_,u1,ule,v1,by omega⟩
 ·rw [e2];push_cast;rfl
 ·have:=congrArg (fun n:Nat => (n:Int)) e2
  push_cast at this
  exact this.symm
theorem sum_loop {f:Form} {B:Nat} (h12:f.Core.length≤12) (hB:B≤8640) (hs:∀ l ∈ f.Core,l.length≤B):∃ z,loopO (Zb.s0 f) (0,0) = some z∧0≤z∧z≤12 * B:=by
 obtain ⟨r,q1,q2⟩:=Z0z (step:=Zb.s0 f) (fun s => ∃ (k z:Nat),k≤f.Core.length∧s = ((z:Int),(k:Int))∧z≤k * B) (fun s => f.Core.length - s.2.toNat) (fun r => 0≤r∧r≤12 * B) (by
  rintro s ⟨k,z,hk,rfl,hz⟩;unfold Zb.s0;simp only
  by_cases hlt:k < f.Core.length
  ·left
   rw [ZU (show (k:Int) < f.Core.length by omega),cond_true,at?_nat hlt]
   simp only [Y0];have hk12:k * B≤12 * B:=YK _ (by omega)
   have hlen:=hs _ (YU hlt)
   rw [ZF (x:=(k:Int) + 1) (by omega),ZF (x:=(z:Int) + (f.Core[k].length:Int)) (by omega)]
   exact ⟨_,rfl,⟨k + 1,z + f.Core[k].length,hlt,by push_cast;rfl,by rw [Yl];omega⟩,by simp only;omega⟩
  ·right
   have hk12:k * B≤12 * B:=YK _ (by omega)
   rw [ZZ (by omega),cond_false]
   exact ⟨_,rfl,by omega,by omega⟩) (0,0) ⟨0,0,YV _,rfl,by simp⟩
 exact ⟨r,q1,q2⟩
noncomputable def Z4K (f:Form) (m v:Nat):List (List Span):=(List.range v).map fun (i:Nat) => gl (csz f) ((i:Int) * m) m
theorem raw_tell {f:Form} {B:Nat} (hl:Lim f) (hs:Shape f) (hb:BndB f B) {i:Int} (hi:In64 i):(Z0P i f = some (csz f i,0)∧(csz f i).length≤B∧Z0a (csz f i))∨Z0P i f = some ([],20):=by
 unfold Z0P
 rcases raw_eq hl hs hi with ⟨e,t,_⟩ | e
 ·rw [e];exact .inl ⟨rfl,csz_lenB hs hb i,t⟩
 ·rw [e];exact .inr rfl
theorem get_tell {f:Form} {B:Nat} (hl:Lim f) (hs:Shape f) (hb:BndB f B) {i:Int} (hi:In64 i):(Z0O i f = some (ZJ f i,0)∧(ZJ f i).length≤B∧Z0a (ZJ f i))∨Z0O i f = some ([],20):=by
 unfold Z0O
 rw [Z52 hl hs hi]
 by_cases h:ZB i∧fits f i
 ·rw [if_pos h];exact .inl ⟨rfl,setAt_lenB hs hb i,h.2⟩
 ·rw [if_neg h];exact .inr rfl
theorem plain_core {f:Form} {B:Nat} (hl:Lim f) (hs:Shape f) (hb:BndB f B) {m u v:Nat} {p:Int} (m1:1≤m) (m2:m≤200) (hB:B≤8640) (hv:v≤12) (hp:(ZA f.Period (w64 ((f.Count * (u:Int)).tdiv f.Count))).1 = p) :
  (loopO (Zb.s1 f m ((v:Int),f.Count * u)) (0,[]) = some (.go (Z4K f m v,p))∧∀ l ∈ Z4K f m v,l.length≤m * B∧Z0a l)∨(loopO (Zb.s1 f m ((v:Int),f.Count * u)) (0,[]) = some (.ret 20)∧∃ i j:Nat,i < v∧j < m∧Z0P ((i:Int) * m + j) f = some ([],20)):=by
 have hmB:m * B≤200 * 8640:=Y0z m2 hB
 obtain ⟨r,q1,q2⟩:=Z0z (step:=Zb.s1 f m ((v:Int),f.Count * u))
  (fun s => ∃ k:Nat,k≤v∧s = ((k:Int),Z4K f m k)∧∀ l ∈ Z4K f m k,l.length≤m * B∧Z0a l)
  (fun s => v - s.1.toNat)
  (fun r => (r = .go (Z4K f m v,p)∧∀ l ∈ Z4K f m v,l.length≤m * B∧Z0a l)∨(r = .ret 20∧∃ i j:Nat,i < v∧j < m∧Z0P ((i:Int) * m + j) f = some ([],20))) (by
   rintro s ⟨k,hk,rfl,hall⟩;unfold Zb.s1;simp only
   by_cases hlt:k < v
   ·have hkm:(k:Int) * m≤12 * 200:=by
     have:k * m≤12 * 200:=Y0z (by omega) m2
     have e:(k:Int) * m = ((k * m:Nat):Int):=by push_cast;rfl
     rw [e];omega
    have hkm0:0≤(k:Int) * m:=Y0P (by omega) (by omega)
    rw [ZU (show (k:Int) < v by omega),cond_true,ZF (x:=(k:Int) * m) (by omega)]
    rcases ZBS (tell:=fun z0 => Z0P z0 f) (h:=csz f) (a:=(k:Int) * m) (m:=m) (B:=B) (by omega) (by omega) (by omega) (by omega) (fun j hj => raw_tell hl hs hb (by unfold In64;omega)) with ⟨g1,g2⟩ | ⟨g1,j,g2,g3⟩
    ·left
     rw [g1];simp only [Y0,bne_self_eq_false,cond_false];have hlen:(Z4K f m k).length = k:=by unfold Z4K;rw [YQ,Yy]
     rw [app?_ok (by
      have:=Z3g
      simp only [Yv];omega)]
     simp only [Y0];rw [ZF (x:=(k:Int) + 1) (by omega)]
     have e:Z4K f m k ++ [gl (csz f) ((k:Int) * m) m] = Z4K f m (k + 1):=by unfold Z4K;rw [List.range_succ,Yo];rfl
     refine ⟨_,rfl,⟨k + 1,hlt,by rw [e];push_cast;rfl,fun l hl' => ?_⟩,by simp only;omega⟩
     rw [← e] at hl'
     rcases List.mem_append.1 hl' with h | h
     ·exact hall l h
     ·rw [YE] at h;subst h;exact Z9w (B:=B) (n:=m) fun j hj => ⟨(g2 j hj).1,(g2 j hj).2.1⟩
    ·right
     rw [g1];exact ⟨_,rfl,.inr ⟨rfl,k,j,hlt,g2,g3⟩⟩
   ·right
    obtain rfl:k = v:=by omega
    rw [ZZ (by omega),cond_false,hp]
    exact ⟨_,rfl,.inl ⟨rfl,hall⟩⟩) (0,[]) ⟨0,YV _,rfl,by simp [Z4K]⟩
 rcases q2 with ⟨rfl,h⟩ | ⟨rfl,h⟩
 ·exact .inl ⟨q1,h⟩
 ·exact .inr ⟨q1,h⟩
structure PlainG (f:Form) (m B:Nat) (g:Form):Prop where
 odd:g.Odd = []
 zero:f.Count = 0→g = Form.mk 0 0 [] []
 some:0 < f.Count→∃ u v:Nat,f.Count * (u:Int) = v * m∧1≤u∧u≤m∧1≤v∧v≤12∧g = Form.mk (f.Period * u) v (Z4K f m v) []
 sets:∀ l ∈ g.Core,l.length≤m * B∧Z0a l
 few:g.Core.length≤12
theorem plain_eq2 {f:Form} {B:Nat} (hl:Lim f) (hs:Shape f) (hb:BndB f B) {m:Nat} (m1:1≤m) (m2:m≤200) (hB:B≤8640) :
  ∃ g e,Zb f m = some (g,e)∧(e = 0→PlainG f m B g)∧(e ≠ 0→(e = 20∨e = 3)∧g = Form.mk 0 0 [] []):=by
 unfold Zb
 have hcnt:=hs.count
 have hper:=hs.per
 have hcore:=hb.core
 by_cases h0:f.Count = 0
 ·have:Z1Z f m = some (0,0):=by unfold Z1Z;rw [Z8y h0];rfl
  rw [this];refine ⟨_,_,rfl,fun _ => ⟨rfl,fun _ => rfl,fun h => by omega,by simp,by simp⟩,fun h => absurd rfl h⟩
 ·obtain ⟨u,v,r1,r2,u1,u2,v1,v2⟩:=rounds_eq hs hcore (by omega) m1 (by omega)
  rw [r1];simp only [Y0];rw [Z4H (show ¬ (v:Int) = 0 by omega),cond_false]
  obtain ⟨z,hz,_⟩:=sum_loop (B:=B) hcore hB hb.sets
  rw [hz];simp only [Y0];rw [nz?_ok h0];simp only [Y0];have ediv:(f.Count * (u:Int)).tdiv f.Count = u:=Int.mul_tdiv_cancel_left _ h0
  by_cases hbig:w64 (z * w64 ((f.Count * (u:Int)).tdiv f.Count)) > 60000
  ·rw [ZU hbig];exact ⟨_,_,rfl,fun h => (by cases h),fun _ => ⟨(by first | exact .inl rfl | exact .inr rfl),rfl⟩⟩
  ·rw [ZZ hbig];simp only [cond_false];have hmul:ZA f.Period (w64 ((f.Count * (u:Int)).tdiv f.Count)) = (f.Period * u,0):=by
    rw [ediv,ZF (x:=(u:Int)) (by omega),Z3s (by unfold In64;omega) (by unfold In64;omega)]
    apply fitS_of;have h1:0≤f.Period * (u:Int):=Y0P hper.1 (by omega)
    have h2:f.Period * (u:Int)≤1099511627776 * u:=YM hper.2 (by omega)
    unfold In64;omega
   rw [hmul];simp only [bne_self_eq_false,Y0Y]
   by_cases hp:f.Period * (u:Int) > 1099511627776
   ·rw [ZU hp];exact ⟨_,_,rfl,fun h => (by cases h),fun _ => ⟨(by first | exact .inl rfl | exact .inr rfl),rfl⟩⟩
   ·rw [ZZ hp];simp only [cond_false]
    rcases plain_core hl hs hb (m:=m) (u:=u) (v:=v) (p:=f.Period * u) m1 m2 hB v2 (by rw [hmul]) with ⟨c1,c2⟩ | ⟨c1,_⟩
    ·rw [c1];refine ⟨_,_,rfl,fun _ => ⟨rfl,fun h => absurd h h0,fun _ => ⟨u,v,r2,u1,u2,v1,v2,rfl⟩,c2,?_⟩,fun h => absurd rfl h⟩
     show (Z4K f m v).length≤12
     unfold Z4K;rw [YQ,Yy];exact v2
    ·rw [c1];exact ⟨_,_,rfl,fun h => (by cases h),fun _ => ⟨(by first | exact .inl rfl | exact .inr rfl),rfl⟩⟩
end Go.Dn

namespace Go.Dn
open Go
structure OddsG (f:Form) (m B k:Nat) (O:List Granule):Prop where
 of:∀ g ∈ O,∃ x ∈ f.Odd.take k,g.Index = x.Index / m
 all:∀ x ∈ f.Odd.take k,∃ g ∈ O,g.Index = x.Index / m
 tick:∀ g ∈ O,g.Ticks = gl (ZJ f) (g.Index * m) m∧g.Ticks.length≤m * B∧Z0a g.Ticks
 inc:O.Pairwise (fun a b => a.Index < b.Index)
 len:O.length≤k
theorem last_at {α:Type} {a:List α} {x:α} (h:a.length≤1000):at? (a ++ [x]) (w64 (((a ++ [x]).length:Int) - 1)) = some x:=by
 have h:=at?_nat (l:=a ++ [x]) (k:=a.length) (by simp)
 have e:(((a ++ [x]).length:Int) - 1) = (a.length:Int):=by simp
 rw [e,ZF (by omega),h]
 simp
theorem odds_loop {f:Form} {B:Nat} (hl:Lim f) (hs:Shape f) (hb:BndB f B) {m:Nat} (m1:1≤m) (m2:m≤200) (hB:B≤8640) :
  (∃ O,loopO (Zc.s0 f m) (0,[]) = some (.go O)∧OddsG f m B f.Odd.length O) ∨
  (loopO (Zc.s0 f m) (0,[]) = some (.ret (Form.mk 0 0 [] [],20))∧∃ x ∈ f.Odd,∃ j:Nat,j < m∧Z0O (x.Index / m * m + j) f = some ([],20)):=by
 have hmB:m * B≤200 * 8640:=Y0z m2 hB
 have hodd:=hb.odd
 have hm0:(0:Int) < m:=by omega
 obtain ⟨r,q1,q2⟩:=Z0z (step:=Zc.s0 f m)
  (fun s => ∃ (k:Nat) (O:List Granule),k≤f.Odd.length∧s = ((k:Int),O)∧OddsG f m B k O)
  (fun s => f.Odd.length - s.1.toNat)
  (fun r => (∃ O,r = .go O∧OddsG f m B f.Odd.length O)∨(r = .ret (Form.mk 0 0 [] [],20)∧∃ x ∈ f.Odd,∃ j:Nat,j < m∧Z0O (x.Index / m * m + j) f = some ([],20))) (by
   rintro s ⟨k,O,hk,rfl,hO⟩;unfold Zc.s0;simp only
   by_cases hlt:k < f.Odd.length
   ·have hmem:=YU hlt
    have htk:f.Odd.take (k + 1) = f.Odd.take k ++ [f.Odd[k]]:=(Y0Z hlt).symm
    have hti:=(hs.odd _ hmem).2
    have hbefore:∀ y ∈ f.Odd.take k,y.Index < f.Odd[k].Index:=fun y hy => by
     obtain ⟨j,hj,rfl⟩:=Yj hy
     rw [List.getElem_take];rw [YY] at hj;exact hs.inc j k _ _ (by omega) (Y2 (by omega)) (Y2 hlt)
    unfold ZB at hti;rw [ZU (show (k:Int) < f.Odd.length by omega),cond_true,at?_nat hlt]
    simp only [Y0];generalize f.Odd[k] = x at *
    rw [Z2r (by unfold In64;omega) (by unfold In64;omega),Z4R hm0]
    simp only [Y0];have q1:=Yd x.Index m
    have q2:=Yf x.Index (show (m:Int) ≠ 0 by omega)
    have q3:=Yh x.Index hm0
    have hcond:∃ b:Bool,(bif (decide ((O.length:Int) > 0)) then (at? O (w64 ((O.length:Int) - 1))).bind fun x4 => some (x4.Index == x.Index / m) else some false) = some b ∧
      (b = true→∃ g ∈ O,g.Index = x.Index / m)∧(b = false→∀ g ∈ O,g.Index < x.Index / m):=by
     by_cases hn:O = []
     ·subst hn;exact ⟨false,rfl,fun h => (by cases h),fun _ g hg => by cases hg⟩
     ·have hb1:O = O.dropLast ++ [O.getLast hn]:=(List.dropLast_concat_getLast hn).symm
      have hlen:=hO.len
      have hp:=hO.inc
      have hle:∀ g ∈ O,g.Index≤x.Index / m:=fun g hg => by
       obtain ⟨y,hy,e⟩:=hO.of g hg
       rw [e];exact Int.ediv_le_ediv hm0 (Y0r (hbefore y hy))
      generalize O.dropLast = a at *
      generalize O.getLast hn = z at *
      subst hb1;have ha:a.length≤1000:=by rw [Ye] at hlen;omega
      rw [ZU (show (((a ++ [z]).length:Nat):Int) > 0 by simp),cond_true,last_at ha]
      simp only [Y0];refine ⟨_,rfl,fun h => ⟨z,by simp,by simpa using h⟩,fun h g hg => ?_⟩
      have hz:z.Index ≠ x.Index / m:=by simpa using h
      have hz2:=hle z (by simp)
      rw [List.pairwise_append] at hp
      rcases List.mem_append.1 hg with h1 | h1
      ·have:=hp.2.2 g h1 z (by simp);omega
      ·rw [YE] at h1;subst h1;omega
    obtain ⟨b,b1,b2,b3⟩:=hcond
    rw [b1];simp only [Y0];cases b with
    | true =>
     left
     obtain ⟨g,g1,g2⟩:=b2 rfl
     simp only [cond_true,Y0,Jx.elim];rw [ZF (x:=(k:Int) + 1) (by omega)]
     refine ⟨_,rfl,⟨k + 1,O,hlt,by push_cast;rfl,?_,?_,hO.tick,hO.inc,by have:=hO.len;omega⟩,by simp only;omega⟩
     ·intro y hy;obtain ⟨w,w1,w2⟩:=hO.of y hy
      exact ⟨w,by rw [htk];exact Yb _ w1,w2⟩
     ·intro y hy;rw [htk] at hy
      rcases List.mem_append.1 hy with h | h
      ·exact hO.all y h
      ·rw [YE] at h;subst h;exact ⟨g,g1,g2⟩
    | false =>
     have b4:=b3 rfl
     simp only [cond_false];have hqm:x.Index / m * m = x.Index - x.Index % m:=by rw [Y04];omega
     rw [ZF (x:=x.Index / m * m) (by omega)]
     rcases ZBS (tell:=fun z0 => Z0O z0 f) (h:=ZJ f) (a:=x.Index / m * m) (m:=m) (B:=B) (by omega) (by omega) (by omega) (by omega) (fun j hj => get_tell hl hs hb (by unfold In64;omega)) with ⟨g1,g2⟩ | ⟨g1,j,g2,g3⟩
     ·left
      rw [g1];simp only [Y0,bne_self_eq_false,cond_false];have hlen:=hO.len
      rw [app?_ok (by
       have:=Z3g
       simp only [Yv];omega)]
      simp only [Y0,Jx.elim];rw [ZF (x:=(k:Int) + 1) (by omega)]
      obtain ⟨f1,f2⟩:=Z9w (h:=ZJ f) (a:=x.Index / m * m) (B:=B) (n:=m) fun j hj => ⟨(g2 j hj).1,(g2 j hj).2.1⟩
      refine ⟨_,rfl,⟨k + 1,_,hlt,by push_cast;rfl,?_,?_,?_,?_,by rw [Ye,Yv];omega⟩,by simp only;omega⟩
      ·intro y hy
       rcases List.mem_append.1 hy with h | h
       ·obtain ⟨w,w1,w2⟩:=hO.of y h
        exact ⟨w,by rw [htk];exact Yb _ w1,w2⟩
       ·rw [YE] at h;subst h;exact ⟨x,by rw [htk];exact Ym _ (List.mem_singleton.2 rfl),rfl⟩
      ·intro y hy;rw [htk] at hy
       rcases List.mem_append.1 hy with h | h
       ·obtain ⟨g,g3,g4⟩:=hO.all y h
        exact ⟨g,Yb _ g3,g4⟩
       ·rw [YE] at h;subst h;exact ⟨_,Ym _ (List.mem_singleton.2 rfl),rfl⟩
      ·intro y hy
       rcases List.mem_append.1 hy with h | h
       ·exact hO.tick y h
       ·rw [YE] at h;subst h;exact ⟨rfl,f1,f2⟩
      ·rw [List.pairwise_append];refine ⟨hO.inc,by simp,fun a ha c hc => ?_⟩
       rw [YE] at hc;subst hc;exact b4 a ha
     ·right
      rw [g1];exact ⟨_,rfl,.inr ⟨rfl,x,hmem,j,g2,g3⟩⟩
   ·right
    obtain rfl:k = f.Odd.length:=by omega
    rw [ZZ (by omega),cond_false]
    exact ⟨_,rfl,.inl ⟨O,rfl,hO⟩⟩) (0,[]) ⟨0,[],YV _,rfl,by simp,by simp,by simp,by simp,by simp⟩
 rcases q2 with ⟨O,rfl,h⟩ | ⟨rfl,h⟩
 ·exact .inl ⟨O,q1,h⟩
 ·exact .inr ⟨q1,h⟩
end Go.Dn

namespace Go.Dn
open Go
structure GroupG (f:Form) (m B:Nat) (F:Form):Prop where
 csz:∀ i,csz F i = gl (csz f) (i * m) m
 set:∀ i,ZJ F i = gl (ZJ f) (i * m) m
 bnd:BndB F (m * B)
theorem quot_tick {n p:Int} (hp:0 < p) (hn:ZB n):ZB (n / p):=by
 unfold ZB at *
 constructor
 ·exact Y0H hp (by
   have:(1099511627776:Int) * 1≤1099511627776 * p:=YF (by omega) (by decide)
   omega)
 ·exact Y0G hp (by
   have:(1099511627776:Int) * 1≤1099511627776 * p:=YF (by omega) (by decide)
   omega)
theorem gl_none {h:Int→List Span} (hn:∀ i,h i = []) (a:Int):∀ n:Nat,gl h a n = []
 | 0 => rfl
 | n + 1 => by
  show glue (gl h a n) (h (a + n)) = []
  rw [gl_none hn a n,hn,Z38]
theorem groupG_of {f g:Form} {m B:Nat} {O:List Granule} (hs:Shape f) (m1:1≤m) (hP:PlainG f m B g) (hO:OddsG f m B f.Odd.length O) (hF:Shape (Form.mk g.Period g.Count g.Core O)) (h8:f.Odd.length≤8) :
  GroupG f m B (Form.mk g.Period g.Count g.Core O):=by
 have hm0:(0:Int) < m:=by omega
 have hcnt:=hs.count
 have hz:∀ i,Go.Dn.csz (Form.mk g.Period g.Count g.Core O) i = gl (Go.Dn.csz f) (i * m) m:=fun i => by
  by_cases h0:f.Count = 0
  ·have e:=hP.zero h0
   subst e;have hn:∀ j,Go.Dn.csz f j = []:=fun j => if_pos h0
   rw [gl_none hn];exact if_pos rfl
  ·obtain ⟨u,v,r2,u1,u2,v1,v2,e⟩:=hP.some (by omega)
   subst e;have hv0:(v:Int) ≠ 0:=by omega
   rw [Z15 (show (0:Int) < v by omega)]
   show (Z04 _ i).map (ZS (i / (v:Int) * (f.Period * u))) = _
   have i0:=Yf i hv0
   have i1:=Yh i (show (0:Int) < v by omega)
   have e1:Z04 (Form.mk (f.Period * (u:Int)) (v:Int) (Z4K f m v) O) i = gl (Go.Dn.csz f) (i % v * m) m:=by
    show (Z4K f m v).getD (i % (v:Int)).toNat [] = _
    unfold Z4K;rw [YD,YP,List.getElem?_range (by omega)]
    simp only [Y8,Y0N];rw [Yx i0]
   have e2:i * m = i % v * m + f.Count * (u * (i / v)):=by
    have h1:=Yd i v
    have h2:f.Count * (u * (i / v)) = v * m * (i / v):=by rw [← Y03,r2]
    rw [h2]
    conv => lhs;rw [← h1]
    rw [Y0W,Y03,Y03,Y04 (i / v) (m:Int)]
   rw [e1,e2];have sh:∀ j,Go.Dn.csz f (j + f.Count * (u * (i / v))) = (Go.Dn.csz f j).map (ZS (u * (i / v) * f.Period)):=fun j => by
    rw [Z15 (by omega)]
    exact Z4P h0 j _
   rw [gl_shift sh]
   congr 2
   rw [Y04 f.Period,← Y03,Y04 (i / (v:Int)) (u:Int)]
 refine ⟨hz,fun i => ?_,⟨hP.few,YZ hO.len h8,fun l hl => (hP.sets l hl).1,fun x hx => (hO.tick x hx).2.1⟩⟩
 by_cases ho:Z2S (Form.mk g.Period g.Count g.Core O) i
 ·obtain ⟨x,hx,rfl⟩:=ho
  rw [Z0r hF.inc hx,(hO.tick x hx).1]
 ·rw [Z2q ho,hz];refine gl_congr fun j hj => ?_
  refine (Z2q fun hx => ho ?_).symm
  obtain ⟨x,hx,e⟩:=hx
  obtain ⟨y,hy,e2⟩:=hO.all x (by rw [Y0J];exact hx)
  refine ⟨y,hy,?_⟩;rw [e2,e,Int.add_comm,Int.add_mul_ediv_right _ _ (by omega),Int.ediv_eq_zero_of_lt (by omega) (by omega),Int.zero_add]
theorem group_eq2 {f:Form} {B:Nat} (hl:Lim f) (hs:Shape f) (hb:BndB f B) {m:Nat} (m1:1≤m) (m2:m≤200) (hB:B≤8640) :
  ∃ g e,Zc f m = some (g,e)∧(e = 0→∃ F,GroupG f m B F∧Lim F∧RightF F∧¬ Z5h F∧ZW F = some g)∧(e ≠ 0→(e = 20∨e = 3)∧g = Form.mk 0 0 [] []):=by
 have hmB:m * B≤200 * 8640:=Y0z m2 hB
 unfold Zc
 rw [ZZ (show ¬ (m:Int) < 1 by omega),ZZ (show ¬ (m:Int) > 6000 by omega)]
 simp only [Y0M,cond_false]
 obtain ⟨p,e,p1,p2,p3⟩:=plain_eq2 hl hs hb m1 m2 hB
 rw [p1]
 simp only [Y0]
 by_cases he:e = 0
 ·have hP:=p2 he
  subst he;simp only [bne_self_eq_false,cond_false]
  rcases odds_loop hl hs hb m1 m2 hB with ⟨O,o1,hO⟩ | ⟨o1,_⟩
  ·rw [o1];simp only [Y0,Jx.elim];generalize hFF:Form.mk p.Period p.Count p.Core O = F;have lim:Lim F:=by
    rw [← hFF];have r:=Z1T
    have l8:=hO.len
    have h8:=hb.odd
    have h12:=hP.few
    have hper:=hs.per
    have s64:∀ {l:List Span},Z0a l→Sp64 l:=fun {l} h s hs' => ⟨Z25 (h s hs').1,Z25 (h s hs').2⟩
    refine ⟨?_,fun l hl' => ⟨?_,s64 (hP.sets l hl').2⟩,?_,fun g hg => ⟨?_,?_,s64 (hO.tick g hg).2.2⟩,?_,?_⟩
    ·show p.Core.length * 24≤reachBytes
     omega
    ·have:=(hP.sets l hl').1
     unfold Len;omega
    ·show O.length * 32≤reachBytes
     omega
    ·obtain ⟨x,hx,e⟩:=hO.of g hg
     have hx':=(hs.odd x (Yq hx)).2
     have h1:=Yd x.Index m
     have h2:=Yf x.Index (show (m:Int) ≠ 0 by omega)
     have h3:=Yh x.Index (show (0:Int) < m by omega)
     have h4:=quot_tick (n:=x.Index) (p:=(m:Int)) (by omega) hx'
     rw [e];exact Z25 h4
    ·have:=(hO.tick g hg).2.1
     unfold Len;omega
    ·show In64 p.Count
     by_cases h0:f.Count = 0
     ·rw [hP.zero h0];unfold In64;simp
     ·obtain ⟨u,v,_,_,_,_,v2,e⟩:=hP.some (by have:=hs.count;omega)
      rw [e];unfold In64;simp only;omega
    ·show In64 p.Period
     by_cases h0:f.Count = 0
     ·rw [hP.zero h0];unfold In64;simp
     ·obtain ⟨u,v,_,_,u2,_,_,e⟩:=hP.some (by have:=hs.count;omega)
      rw [e];have h1:0≤f.Period * (u:Int):=Y0P hper.1 (by omega)
      have h2:f.Period * (u:Int)≤1099511627776 * u:=YM hper.2 (by omega)
      unfold In64;simp only;omega
   unfold Z1e
   rcases Z6R lim with ⟨_,h⟩ | ⟨hnl,h3,h4⟩ | ⟨_,_,h⟩
   ·rw [h];exact ⟨_,_,rfl,fun h => (by cases h),fun _ => ⟨(by first | exact .inl rfl | exact .inr rfl),rfl⟩⟩
   ·rw [h4];simp only [Y0,beq_self_eq_true,cond_true];obtain ⟨c,_,hc⟩:=Z2p lim h3.shape
    rw [hc];refine ⟨_,_,rfl,fun _ => ⟨F,?_,lim,h3,hnl,hc⟩,fun h => absurd rfl h⟩
    rw [← hFF] at h3 ⊢;exact groupG_of hs m1 hP hO h3.shape hb.odd
   ·rw [h];exact ⟨_,_,rfl,fun h => (by cases h),fun _ => ⟨(by first | exact .inl rfl | exact .inr rfl),rfl⟩⟩
  ·rw [o1];exact ⟨_,_,rfl,fun h => (by cases h),fun _ => ⟨(by first | exact .inl rfl | exact .inr rfl),rfl⟩⟩
 ·have:(e != 0) = true:=by simpa using he
  rw [this];exact ⟨_,_,rfl,fun h => absurd h he,fun _ => ⟨(p3 he).1,rfl⟩⟩
end Go.Dn

namespace Go.Dn
open Go
end Go.Dn

namespace Go.Dn
open Go
def insG:Bool→List Int→Int→List Int
 | p,[],x => if p then [] else [x]
 | p,y :: l,x => if y = x then y :: insG true l x else if p then y :: insG true l x else if x < y then x :: y :: insG true l x else y :: insG false l x
end Go.Dn

namespace Go.Dn
open Go
def hasT (l:List Span) (t:Int):Prop:=∃ u ∈ l,u.From≤t∧t≤u.To
def midT (l:List Span):Prop:=∀ u ∈ l,-4611686018427387904≤u.From∧u.From≤4611686018427387904∧-4611686018427387904≤u.To∧u.To≤4611686018427387904
def isPl (l:List Span) (z:Int):Prop:=∃ u ∈ l,z = u.From∨z = u.To + 1
end Go.Dn

namespace Go.Dn
open Go
def AheadA (a b:List Span):Prop:=∀ x ∈ a,∀ y ∈ b,x.To < y.From
theorem Z5s {l:List Span} (h:RightL l) {s:Span} (hs:s ∈ l):fstT l≤s.From∧s.From≤s.To∧s.To≤lstT l:=by
 induction l generalizing s with
 | nil => cases hs
 | cons a l ih =>
  have h0:=h.ok 0 a rfl
  cases l with
  | nil =>
   rw [YE] at hs;subst hs;exact ⟨Y0B _,h0.2.2,Y0B _⟩
  | cons b l =>
   have hg:=h.gap 0 a b rfl rfl
   have e1:fstT (a :: b :: l) = a.From:=rfl
   have e2:lstT (a :: b :: l) = lstT (b :: l):=by unfold lstT;simp
   have e3:fstT (b :: l) = b.From:=rfl
   have hb:=ih h.tail (s:=b) YO
   rw [e1,e2]
   rcases List.mem_cons.1 hs with rfl | hs
   ·refine ⟨Y0B _,h0.2.2,?_⟩;omega
   ·have:=ih h.tail hs
    omega
end Go.Dn

namespace Go.Dn
open Go
def dst (i b k:Int):Int:=(k - i) * b
def NextS (f:Form) (i b:Int) (r:Int × Bool):Prop:=(r.2 = true∧0≤dst i b r.1∧ZB r.1∧ZJ f r.1 ≠ []∧∀ k,0≤dst i b k→ZB k→ZJ f k ≠ []→dst i b r.1≤dst i b k)∨(r.2 = false∧r.1 = 0∧∀ k,0≤dst i b k→ZB k→ZJ f k = [])
end Go.Dn

namespace Go.Dn
open Go
end Go.Dn

namespace Go.Dn
open Go
def fullK (f:Form) (k:Nat):List (List Span):=(f.Core.take k).filter (fun l => decide (l.length > 0))
def ChainL (F:List (List Span)):Prop:=∀ (k:Nat) (a b:List Span),F[k]? = some a→F[k + 1]? = some b→lstT a < fstT b
end Go.Dn

namespace Go.Dn
open Go
def ordS (f:Form) (last:List Span):List Int→Prop
 | [] => True
 | x :: l => (ZB x∧fits f x)∧AheadA last (ZJ f x)∧ordS f (if ZJ f x = [] then last else ZJ f x) l
end Go.Dn

namespace Go.Dn
open Go
end Go.Dn

namespace Go.Dn
open Go
def bareG (i:Int):Granule:=⟨i,[]⟩
end Go.Dn

namespace Go.Dn
open Go
def Z7X (l:List Span):Prop:=l.Pairwise (fun x y => x.To + 1 < y.From)∧∀ s ∈ l,s.From≤s.To
theorem normL_nil:Z7X []:=⟨List.Pairwise.nil,fun s h => by cases h⟩
theorem normL_init {o:List Span} {y:Span} (h:Z7X (o ++ [y])):Z7X o∧y.From≤y.To∧∀ s ∈ o,s.To + 1 < y.From:=by
 obtain ⟨p1,p2,p3⟩:=List.pairwise_append.1 h.1
 exact ⟨⟨p1,fun s hs => h.2 s (Yb _ hs)⟩,h.2 y (by simp),fun s hs => p3 s hs y (by simp)⟩
theorem hasT_app {a b:List Span} {t:Int}:hasT (a ++ b) t ↔ hasT a t∨hasT b t:=by
 unfold hasT
 constructor
 ·rintro ⟨u,hu,h⟩
  rcases List.mem_append.1 hu with hu | hu
  ·exact .inl ⟨u,hu,h⟩
  ·exact .inr ⟨u,hu,h⟩
 ·rintro (⟨u,hu,h⟩ | ⟨u,hu,h⟩)
  ·exact ⟨u,Yb _ hu,h⟩
  ·exact ⟨u,Ym _ hu,h⟩
theorem hasT_cons {x:Span} {b:List Span} {t:Int}:hasT (x :: b) t ↔ (x.From≤t∧t≤x.To)∨hasT b t:=by
 unfold hasT
 constructor
 ·rintro ⟨u,hu,h⟩
  rcases List.mem_cons.1 hu with rfl | hu
  ·exact .inl h
  ·exact .inr ⟨u,hu,h⟩
 ·rintro (h | ⟨u,hu,h⟩)
  ·exact ⟨x,YO,h⟩
  ·exact ⟨u,YL _ hu,h⟩
theorem hasT_nil {t:Int}:¬ hasT [] t:=fun ⟨u,hu,_⟩ => by cases hu
theorem Z5U:∀ {l:List Span},RightL l→Z7X l
 | [],_ => normL_nil
 | x :: l,h => by
  obtain ⟨p1,p2⟩:=Z5U h.tail
  refine ⟨List.pairwise_cons.2 ⟨fun y hy => ?_,p1⟩,fun s hs => ?_⟩
  ·have h1:=(Z5s h.tail hy).1
   cases l with
   | nil => cases hy
   | cons z l =>
    have h2:=h.gap 0 x z rfl rfl
    have h3:fstT (z :: l) = z.From:=rfl
    omega
  ·rcases List.mem_cons.1 hs with rfl | hs
   ·exact (h.ok 0 _ rfl).2.2
   ·exact p2 s hs
theorem glue_norm {a b:List Span} (ha:Z7X a) (hb:Z7X b) (ho:∀ x ∈ a,∀ y ∈ b,x.To < y.From):Z7X (glue a b)∧∀ t,hasT (glue a b) t ↔ hasT a t∨hasT b t:=by
 by_cases h:a = []
 ·subst h;rw [Z38];exact ⟨hb,fun t => ⟨.inr,fun h => h.resolve_left hasT_nil⟩⟩
 obtain ⟨a',x,rfl⟩:=Z4l h
 cases b with
 | nil =>
  rw [Z41];exact ⟨ha,fun t => ⟨.inl,fun h => h.resolve_right hasT_nil⟩⟩
 | cons s l =>
  obtain ⟨q1,q2,q3⟩:=normL_init ha
  obtain ⟨b1,b2⟩:=List.pairwise_cons.1 hb.1
  have hs:=hb.2 s YO
  have hxs:=ho x (by simp) s YO
  have hl:∀ y ∈ l,y.From≤y.To:=fun y hy => hb.2 y (YL _ hy)
  rw [Z2E];unfold seam
  by_cases hc:s.From = x.To + 1
  ·rw [if_pos hc];refine ⟨⟨List.pairwise_append.2 ⟨q1.1,List.pairwise_cons.2 ⟨b1,b2⟩,fun p hp q hq => ?_⟩,fun p hp => ?_⟩,fun t => ?_⟩
   ·have h1:=q3 p hp
    rcases List.mem_cons.1 hq with rfl | hq
    ·exact h1
    ·have:=b1 q hq;omega
   ·rcases List.mem_append.1 hp with hp | hp
    ·exact q1.2 p hp
    ·rcases List.mem_cons.1 hp with rfl | hp
     ·show x.From≤s.To;omega
     ·exact hl p hp
   ·have:(x.From≤t∧t≤s.To) ↔ (x.From≤t∧t≤x.To)∨(s.From≤t∧t≤s.To):=by omega
    simp only [hasT_app,hasT_cons,hasT_nil,or_false,or_assoc,this]
  ·rw [if_neg hc];have e:a' ++ ([x,s] ++ l) = (a' ++ [x]) ++ (s :: l):=by simp
   rw [e];refine ⟨⟨List.pairwise_append.2 ⟨ha.1,hb.1,fun p hp q hq => ?_⟩,fun p hp => ?_⟩,fun t => hasT_app⟩
   ·have hpx:p.To + 1 < x.From∨p = x:=by
     rcases List.mem_append.1 hp with hp | hp
     ·exact .inl (q3 p hp)
     ·rw [YE] at hp;exact .inr hp
    have hqs:s.To + 1 < q.From∨q = s:=by
     rcases List.mem_cons.1 hq with hq | hq
     ·exact .inr hq
     ·exact .inl (b1 q hq)
    rcases hpx with h1 | rfl <;> rcases hqs with h2 | rfl <;> omega
   ·rcases List.mem_append.1 hp with hp | hp
    ·exact ha.2 p hp
    ·exact hb.2 p hp
theorem glue_to {a b:List Span} {x:Span} (h:x ∈ glue a b):(∃ s ∈ a,s.To = x.To)∨∃ s ∈ b,s.To = x.To:=by
 by_cases ha:a = []
 ·subst ha;rw [Z38] at h;exact .inr ⟨x,h,rfl⟩
 obtain ⟨a',y,rfl⟩:=Z4l ha
 cases b with
 | nil => rw [Z41] at h;exact .inl ⟨x,h,rfl⟩
 | cons s l =>
  rw [Z2E] at h
  rcases List.mem_append.1 h with h | h
  ·exact .inl ⟨x,Yb _ h,rfl⟩
  ·rcases List.mem_append.1 h with h | h
   ·unfold seam at h
    split at h
    ·rw [YE] at h;subst h;exact .inr ⟨s,YO,rfl⟩
    ·rcases List.mem_cons.1 h with rfl | h
     ·exact .inl ⟨x,by simp,rfl⟩
     ·rw [YE] at h;subst h;exact .inr ⟨x,YO,rfl⟩
   ·exact .inr ⟨x,YL _ h,rfl⟩
theorem gl_to {h:Int→List Span} {a:Int} {x:Span}:∀ {n:Nat},x ∈ gl h a n→∃ j:Nat,j < n∧∃ s ∈ h (a + j),s.To = x.To
 | 0,hx => by cases hx
 | n + 1,hx => by
  rcases glue_to hx with ⟨s,hs,e⟩ | ⟨s,hs,e⟩
  ·obtain ⟨j,h1,u,h2,h3⟩:=gl_to hs
   exact ⟨j,by omega,u,h2,by rw [h3,e]⟩
  ·exact ⟨n,by omega,s,hs,e⟩
end Go.Dn

namespace Go.Dn
open Go
abbrev UnS:=((List Span) × (List Span) × (List Span) × Int × Bool) × Nat
noncomputable def unStep:Bool × Bool × UnS→Option ((Bool × Bool × UnS) ⊕ Jx UnS UnS) :=
 Z3f.s0 (S:=UnS) (fun s => s.1.2.2.1) (fun s v => ((s.1.1,s.1.2.1,v,s.1.2.2.2.1,s.1.2.2.2.2),s.2)) (fun s => s.1.2.1) (fun s v => ((s.1.1,v,s.1.2.2.1,s.1.2.2.2.1,s.1.2.2.2.2),s.2)) (Z1O (Z72.b0 (fun z0 z1 => some (Z8x z0 z1))))
def unSt (iA iB:Bool) (out a b:List Span) (f:Int) (i:Bool):Bool × Bool × UnS:=(iA,iB,((out,b,a,f,i),0))
noncomputable def unAt (iA iB:Bool) (a b:List Span):Option Int :=
 bif ((a.length:Int) == 0) then (Z11 b iB).bind fun x1 => some x1
 else (bif ((b.length:Int) == 0) then (Z11 a iA).bind fun x2 => some x2
  else (Z11 a iA).bind fun x3 => (Z11 b iB).bind fun x4 => some (iMin x3 x4))
theorem un_go {s s':Bool × Bool × UnS} (h:unStep s = some (.inl s')):loopO unStep s = loopO unStep s':=by
 rw [Z6h,h]
def UnEnds (s:Bool × Bool × UnS) (out:List Span):Prop:=∃ f i,loopO unStep s = some (.go ((out,[],[],f,i),0))
theorem UnEnds.step {s s':Bool × Bool × UnS} {out:List Span} (h:unStep s = some (.inl s')) (h2:UnEnds s' out):UnEnds s out:=by
 obtain ⟨f,i,e⟩:=h2
 exact ⟨f,i,by rw [un_go h];exact e⟩
theorem norm_tail {s:Span} {l:List Span} (h:Z7X (s :: l)):Z7X l∧s.From≤s.To∧∀ t ∈ l,s.To + 1 < t.From :=
 ⟨⟨(List.pairwise_cons.1 h.1).2,fun x hx => h.2 x (YL _ hx)⟩,h.2 s YO,(List.pairwise_cons.1 h.1).1⟩
end Go.Dn

namespace Go.Dn
open Go
noncomputable def shapeRun (k:Int):Bool :=
 match Z12 Z3 k with
 | some (g,e) => (e == 0) && (match Zn Z3 g with
   | some (b,n,e) => (b == [0]) && (n == k) && (e == 0)
   | none => false) && (match Z0t Z3 g (1 - k) 1 3 with
   | some (_,e) => e == 0
   | none => false)
 | none => false
noncomputable def halfRun:Bool :=
 match Zn Z3 (Form.mk 2 Z3.Count Z3.Core Z3.Odd) with
 | some (_,_,e) => e == 51
 | none => false
theorem half_runs:halfRun = true:=by kernel_rfl
theorem half_parts:∃ x,ZK Z3 (Form.mk 2 Z3.Count Z3.Core Z3.Odd) = some x∧x.2.2 = 51:=by
 have h:=half_runs
 unfold halfRun at h
 cases hp:Zn Z3 (Form.mk 2 Z3.Count Z3.Core Z3.Odd) with
 | none => rw [hp] at h;cases h
 | some x =>
  obtain ⟨a,b,e⟩:=x
  rw [hp] at h;exact ⟨_,Z4g _ hp,eq_of_beq h⟩
end Go.Dn

namespace Go.Dn
open Go
def Z2F (f:Form):Prop:=0 < f.Count∧f.Odd = []∧∀ l ∈ f.Core,l ≠ []
theorem whole_eq {f:Form} (hl:Lim f):∃ b,Z0Q f = some b∧(b = true ↔ Z2F f):=by
 have hcl:(f.Core.length:Int) < 4611686018427387904:=Z32 (b:=23) hl.core
 unfold Z0Q
 rcases Z3Z (l:=f.Core) (step:=Z0Q.s0 f) (good:=fun _ l => l ≠ []) (no:=.ret false) (yes:=.go ()) (fun k x hx _ => by
  obtain ⟨hk,rfl⟩:=List.getElem?_eq_some_iff.1 hx
  unfold Z0Q.s0;rw [ZU (show (k:Int) < f.Core.length by omega),cond_true,at?_nat hk]
  simp only [Y0]
  by_cases hn:f.Core[k] = []
  ·right
   rw [hn];exact ⟨rfl,fun h => h rfl⟩
  ·left
   have:=List.length_pos_iff.2 hn
   rw [Z4H (by omega),cond_false,ZF (by omega)]
   exact ⟨rfl,hn⟩) (by
  unfold Z0Q.s0;rw [ZZ (by omega),cond_false]) with ⟨e,h⟩ | ⟨e,h⟩
 ·rw [e];refine ⟨_,rfl,?_⟩;unfold Z2F;have hall:∀ l ∈ f.Core,l ≠ []:=fun l hl' => by
   obtain ⟨k,hk⟩:=YC hl'
   exact h k l hk
  rw [Y9,decide_eq_true_iff,beq_iff_eq]
  constructor
  ·rintro ⟨h1,h2⟩;exact ⟨h1,Y0L (by omega),hall⟩
  ·rintro ⟨h1,h2,_⟩;exact ⟨h1,by rw [h2];rfl⟩
 ·rw [e];refine ⟨false,rfl,fun h' => (by cases h'),fun h' => ?_⟩
  exact absurd (fun k x hx => h'.2.2 x (Y6 hx)) h
theorem Z1k {f:Form} (hs:Shape f) (hw:Z2F f) (i:Int):csz f i ≠ []:=by
 have h0:f.Count ≠ 0:=by have:=hw.1;omega
 rw [Z15 hw.1]
 unfold cs
 intro h
 exact hw.2.2 _ (Z01 hs h0 i).2 (List.map_eq_nil_iff.1 h)
theorem Z6q {f:Form} (hs:Shape f) {i:Int} (t:Z0a (csz f i)):RightL (csz f i):=by
 by_cases h0:f.Count = 0
 ·have:csz f i = []:=if_pos h0
  rw [this];exact ⟨by simp,by simp⟩
 ·have e:csz f i = (Z04 f i).map (ZS (i / f.Count * f.Period)):=by rw [Z15 (by have:=hs.count;omega)];rfl
  rw [e] at t ⊢;refine (hs.core _ (Z01 hs h0 _).2).shift fun s hs' => ?_
  exact t _ (List.mem_map.2 ⟨s,hs',rfl⟩)
open Classical in
theorem raw_exact {f:Form} (hl:Lim f) (hs:Shape f) {i:Int} (hi:In64 i):Z0m f i = some (if Z0a (csz f i) then (csz f i,0) else ([],20)):=by
 have hcnt:=hs.count
 have t0:Z0a []:=fun s h => by cases h
 unfold Z0m
 by_cases h0:f.Count = 0
 ·have e:csz f i = []:=if_pos h0
  rw [Z8y h0,cond_true,e,if_pos t0]
 ·have hp:0 < f.Count:=by omega
  rw [Z4H h0,cond_false,Z2r hi hl.count,Z4R hp];simp only [Y0];obtain ⟨c1,c2⟩:=Z01 hs h0 i
  rw [c1];simp only [Y0];have hcsz:csz f i = (Z04 f i).map (ZS (i / f.Count * f.Period)):=by rw [Z15 hp];rfl
  by_cases hn:Z04 f i = []
  ·rw [hcsz,hn];rw [if_pos (show Z0a (List.map (ZS (i / f.Count * f.Period)) []) from t0)]
   rfl
  ·have hlen:¬ ((Z04 f i).length:Int) = 0:=by have:=List.length_pos_iff.2 hn;omega
   rw [Z4H hlen,cond_false];have hq:In64 (i / f.Count):=by
    unfold In64 at hi ⊢;have q1:i / f.Count≤9223372036854775807:=Y0G hp (by
     have:(9223372036854775807:Int) * 1≤9223372036854775807 * f.Count:=YF (by omega) (by decide)
     omega)
    have q2 : -9223372036854775808≤i / f.Count:=Y0H hp (by
     have:(9223372036854775808:Int) * 1≤9223372036854775808 * f.Count:=YF (by omega) (by decide)
     omega)
    exact ⟨q2,q1⟩
   have hsl:=hl.sets _ c2
   have hiff:Z0a (csz f i) ↔ ∀ s ∈ Z04 f i,ZB (s.From + i / f.Count * f.Period)∧ZB (s.To + i / f.Count * f.Period):=by
    rw [hcsz]
    constructor
    ·intro h s hs';exact h _ (List.mem_map.2 ⟨s,hs',rfl⟩)
    ·intro h s hs';obtain ⟨x,hx,rfl⟩:=List.mem_map.1 hs'
     exact h x hx
   rw [Z3s hq hl.period]
   rcases Z7x (i / f.Count * f.Period) with ⟨f1,f2⟩ | ⟨f1,f2⟩
   ·rw [f2];simp only [bne_self_eq_false,Y0M,cond_false]
    rcases Z4m hsl.1 hsl.2 f1 with ⟨m1,m2⟩ | ⟨m1,m2⟩
    ·rw [m2,if_pos (hiff.2 m1),hcsz];rfl
    ·rw [m2,if_neg (fun h => m1 (hiff.1 h))];rfl
   ·rw [f2,if_neg]
    ·rfl
    ·intro h;rw [hiff] at h;obtain ⟨s0,hs0⟩:=List.exists_mem_of_ne_nil _ hn
     obtain ⟨k,hk⟩:=YC hs0
     have h1:=((hs.core _ c2).ok k s0 hk).1
     have h2:=(h s0 hs0).1
     unfold ZB at h1 h2;unfold In64 at f1;omega
theorem norm_len {hi:Int}:∀ {l:List Span} {lo:Int},Z7X l→(∀ s ∈ l,lo≤s.From∧s.To≤hi)→l = []∨(l.length:Int)≤hi - lo + 1
 | [],_,_,_ => .inl rfl
 | x :: l,lo,hn,h => by
  obtain ⟨n1,n2,n3⟩:=norm_tail hn
  have hx:=h x YO
  right
  have hlen:(((x :: l).length:Nat):Int) = (l.length:Int) + 1:=by simp
  rcases norm_len (lo:=lo + 1) n1 (fun s hs => ⟨by have:=n3 s hs;omega,(h s (YL _ hs)).2⟩) with rfl | h2
  ·simp;omega
  ·omega
theorem tick_len {l:List Span} (hn:Z7X l) (ht:Z0a l):l.length≤2199023255553:=by
 rcases norm_len (lo:=-1099511627776) (hi:=1099511627776) hn (fun s hs => by have:=ht s hs;unfold ZB at this;omega) with rfl | h
 ·simp
 ·omega
def AllT (f:Form) (a:Int) (n:Nat):Prop:=∀ j:Nat,j < n→Z0a (csz f (a + j))
theorem gl_norm {f:Form} (hs:Shape f) (ht:Turns f) (a:Int):∀ {n:Nat},AllT f a n→Z7X (gl (csz f) a n)∧Z0a (gl (csz f) a n)
 | 0,_ => ⟨normL_nil,fun s h => by cases h⟩
 | n + 1,h => by
  obtain ⟨h1,h2⟩:=gl_norm hs ht a (n:=n) fun j hj => h j (by omega)
  have tn:=h n (by omega)
  have rn:=Z6q hs tn
  refine ⟨(glue_norm h1 (Z5U rn) fun x hx y hy => ?_).1,ZCF h2 tn⟩
  obtain ⟨j,j1,s,s1,s2⟩:=gl_to hx
  have rj:=Z6q hs (h j (by omega))
  have n1:csz f (a + (j:Int)) ≠ []:=List.ne_nil_of_mem s1
  have n2:csz f (a + (n:Int)) ≠ []:=List.ne_nil_of_mem hy
  have:=Z6d hs ht (show a + (j:Int) < a + n by omega) n1 n2
  have h3:=Z5s rj s1
  have h4:=Z5s rn hy
  omega
open Classical in
theorem Z7T {f:Form} (hl:Lim f) (hr:RightF f) (hnl:¬ Z5h f) (hw:Z2F f) {a b:Int} (ha:In64 a) (hb:In64 b) :
  Zo f a b = some (if AllT f a (b - a).toNat then (gl (csz f) a (b - a).toNat,0) else ([],20)):=by
 have hs:=hr.shape
 have hro:=Z3g
 unfold In64 at ha hb
 have hl60:∀ l ∈ f.Core,l.length≤60000:=fun l hl' => by
  have:=ZAW List.length hl'
  unfold Z5h Z5T at hnl;omega
 have hcl:∀ i,(csz f i).length≤60000:=fun i => by
  rw [Z15 hw.1];unfold cs;rw [YQ];exact hl60 _ (Z01 hs (by have:=hw.1;omega) i).2
 obtain ⟨r,q1,q2⟩:=Z0z (step:=Zo.s0 f b)
  (fun s => ∃ k:Nat,k≤(b - a).toNat∧s = (a + k,gl (csz f) a k)∧AllT f a k)
  (fun s => (b - s.1).toNat)
  (fun r => (r = .go (gl (csz f) a (b - a).toNat)∧AllT f a (b - a).toNat)∨(r = .ret ([],20)∧¬ AllT f a (b - a).toNat)) (by
   rintro s ⟨k,hk,rfl,hall⟩;unfold Zo.s0;simp only
   by_cases hlt:a + (k:Int) < b
   ·have hkn:k < (b - a).toNat:=by omega
    rw [ZU hlt,cond_true,raw_exact hl hs (i:=a + (k:Int)) (by unfold In64;omega)]
    by_cases tk:Z0a (csz f (a + (k:Int)))
    ·left
     rw [if_pos tk];simp only [Y0,bne_self_eq_false,cond_false];have hall':AllT f a (k + 1):=fun j hj => by
      by_cases hjk:j = k
      ·subst hjk;exact tk
      ·exact hall j (by omega)
     obtain ⟨g1,g2⟩:=gl_norm hs hr.turns a hall
     have gl1:=tick_len g1 g2
     have cl1:=hcl (a + k)
     have hne:=Z1k hs hw (a + k)
     have fin:∃ s':Int × List Span,(some (.inl (a + (k:Int) + 1,glue (gl (csz f) a k) (csz f (a + k)))):Option ((Int × List Span) ⊕ Jx (List Span) (List Span × Int))) = some (.inl s')∧(∃ k':Nat,k'≤(b - a).toNat∧s' = (a + k',gl (csz f) a k')∧AllT f a k')∧(b - s'.1).toNat < (b - (a + (k:Int))).toNat :=
      ⟨_,rfl,⟨k + 1,hkn,by push_cast;rw [← Int.add_assoc];rfl,hall'⟩,by simp only;omega⟩
     generalize hC:csz f (a + (k:Int)) = C at *
     generalize gl (csz f) a k = out at *
     obtain ⟨s,l,rfl⟩:=Y0S hne
     have hll:(s :: l).length = l.length + 1:=rfl
     by_cases ho:out = []
     ·subst ho;rw [ZF (x:=(([] : List Span).length:Int) - 1) (by simp),ZZ (show ¬ (([] : List Span).length:Int) - 1 ≥ 0 by simp),cond_false]
      simp only [Y0,cond_false];rw [app?_ok (by simp only [Yk];omega),ZF (x:=a + (k:Int) + 1) (by omega)]
      simp only [Y0,Jx.elim,Y0v];rw [Z38] at fin;exact fin
     ·obtain ⟨a',x,rfl⟩:=Z4l ho
      have hlen:((a' ++ [x]).length:Int) = a'.length + 1:=by simp
      have hlenN:(a' ++ [x]).length = a'.length + 1:=by simp
      have tx:=g2 x (by simp)
      unfold ZB at tx;rw [ZF (x:=((a' ++ [x]).length:Int) - 1) (by omega),ZU (show ((a' ++ [x]).length:Int) - 1 ≥ 0 by omega),cond_true]
      have e1:at? (s :: l) 0 = some s:=rfl
      have e2:at? (a' ++ [x]) (((a' ++ [x]).length:Int) - 1) = some x:=at?_last
      rw [e1];simp only [Y0];rw [e2];simp only [Y0];rw [ZF (x:=x.To + 1) (by omega)]
      rw [Z2E] at fin;unfold seam at fin
      by_cases hc:s.From = x.To + 1
      ·rw [Z8y hc];rw [if_pos hc] at fin;simp only [cond_true];have e3:cut? (s :: l) 1 (((s :: l).length:Nat):Int) = some l:=by
        unfold cut?;rw [if_pos (by rw [hll];omega)]
        simp
       rw [e3];simp only [Y0];have e4:(a' ++ [x]).set (((a' ++ [x]).length:Int) - 1).toNat (Span.mk x.From s.To) = a' ++ [Span.mk x.From s.To]:=by
        rw [hlen,show ((a'.length:Int) + 1 - 1).toNat = a'.length by omega]
        simp
       rw [e4,app?_ok (by
        have:(a' ++ [Span.mk x.From s.To]).length = a'.length + 1:=by simp
        omega),ZF (x:=a + (k:Int) + 1) (by omega)]
       simp only [Y0,Jx.elim];rw [Yz];exact fin
      ·rw [Z4H hc];rw [if_neg hc] at fin;simp only [cond_false,Y0];rw [app?_ok (by omega),ZF (x:=a + (k:Int) + 1) (by omega)]
       simp only [Y0,Jx.elim];rw [Yz];exact fin
    ·right
     rw [if_neg tk];exact ⟨_,rfl,.inr ⟨rfl,fun h => tk (h k hkn)⟩⟩
   ·right
    obtain rfl:k = (b - a).toNat:=by omega
    rw [ZZ hlt,cond_false];exact ⟨_,rfl,.inl ⟨rfl,hall⟩⟩) (a,[]) ⟨0,YV _,by simp [gl],fun j hj => absurd hj (Nat.not_lt_zero _)⟩
 unfold Zo
 rw [q1]
 rcases q2 with ⟨rfl,h⟩ | ⟨rfl,h⟩
 ·rw [if_pos h];rfl
 ·rw [if_neg h];rfl
end Go.Dn

namespace Go.Dn
open Go
theorem has_complete {l:List Span} (hr:RightL l) (hl:Len l) {t:Int} (h:hasT l t):Z4c l t = some true:=by
 have hlen:(l.length:Int) < 4611686018427387904:=by have:=Z1T;unfold Len at hl;omega
 have hnp:=List.pairwise_iff_getElem.1 (Z5U hr).1
 have hft:∀ (k:Nat) (hk:k < l.length),l[k].From≤l[k].To:=fun k hk => (Z5U hr).2 _ (YU hk)
 have hcmp:∀ s:Span,(Z1r s t < 0 ↔ s.To < t)∧(s.From≤t→t≤s.To→Z1r s t = 0):=fun s => by
  unfold Z1r
  by_cases q1:s.To < t
  ·rw [ZU q1,cond_true];exact ⟨by simp [q1],fun _ h => by omega⟩
  ·rw [ZZ q1,cond_false]
   by_cases q2:s.From > t
   ·rw [ZU q2,cond_true];exact ⟨by simp [q1],fun h => by omega⟩
   ·rw [ZZ q2,cond_false];exact ⟨by simp [q1],fun _ _ => rfl⟩
 obtain ⟨r,h1,p,rfl,hp,hlo,hhi⟩:=Z0z (step:=Z5.s0 l t (fun z0 z1 => some (Z1r z0 z1)))
  (I:=fun s => ∃ i j:Nat,s = ((i:Int),(j:Int))∧i≤j∧j≤l.length∧(∀ (k:Nat) (hk:k < l.length),k < i→l[k].To < t)∧∀ (k:Nat) (hk:k < l.length),j≤k→t≤l[k].To)
  (fun s => (s.2 - s.1).toNat)
  (fun r => ∃ p:Nat,r = (p:Int)∧p≤l.length∧(∀ (k:Nat) (hk:k < l.length),k < p→l[k].To < t)∧∀ (k:Nat) (hk:k < l.length),p≤k→t≤l[k].To) (by
  rintro s ⟨i,j,rfl,hij,hj,hlo,hhi⟩;unfold Z5.s0
  by_cases hlt:i < j
  ·have hm:w64 ((IntKind.u64.wrap (w64 ((i:Int) + j))).fdiv (2 ^ 1)) = ((i + j) / 2:Nat):=by
    rw [ZF (x:=(i:Int) + j) (by omega),Z5X,Y0Q _ (by decide),ZF (by omega)]
    omega
   have hml:(i + j) / 2 < l.length:=by omega
   simp only [hm];rw [ZU (show (i:Int) < j by omega),cond_true,at?_nat hml]
   simp only [Y0];refine .inl ?_
   by_cases hc:Z1r l[(i + j) / 2] t < 0
   ·rw [ZU hc];have hto:=(hcmp _).1.1 hc
    refine ⟨((((i + j) / 2 + 1:Nat):Int),(j:Int)),?_,⟨(i + j) / 2 + 1,j,rfl,by omega,hj,fun k hk hk2 => ?_,hhi⟩,by simp;omega⟩
    ·rw [ZF (by omega)];simp
    ·by_cases he:k = (i + j) / 2
     ·subst he;exact hto
     ·have:=hnp k ((i + j) / 2) hk hml (by omega)
      have:=hft ((i + j) / 2) hml
      omega
   ·rw [ZZ hc];have hto:¬ l[(i + j) / 2].To < t:=fun h => hc ((hcmp _).1.2 h)
    refine ⟨((i:Int),(((i + j) / 2:Nat):Int)),by simp,⟨i,(i + j) / 2,rfl,by omega,by omega,hlo,fun k hk hk2 => ?_⟩,by simp;omega⟩
    by_cases he:k = (i + j) / 2
    ·subst he;omega
    ·have:=hnp ((i + j) / 2) k hml hk (by omega)
     have:=hft k hk
     omega
  ·obtain rfl:i = j:=by omega
   exact .inr ⟨(i:Int),by rw [ZZ (show ¬ (i:Int) < i by omega)];rfl,i,rfl,by omega,hlo,hhi⟩) (0,(l.length:Int)) ⟨0,l.length,rfl,YV _,YB _,fun k hk h => absurd h (Nat.not_lt_zero _),fun k hk h => absurd hk (by omega)⟩
 obtain ⟨s,hs,s1,s2⟩:=h
 obtain ⟨q,hq,rfl⟩:=Yj hs
 have hqp:q = p:=by
  rcases Nat.lt_trichotomy q p with h | h | h
  ·have:=hlo q hq h;omega
  ·exact h
  ·have hpl:p < l.length:=by omega
   have:=hhi p hpl (YB _)
   have:=hnp p q hpl hq h
   omega
 subst hqp
 unfold Z4c Z5
 rw [h1]
 simp only [Y0]
 rw [ZU (show (q:Int) < l.length by omega),cond_true,at?_nat hq]
 simp only [Y0,Bool.and_true]
 rw [(hcmp l[q]).2 s1 s2,ZU (show (q:Int) < l.length by omega)]
 rfl
theorem Z6J {f:Form} (hw:Z2F f) (i:Int):ZJ f i = csz f i :=
 Z2q fun ⟨g,hg,_⟩ => by rw [hw.2.1] at hg;cases hg
def upIx (f:Form) (t:Int) (r:Nat):Int:=-((lstT (f.Core.getD r []) - t) / f.Period) * f.Count + r
theorem upIx_at {f:Form} (hs:Shape f) (hw:Z2F f) {r:Nat} (hr:r < f.Core.length) (t:Int) :
  lstT (csz f (upIx f t r)) ≥ t∧lstT (csz f (upIx f t r - f.Count)) < t:=by
 have h0:f.Count ≠ 0:=by have:=hw.1;omega
 have hcnt:=hs.count
 have hP:0 < f.Period:=by
  have h1:f.Period ≠ 0:=fun h => h0 (hs.zero.2 h)
  have:=hs.per
  omega
 have core:∀ q:Int,csz f (q * f.Count + r) = (f.Core.getD r []).map (ZS (q * f.Period)):=fun q => by
  rw [Z15 hw.1];have e1:(q * f.Count + (r:Int)) / f.Count = q:=by
   rw [Int.add_comm,Int.add_mul_ediv_right _ _ h0,Int.ediv_eq_zero_of_lt (by omega) (by omega),Int.zero_add]
  have e2:(q * f.Count + (r:Int)) % f.Count = r:=by
   rw [Int.add_comm,Int.add_mul_emod_self_right,Int.emod_eq_of_lt (by omega) (by omega)]
  unfold cs Z04 Z4N;rw [e1,e2,Y0U]
 have hne:f.Core.getD r [] ≠ []:=by
  rw [YD,Y2 hr];exact hw.2.2 _ (YU hr)
 unfold upIx
 generalize hL:lstT (f.Core.getD r []) = Lr
 have d1:=Yd (Lr - t) f.Period
 have d2:=Yf (Lr - t) (show f.Period ≠ 0 by omega)
 have d3:=Yh (Lr - t) hP
 generalize hq:(Lr - t) / f.Period = q at *
 have e3 : -q * f.Count + (r:Int) - f.Count = (-q - 1) * f.Count + r:=by rw [Int.sub_mul,Y0y];omega
 rw [e3,core,core,(Z1h _ hne).1,(Z1h _ hne).1,hL]
 have e4:(-q - 1) * f.Period = -q * f.Period - f.Period:=by rw [Int.sub_mul,Y0y]
 have e5 : -q * f.Period = -(f.Period * q):=by rw [Int.neg_mul,Y04]
 rw [e4,e5]
 omega
theorem place_eq {f:Form} (hl:Lim f) (hr:RightF f) (hw:Z2F f) (h12:f.Core.length≤6000) {i t:Int} (ht:Z0a (csz f i)) (h:hasT (csz f i) t) :
  Z6 f t = some (i,true):=by
 have hs:=hr.shape
 have h0:f.Count ≠ 0:=by have:=hw.1;omega
 have hcnt:=hs.count
 have hper:=hs.per
 have hP:0 < f.Period:=by
  have h1:f.Period ≠ 0:=fun h => h0 (hs.zero.2 h)
  omega
 have rt:=Z6q hs ht
 obtain ⟨s,hs1,t1,t2⟩:=h
 have hse:=Z5s rt hs1
 have hst:=ht s hs1
 have htk:ZB t:=by unfold ZB at hst ⊢;omega
 have ge:∀ r,r < f.Core.length→i≤upIx f t r:=fun r hr' => by
  rcases Y0g (upIx f t r) i with hlt | hge
  ·exfalso
   have h1:=(upIx_at hs hw hr' t).1
   have:=Z6d hs hr.turns hlt (Z1k hs hw _) (Z1k hs hw _)
   omega
  ·exact hge
 have i0:=Yf i h0
 have i1:=Yh i hw.1
 have le:upIx f t (i % f.Count).toNat≤i:=by
  have hr':(i % f.Count).toNat < f.Core.length:=by omega
  rcases Y0g i (upIx f t (i % f.Count).toNat) with hlt | hge
  ·exfalso
   have h2:=(upIx_at hs hw hr' t).2
   -- one turn less is not below i
   have hmod:(upIx f t (i % f.Count).toNat) % f.Count = i % f.Count:=by
    unfold upIx;rw [Int.add_comm,Int.add_mul_emod_self_right,Yx i0,Int.emod_emod_of_dvd _ (Int.dvd_refl _)]
   have hge2:i≤upIx f t (i % f.Count).toNat - f.Count:=by
    have d1:=Yd i f.Count
    have d2:=Yd (upIx f t (i % f.Count).toNat) f.Count
    rw [hmod] at d2;have hq:i / f.Count < (upIx f t (i % f.Count).toNat) / f.Count:=by
     rcases Y0g (i / f.Count) ((upIx f t (i % f.Count).toNat) / f.Count) with h | h
     ·exact h
     ·have:=YF h (show 0≤f.Count by omega)
      omega
    have:=YF (show i / f.Count + 1≤(upIx f t (i % f.Count).toNat) / f.Count by omega) (show 0≤f.Count by omega)
    rw [Int.mul_add,Int.mul_one] at this;omega
   rcases Int.lt_or_eq_of_le hge2 with h3 | h3
   ·have:=Z6d hs hr.turns h3 (Z1k hs hw _) (Z1k hs hw _)
    have hfl:fstT (csz f (upIx f t (i % f.Count).toNat - f.Count))≤lstT (csz f (upIx f t (i % f.Count).toNat - f.Count)):=by
     have e:csz f (upIx f t (i % f.Count).toNat - f.Count) = (Z04 f (upIx f t (i % f.Count).toNat - f.Count)).map (ZS ((upIx f t (i % f.Count).toNat - f.Count) / f.Count * f.Period)):=by rw [Z15 hw.1];rfl
     have hne:Z04 f (upIx f t (i % f.Count).toNat - f.Count) ≠ []:=hw.2.2 _ (Z01 hs h0 _).2
     rw [e,(Z1h _ hne).1,(Z1h _ hne).2];have:=Z4Y (hs.core _ (Z01 hs h0 (upIx f t (i % f.Count).toNat - f.Count)).2) hne
     omega
    omega
   ·rw [← h3] at h2;omega
  ·exact hge
 have bnd:∀ r,r < f.Core.length→-6597069766656 * 6000 - 6000≤upIx f t r∧upIx f t r≤6597069766656 * 6000 + 6000:=fun r hr' => by
  unfold upIx;have hm:f.Core.getD r [] ∈ f.Core:=by
   rw [YD,Y2 hr'];exact YU hr'
  have hlt:=(ZA0 (hs.core _ hm) (hw.2.2 _ hm)).1
  unfold ZB at hlt htk;have q1:(lstT (f.Core.getD r []) - t) / f.Period≤2199023255552:=Y0G hP (by
   have:(2199023255552:Int) * 1≤2199023255552 * f.Period:=YF (by omega) (by decide)
   omega)
  have q2 : -2199023255552≤(lstT (f.Core.getD r []) - t) / f.Period:=Y0H hP (by
   have:(2199023255552:Int) * 1≤2199023255552 * f.Period:=YF (by omega) (by decide)
   omega)
  generalize (lstT (f.Core.getD r []) - t) / f.Period = q at *
  have m1 : -q * f.Count≤2199023255552 * f.Count:=YM (by omega) (by omega)
  have m2 : -2199023255552 * f.Count≤-q * f.Count:=YM (by omega) (by omega)
  omega
 obtain ⟨r,q1,q2⟩:=Z0z (step:=Z6.s0 f t)
  (I:=fun s => ∃ k:Nat,s.2.2 = (k:Int)∧k≤f.Core.length∧((k = 0∧s.1 = 0∧s.2.1 = false)∨(s.2.1 = true∧(∃ r,r < k∧s.1 = upIx f t r)∧∀ r,r < k→s.1≤upIx f t r)))
  (fun s => f.Core.length - s.2.2.toNat) (fun r => r = (i,true)) (by
  rintro ⟨at',ok,idx⟩ ⟨k,hk,hle,hinv⟩;simp only at hk hinv;subst hk;unfold Z6.s0;simp only
  by_cases hlt:k < f.Core.length
  ·refine .inl ?_;have hm:=YU hlt
   have hn:=hw.2.2 _ hm
   have hgd:f.Core.getD k [] = f.Core[k]:=by rw [YD,Y2 hlt];rfl
   rw [ZU (show (k:Int) < f.Core.length by omega),cond_true,at?_nat hlt]
   simp only [Y0];rw [hull_eq (hl.sets _ hm).1,if_neg hn];simp only [Y0,Ya,cond_false];have hw1:w64 ((k:Int) + 1) = ((k + 1:Nat):Int):=by rw [ZF (by omega)];push_cast;rfl
   have hbk:=bnd k hlt
   have hlt1:=(ZA0 (hs.core _ hm) hn).1
   unfold ZB at hlt1 htk;unfold Z8L;simp only;rw [ZF (x:=lstT f.Core[k] - t) (by omega),Z2r (by unfold In64;omega) hl.period,Z4R hP]
   simp only [Y0];have hix:upIx f t k = -((lstT f.Core[k] - t) / f.Period) * f.Count + k:=by unfold upIx;rw [hgd]
   have qb1:(lstT f.Core[k] - t) / f.Period≤2199023255552:=Y0G hP (by
    have:(2199023255552:Int) * 1≤2199023255552 * f.Period:=YF (by omega) (by decide)
    omega)
   have qb2 : -2199023255552≤(lstT f.Core[k] - t) / f.Period:=Y0H hP (by
    have:(2199023255552:Int) * 1≤2199023255552 * f.Period:=YF (by omega) (by decide)
    omega)
   rw [ZF (x:=0 - (lstT f.Core[k] - t) / f.Period) (by omega),Int.zero_sub,ZF (x:=-((lstT f.Core[k] - t) / f.Period) * f.Count) (by omega),ZF (x:=-((lstT f.Core[k] - t) / f.Period) * f.Count + (k:Int)) (by omega),← hix]
   rcases hinv with ⟨rfl,rfl,rfl⟩ | ⟨rfl,⟨r1,hr1,rfl⟩,hall⟩
   ·simp only [Y0c,Bool.true_or,cond_true,Y0,Jx.elim];refine ⟨_,rfl,⟨0 + 1,hw1,hlt,.inr ⟨rfl,⟨0,by omega,rfl⟩,fun r hr' => ?_⟩⟩,by simp only [hw1];omega⟩
    obtain rfl:r = 0:=by omega
    exact Y0B _
   ·have hb1:=bnd r1 (by omega)
    rw [ZF (x:=upIx f t k - upIx f t r1) (by omega),Int.mul_one,ZF (x:=upIx f t k - upIx f t r1) (by omega)]
    by_cases hcm:upIx f t k - upIx f t r1 < 0
    ·rw [ZU hcm];simp only [Bool.or_true,cond_true,Y0,Jx.elim];refine ⟨_,rfl,⟨k + 1,hw1,hlt,.inr ⟨rfl,⟨k,by omega,rfl⟩,fun r hr' => ?_⟩⟩,by simp only [hw1];omega⟩
     by_cases hrk:r = k
     ·subst hrk;exact Y0B _
     ·have:=hall r (by omega)
      simp only;omega
    ·rw [ZZ hcm];simp only [Ya,Y0M,cond_false,Y0,Jx.elim];refine ⟨_,rfl,⟨k + 1,hw1,hlt,.inr ⟨rfl,⟨r1,by omega,rfl⟩,fun r hr' => ?_⟩⟩,by simp only [hw1];omega⟩
     by_cases hrk:r = k
     ·subst hrk;simp only;omega
     ·exact hall r (by omega)
  ·refine .inr ⟨(at',ok),?_,?_⟩
   ·rw [ZZ (show ¬ (k:Int) < f.Core.length by omega),cond_false]
   ·rcases hinv with ⟨rfl,_,_⟩ | ⟨rfl,⟨r1,hr1,rfl⟩,hall⟩
    ·exfalso;omega
    ·have h1:=ge r1 (by omega)
     have h2:=hall (i % f.Count).toNat (by omega)
     rw [show upIx f t r1 = i by omega]) (0,false,0) ⟨0,rfl,YV _,.inl ⟨rfl,rfl,rfl⟩⟩
 unfold Z6
 rw [q1,q2]
 rfl
theorem find_At_whole {f:Form} (hl:Lim f) (hr:RightF f) (hw:Z2F f) (h12:f.Core.length≤6000) {i t:Int} (hi:ZB i) (ht:Z0a (csz f i)) (h:hasT (csz f i) t):Z4n f t = some (i,true):=by
 have hs:=hr.shape
 have hset:=Z6J hw i
 have hfit:fits f i:=by unfold fits;rw [hset];exact ht
 have hne:=Z1k hs hw i
 have hpl:=place_eq hl hr hw h12 ht h
 have htk:ZB t:=by
  obtain ⟨s,hs1,t1,t2⟩:=h
  have:=ht s hs1
  unfold ZB at this ⊢;omega
 have hclamp:iMax (iMin t 1099511627777) (-1099511627777) = t:=by
  unfold ZB at htk;rw [iMax_eq,iMin_eq];omega
 have hform:Form.mk f.Period f.Count f.Core [] = f:=by
  rw [form_ext];exact ⟨rfl,rfl,rfl,hw.2.1.symm⟩
 have ti:=hi
 unfold ZB at ti
 have hget:=Z52 hl hs (i:=i) (Z25 hi)
 rw [if_pos ⟨hi,hfit⟩,hset] at hget
 have hplain:Z1 f t = some (i,true):=by
  unfold Z1;rw [hpl];simp only [Y0,Ya,cond_false];have e1:loopO (Z1.s0 f) (0,[]) = some []:=by
   rw [Z6h];unfold Z1.s0;rw [hw.2.1]
   rfl
  rw [e1];simp only [Y0];rw [hform,ZF (x:=i - 1) (by omega)]
  obtain ⟨r,e2,ha⟩:=Z4A hl hs (i:=i - 1) (by unfold In64;omega)
  have hri:r = (i,true):=by
   rcases ha with ⟨h1,h2,h3,h4,h5⟩ | ⟨h1,h2,h3⟩
   ·have h6:r.1 = i:=by
     rcases Int.lt_trichotomy r.1 i with h | h | h
     ·omega
     ·exact h
     ·have:=h5 i (by omega) h hi
      rw [hset] at this;exact absurd this hne
    obtain ⟨a,b⟩:=r
    simp only at h1 h6;rw [h1,h6]
   ·have:=h3 i (by omega) hi
    rw [hset] at this;exact absurd this hne
  rw [e2,hri];simp only [Y0];have e3:loopO (Z1.s1 f []) (i,true,0) = some (.ret (i,true)):=by
   rw [Z6h];unfold Z1.s1;rw [hform];simp only [hget,Y0]
   rfl
  rw [e3]
  rfl
 unfold Z4n Z5R Z9
 rw [hclamp,hplain]
 simp only [Y0]
 have e4:loopO (Z9.s0 f t) (i,true,0) = some (i,true):=by
  rw [Z6h];unfold Z9.s0;rw [hw.2.1]
  rfl
 rw [e4]
 simp only [Y0,Ya,cond_false]
 rw [hget]
 simp only [Y0]
 have hlen:Len (csz f i):=by rw [← hset];exact Z6u hl hs i
 rw [has_complete (Z6q hs ht) hlen h]
 rfl
end Go.Dn

namespace Go.Dn
open Go
theorem per_pos {f:Form} (hs:Shape f) (hw:Z2F f):0 < f.Period:=by
 have h0:f.Count ≠ 0:=by have:=hw.1;omega
 have h1:f.Period ≠ 0:=fun h => h0 (hs.zero.2 h)
 have:=hs.per
 omega
theorem turn14_eq {f C:Form} (hlf:Lim f) (hsf:Shape f) (hwf:Z2F f) (hlC:Lim C) (hsC:Shape C) (hwC:Z2F C) :
  Z3m f C = some (0,0,3)∨∃ a b:Int,1≤a∧1≤b∧a * C.Period = b * f.Period∧Z3m f C = some (C.Count * a,f.Count * b,0)∧C.Count * a≤6000∧f.Count * b≤60000:=by
 have pf:=per_pos hsf hwf
 have pC:=per_pos hsC hwC
 have hpf:=hsf.per
 have hpC:=hsC.per
 have cf:=hwf.1
 have cC:=hwC.1
 unfold Z3m
 rw [ZBG hlf.period hlC.period]
 unfold lcmS
 rw [if_neg (by omega)]
 obtain ⟨P,hP⟩ : ∃ P:Nat,f.Period = P:=⟨f.Period.toNat,by omega⟩
 obtain ⟨Q,hQ⟩ : ∃ Q:Nat,C.Period = Q:=⟨C.Period.toNat,by omega⟩
 rw [hP] at pf hpf
 rw [hQ] at pC hpC
 rw [hP,hQ]
 simp only [Int.natAbs_natCast,Y0]
 have g0:0 < Nat.gcd P Q:=Nat.gcd_pos_of_pos_left _ (by omega)
 obtain ⟨u,hu⟩:=Nat.gcd_dvd_left P Q
 obtain ⟨v,hv⟩:=Nat.gcd_dvd_right P Q
 generalize Nat.gcd P Q = g at *
 have e1:P / g = u:=by rw [hu];exact Nat.mul_div_cancel_left u g0
 have u1:1≤u:=by
  rcases Y0O u with h | h
  ·rw [h] at hu;omega
  ·exact h
 have v1:1≤v:=by
  rcases Y0O v with h | h
  ·rw [h] at hv;omega
  ·exact h
 have hcross:u * Q = v * P:=by rw [hu,hv,Nat.mul_comm g v,Nat.mul_comm g u,← Nat.mul_assoc,← Nat.mul_assoc,Nat.mul_comm u v]
 have hcrossI:((u:Int) * (Q:Int)) = (v:Int) * (P:Int):=by
  have:=congrArg (fun n:Nat => (n:Int)) hcross
  push_cast at this
  exact this
 have ub:u≤P:=by rw [hu];exact Y0h u g0
 have vb:v≤Q:=by rw [hv];exact Y0h v g0
 rw [e1]
 rcases Z7x ((u:Int) * (Q:Int)) with ⟨f1,f2⟩ | ⟨f1,f2⟩
 ·rw [f2];simp only [bne_self_eq_false,cond_false];rw [nz?_ok (show (Q:Int) ≠ 0 by omega),nz?_ok (show (P:Int) ≠ 0 by omega)]
  simp only [Y0];have d1:((u:Int) * (Q:Int)).tdiv (Q:Int) = u:=Int.mul_tdiv_cancel _ (by omega)
  have d2:((u:Int) * (Q:Int)).tdiv (P:Int) = v:=by rw [hcrossI];exact Int.mul_tdiv_cancel _ (by omega)
  rw [d1,d2,ZF (x:=(u:Int)) (by omega),ZF (x:=(v:Int)) (by omega),Z3s hlC.count (by unfold In64;omega),Z3s hlf.count (by unfold In64;omega)]
  rcases Z7x (C.Count * (u:Int)) with ⟨g1,g2⟩ | ⟨g1,g2⟩
  ·rcases Z7x (f.Count * (v:Int)) with ⟨h1,h2⟩ | ⟨h1,h2⟩
   ·rw [g2,h2];simp only [bne_self_eq_false,Y0M,Y0Y]
    by_cases hb:C.Count * (u:Int) > 6000∨f.Count * (v:Int) > 60000
    ·left
     have:(decide (C.Count * (u:Int) > 6000) || decide (f.Count * (v:Int) > 60000)) = true:=by
      simp only [Yn,decide_eq_true_eq];exact hb
     rw [this];rfl
    ·right
     rw [ZZ (show ¬ C.Count * (u:Int) > 6000 by omega),ZZ (show ¬ f.Count * (v:Int) > 60000 by omega)]
     exact ⟨u,v,by omega,by omega,hcrossI,rfl,by omega,by omega⟩
   ·left;rw [g2,h2];rfl
  ·left;rw [g2];rfl
 ·left
  rw [f2]
  rfl
theorem glue_fst {a b:List Span} (ha:a ≠ []):fstT (glue a b) = fstT a:=by
 obtain ⟨a',x,rfl⟩:=Z4l ha
 cases b with
 | nil => rw [Z41]
 | cons s l =>
  rw [Z2E];cases a' with
  | nil =>
   unfold seam
   split <;> rfl
  | cons z a' => rfl
theorem gl_fst {h:Int→List Span} {a:Int} (hn:h a ≠ []):∀ {n:Nat},1≤n→gl h a n ≠ []∧fstT (gl h a n) = fstT (h a)
 | 1,_ => by rw [gl_one];exact ⟨hn,rfl⟩
 | n + 2,_ => by
  obtain ⟨h1,h2⟩:=gl_fst hn (n:=n + 1) (by omega)
  show glue (gl h a (n + 1)) (h (a + ((n + 1:Nat):Int))) ≠ []∧fstT (glue (gl h a (n + 1)) (h (a + ((n + 1:Nat):Int)))) = _
  rw [glue_fst h1,h2];exact ⟨fun h => h1 (glue_ne.1 h).1,rfl⟩
structure MadeOf (f C:Form) (β:Int→Int):Prop where
 up:∀ i,β i < β (i + 1)
 set:∀ i,csz C i = gl (csz f) (β i) (β (i + 1) - β i).toNat
 near:∀ i,0≤i→i≤6001→-1000000≤β i∧β i≤1000000
theorem MadeOf.head {f C:Form} {β:Int→Int} (h:MadeOf f C β) (hsf:Shape f) (hwf:Z2F f) (i:Int):fstT (csz C i) = fstT (csz f (β i)):=by
 have:=h.up i
 rw [h.set]
 exact (gl_fst (Z1k hsf hwf _) (by omega)).2
theorem fst_inj {f:Form} (hs:Shape f) (ht:Turns f) (hw:Z2F f) {i j:Int} (h:fstT (csz f i) = fstT (csz f j)):i = j:=by
 have key:∀ {i j:Int},i < j→fstT (csz f i) ≠ fstT (csz f j):=fun {i j} hij he => by
  have h1:=Z6d hs ht hij (Z1k hs hw i) (Z1k hs hw j)
  have h0:f.Count ≠ 0:=by have:=hw.1;omega
  have e:csz f i = (Z04 f i).map (ZS (i / f.Count * f.Period)):=by rw [Z15 hw.1];rfl
  have hne:Z04 f i ≠ []:=hw.2.2 _ (Z01 hs h0 _).2
  have h2:=Z4Y (hs.core _ (Z01 hs h0 i).2) hne
  rw [e,(Z1h _ hne).1] at h1;rw [e,(Z1h _ hne).2] at he;omega
 rcases Int.lt_trichotomy i j with h1 | h1 | h1
 ·exact absurd h (key h1)
 ·exact h1
 ·exact absurd h.symm (key h1)
theorem MadeOf.turn {f C:Form} {β:Int→Int} (h:MadeOf f C β) (hsf:Shape f) (htf:Turns f) (hwf:Z2F f) (hwC:Z2F C) {a b:Int} (hab:a * C.Period = b * f.Period) (i:Int):β (i + C.Count * a) = β i + f.Count * b:=by
 apply fst_inj hsf htf hwf
 rw [← h.head hsf hwf]
 have e1:csz C (i + C.Count * a) = (csz C i).map (ZS (a * C.Period)):=by
  rw [Z15 hwC.1];exact Z4P (by have:=hwC.1;omega) _ _
 have e2:csz f (β i + f.Count * b) = (csz f (β i)).map (ZS (b * f.Period)):=by
  rw [Z15 hwf.1];exact Z4P (by have:=hwf.1;omega) _ _
 have hnC:csz C i ≠ []:=by
  have:=h.up i
  rw [h.set];exact (gl_fst (Z1k hsf hwf _) (by omega)).1
 rw [e1,e2,(Z1h _ hnC).2,(Z1h _ (Z1k hsf hwf _)).2,h.head hsf hwf,hab]
theorem ZCT {α:Type} (g:Nat→α) (k:Nat):(List.range k).map g ++ [g k] = (List.range (k + 1)).map g:=by rw [List.range_succ,Yo];rfl
theorem Z5q {α:Type} (g:Nat→α) {k n:Nat} (h:k < n):at? ((List.range n).map g) (k:Int) = some (g k):=by
 rw [at?_nat (by simpa using h)]
 simp
theorem range_cut {α:Type} (g:Nat→α) {k n:Nat} (h:k≤n):cut? ((List.range n).map g) 0 (k:Int) = some ((List.range k).map g):=by
 unfold cut?
 rw [if_pos (by simp;omega)]
 rw [← List.map_take,List.take_range,Nat.min_eq_left (by simp;omega)]
 simp
theorem parts_eq {f C:Form} (hlf:Lim f) (hrf:RightF f) (hnf:¬ Z5h f) (hwf:Z2F f) (hlC:Lim C) (hrC:RightF C) (hwC:Z2F C) {β:Int→Int} (h:MadeOf f C β)
  (hT:∀ i,-1000000≤i→i≤1000000→Z0a (csz f i)) :
  ZK f C = some ([],0,3)∨∃ (c:Nat) (a b:Int),ZK f C = some ((List.range c).map fun (j:Nat) => β j,f.Count * b,0)∧1≤a∧1≤b∧a * C.Period = b * f.Period∧(c:Int) = C.Count * a∧c≤6000∧f.Count * b≤60000∧β c = β 0 + f.Count * b:=by
 have hsf:=hrf.shape
 have hsC:=hrC.shape
 have cf:=hwf.1
 have cC:=hwC.1
 have hro:=Z3g
 have hfc:f.Core.length≤6000:=by unfold Z5h at hnf;omega
 obtain ⟨x1,w1,w2⟩:=whole_eq hlf
 obtain ⟨x2,w3,w4⟩:=whole_eq hlC
 have:x1 = true:=w2.2 hwf
 subst this
 have:x2 = true:=w4.2 hwC
 subst this
 unfold ZK
 rw [w1,w3]
 simp only [Y0,Ya,cond_false]
 rcases turn14_eq hlf hsf hwf hlC hsC hwC with e | ⟨a,b,a1,b1,hab,e,c6,f6⟩
 ·left;rw [e];rfl
 right
 rw [e]
 simp only [Y0,bne_self_eq_false,cond_false]
 have c1:1≤C.Count * a:=by
  have:=YF a1 (show 0≤C.Count by omega)
  omega
 obtain ⟨c,hc⟩ : ∃ c:Nat,C.Count * a = c:=⟨(C.Count * a).toNat,by omega⟩
 have hend:β c = β 0 + f.Count * b:=by
  have:=h.turn hsf hrf.turns hwf hwC hab 0
  rw [Int.zero_add,hc] at this;exact this
 rw [hc] at c6 c1 ⊢
 have near:=h.near
 have mono:∀ (n:Nat) (i:Int),β i≤β (i + n):=fun n => by
  induction n with
  | zero => intro i;simp
  | succ n ih =>
   intro i;have h1:=ih i
   have h2:=h.up (i + n)
   have e:i + ((n + 1:Nat):Int) = i + n + 1:=by push_cast;omega
   rw [e];omega
 have allT:∀ (i:Int) (n:Nat),0≤i→i + n≤6001→AllT f (β i) (β (i + n) - β i).toNat:=fun i n h1 h2 j hj => by
  have n1:=near i h1 (by omega)
  have n2:=near (i + n) (by omega) h2
  exact hT _ (by omega) (by omega)
 have tick:∀ k:Nat,k≤c→Z0a (csz C k):=fun k hk => by
  rw [h.set];have:=allT k 1 (by omega) (by omega)
  rw [show ((1:Nat):Int) = 1 from rfl] at this
  exact (gl_norm hsf hrf.turns _ this).2
 have rawC:∀ k:Nat,k≤c→Z0m C (k:Int) = some (csz C k,0):=fun k hk => by
  rw [raw_exact hlC hsC (by unfold In64;omega),if_pos (tick k hk)]
 rw [ZF (x:=(c:Int) + 1) (by omega)]
 have l0:loopO (ZK.s0 C ((c:Int),f.Count * b,0)) 0 = some (.go ()):=by
  refine Z1G (I:=fun s r => r = .go ()∧∃ k:Nat,s = (k:Int)∧k≤c + 1) (fun s => c + 1 - s.toNat) ?_ ⟨rfl,0,rfl,YV _⟩
  rintro s r ⟨rfl,k,rfl,hk⟩;unfold ZK.s0;rw [ZF (x:=(c:Int) + 1) (by omega)]
  by_cases hlt:k < c + 1
  ·left
   rw [ZU (show (k:Int) < c + 1 by omega),cond_true,rawC k (by omega)]
   simp only [Y0,bne_self_eq_false,cond_false];rw [ZF (x:=(k:Int) + 1) (by omega)]
   exact ⟨_,rfl,⟨(by first | rfl | trivial),k + 1,by push_cast;rfl,by omega⟩,by omega⟩
  ·right
   rw [ZZ (by omega),cond_false]
 have l1:loopO (Z08.s0 (S:=((List (List Span)) × (List Int)) × Nat) ((c:Int) + 1) C f (Z1O ZK.b1)) (0,(([],[]),0)) = some (.go (((List.range (c + 1)).map (fun (j:Nat) => csz C j),(List.range (c + 1)).map (fun (j:Nat) => β j)),0)):=by
  refine Z1G (I:=fun s r => r = .go (((List.range (c + 1)).map (fun (j:Nat) => csz C j),(List.range (c + 1)).map (fun (j:Nat) => β j)),0)∧∃ k:Nat,s = ((k:Int),(((List.range k).map (fun (j:Nat) => csz C j),(List.range k).map (fun (j:Nat) => β j)),0))∧k≤c + 1) (fun s => c + 1 - s.1.toNat) ?_ ⟨rfl,0,rfl,YV _⟩
  rintro s r ⟨rfl,k,rfl,hk⟩;unfold Z08.s0;simp only
  by_cases hlt:k < c + 1
  ·left
   rw [ZU (show (k:Int) < c + 1 by omega),cond_true,rawC k (by omega)]
   simp only [Y0];have hup:=h.up k
   obtain ⟨g1,g2⟩:=gl_fst (h:=csz f) (a:=β k) (Z1k hsf hwf _) (n:=(β ((k:Int) + 1) - β k).toNat) (by omega)
   rw [← h.set] at g1 g2;obtain ⟨s0,l0,hsl⟩:=Y0S g1
   have hat:at? (csz C (k:Int)) 0 = some s0:=by rw [hsl];rfl
   have hfs:s0.From = fstT (csz f (β k)):=by rw [← g2,hsl];rfl
   obtain ⟨u0,m0,hum⟩:=Y0S (Z1k hsf hwf (β k))
   have nk:=near k (by omega) (by omega)
   have tk:=hT (β k) (by omega) (by omega)
   have hu:u0.From≤u0.To:=by
    have:=((Z6q hsf tk).ok 0 u0 (by rw [hum];rfl)).2.2
    exact this
   have hfind:Z4n f s0.From = some (β k,true):=find_At_whole hlf hrf hwf hfc (by unfold ZB;omega) tk (by
    rw [hfs,hum];exact ⟨u0,YO,Y0B _,hu⟩)
   rw [hat];simp only [Y0];rw [hfind];simp only [Y0,Ya,cond_false,Z1O,if_true];unfold ZK.b1;rw [app?_ok (by simp only [YQ,Yy,Yv];omega),app?_ok (by simp only [YQ,Yy,Yv];omega)]
   simp only [Y0,Y8,beq_self_eq_true,Ya,cond_false];rw [ZCT (fun (j:Nat) => csz C j),ZCT (fun (j:Nat) => β j),ZF (x:=(k:Int) + 1) (by omega)]
   exact ⟨_,rfl,⟨(by first | rfl | trivial),k + 1,by push_cast;rfl,by omega⟩,by simp only;omega⟩
  ·right
   obtain rfl:k = c + 1:=by omega
   rw [ZZ (by omega),cond_false]
 rw [l0]
 simp only [Y0,Jx.elim]
 unfold Z08
 rw [l1]
 simp only [Y0,Jx.elim]
 have hlenB:((((List.range (c + 1)).map (fun (j:Nat) => β j)).length:Nat):Int) = c + 1:=by simp
 rw [hlenB,ZZ (show ¬ ((c:Int) + 1≤c) by omega),cond_false]
 have hat0:at? ((List.range (c + 1)).map (fun (j:Nat) => β j)) 0 = some (β 0):=by
  have:=Z5q (fun (j:Nat) => β j) (k:=0) (n:=c + 1) (by omega)
  exact this
 rw [hat0,Z5q (fun (j:Nat) => β j) (show c < c + 1 by omega)]
 simp only [Y0]
 have n0:=near 0 (by omega) (by omega)
 have nc:=near c (by omega) (by omega)
 have hall:=allT 0 c (by omega) (by omega)
 rw [Int.zero_add] at hall
 rw [Z7T hlf hrf hnf hwf (by unfold In64;omega) (by unfold In64;omega),if_pos hall]
 simp only [Y0,bne_self_eq_false,cond_false]
 have hs1:some? ((List.range (c + 1)).map (fun (j:Nat) => csz C j)) = some ():=by
  rw [List.range_succ_eq_map];rfl
 have hs2:some? ((List.range (c + 1)).map (fun (j:Nat) => β j)) = some ():=by
  rw [List.range_succ_eq_map];rfl
 rw [hs1,hs2,range_cut (fun (j:Nat) => csz C j) (show c≤c + 1 by omega),range_cut (fun (j:Nat) => β j) (show c≤c + 1 by omega)]
 simp only [Y0]
 have l2:loopO (ZK.s2 f (((List.range (c + 1)).map (fun (j:Nat) => csz C j),(List.range (c + 1)).map (fun (j:Nat) => β j)),0) ((List.range c).map (fun (j:Nat) => csz C j))) 0 = some (.go ()):=by
  refine Z1G (I:=fun s r => r = .go ()∧∃ k:Nat,s = (k:Int)∧k≤c) (fun s => c - s.toNat) ?_ ⟨rfl,0,rfl,YV _⟩
  rintro s r ⟨rfl,k,rfl,hk⟩;unfold ZK.s2;have hlenS:((((List.range c).map (fun (j:Nat) => csz C j)).length:Nat):Int) = c:=by simp
  rw [hlenS]
  by_cases hlt:k < c
  ·left
   rw [ZU (show (k:Int) < c by omega),cond_true,Z5q (fun (j:Nat) => csz C j) hlt]
   simp only [Y0];have hw:w64 ((k:Int) + 1) = ((k + 1:Nat):Int):=by rw [ZF (by omega)];push_cast;rfl
   rw [hw,Z5q (fun (j:Nat) => β j) (show k < c + 1 by omega),Z5q (fun (j:Nat) => β j) (show k + 1 < c + 1 by omega)]
   simp only [Y0];have nk:=near k (by omega) (by omega)
   have nk1:=near ((k + 1:Nat):Int) (by omega) (by omega)
   have hall:=allT k 1 (by omega) (by omega)
   have ek:(k:Int) + ((1:Nat):Int) = ((k + 1:Nat):Int):=by push_cast;rfl
   rw [ek] at hall;rw [Z7T hlf hrf hnf hwf (by unfold In64;omega) (by unfold In64;omega),if_pos hall]
   simp only [Y0];have hset:gl (csz f) (β k) (β ((k + 1:Nat):Int) - β k).toNat = csz C k:=by
    rw [h.set];push_cast;rfl
   rw [hset];have hlen:Len (csz C k):=by rw [← Z6J hwC];exact Z6u hlC hsC _
   obtain ⟨r,r1,r2⟩:=Z8t (a:=csz C k) (b:=csz C k) hlen
   have:r = true:=r2.2 rfl
   subst this;rw [r1];simp only [Y0,Ya,cond_false];exact ⟨_,rfl,⟨(by first | rfl | trivial),k + 1,rfl,by omega⟩,by omega⟩
  ·right
   obtain rfl:k = c:=by omega
   rw [ZZ (by omega),cond_false]
 rw [l2]
 exact ⟨c,a,b,rfl,a1,b1,hab,hc.symm,by omega,f6,hend⟩
end Go.Dn

namespace Go.Dn
open Go
theorem ZBa {F g:Form} (hl:Lim F) (hr:RightF F) (hg:ZW F = some g) (hn:∀ i,csz F i ≠ []) (he:∀ i,ZJ F i = csz F i):Z2F g∧csz g = csz F∧Lim g∧RightF g∧ZW g = some g:=by
 have hs:=hr.shape
 obtain ⟨c,hc,hcf⟩:=Z2p hl hs
 rw [hg] at hcf
 cases hcf
 obtain ⟨g2,fg,lg,rg,_,fixg,_⟩:=canon_facts hl hr
 rw [hg] at fg
 cases fg
 have hz:=Z60 hs hc
 have hcnt:=rg.shape.count
 refine ⟨⟨?_,?_,fun l hl' => ?_⟩,hz,lg,rg,fixg⟩
 ·rcases Y0g 0 (Z22 F c).Count with h | h
  ·exact h
  ·exfalso
   apply hn 0;rw [← hz];exact if_pos (by omega)
 ·rw [List.eq_nil_iff_forall_not_mem];intro x hx;rw [Z33,ZAj] at hx;have:=Z0r hs.inc hx.1
  rw [he] at this;exact hx.2 this
 ·intro h;subst h;obtain ⟨j,hj,e⟩:=Yj hl'
  apply hn j;rw [← hz,Z15 (by omega)]
  unfold cs Z04;rw [Int.emod_eq_of_lt (by omega) (by omega),Y0U,YD,Y2 hj,e]
  rfl
structure PairF (f:Form) (K:Nat) (g:Form):Prop where
 small:Z6P f
 right:RightF f
 per:f.Period≤300
 whole:Z2F f
 near:∀ l ∈ f.Core,∀ s ∈ l,-1073741824≤s.From∧s.To≤1073741824
 group:Zc f K = some (g,0)
theorem few14_eq {f:Form} (hl:Lim f):∃ b,Z3H f = some b∧(b = true ↔ (Z6P f∧RightF f)∧f.Period≤300):=by
 unfold Z3H
 obtain ⟨b,h1,h2⟩:=right13_eq hl
 rw [h1]
 refine ⟨_,rfl,?_⟩
 rw [Y9,decide_eq_true_iff,h2]
theorem pair_eq {f:Form} (hl:Lim f) {m:Int} (hm:0≤m∧m≤255):∃ (K:Nat) (r:Form × Form × Bool),(K:Int) = w64 (1 + w64 (m.tmod 9))∧1≤K∧K≤9∧Z0H f m = some r∧(r.2.2 = true→r.1 = f∧PairF f K r.2.1):=by
 obtain ⟨K,hK,k1,k2⟩ : ∃ K:Nat,(K:Int) = w64 (1 + w64 (m.tmod 9))∧1≤K∧K≤9:=by
  refine ⟨(1 + m % 9).toNat,?_,by omega,by omega⟩
  rw [Int.tmod_eq_emod_of_nonneg hm.1,ZF (x:=m % 9) (by omega),ZF (by omega)]
  omega
 unfold Z0H
 rw [← hK]
 obtain ⟨b,e1,i1⟩:=few14_eq hl
 rw [e1]
 simp only [Y0]
 cases b with
 | false => exact ⟨K,(f,f,false),rfl,k1,k2,rfl,fun h => by cases h⟩
 | true =>
 obtain ⟨⟨sf,rf⟩,pf⟩:=i1.1 rfl
 have hs:=rf.shape
 have hcnt:=hs.count
 simp only [Ya,Y0Y]
 by_cases hc:f.Count = 0∨f.Odd ≠ []
 ·have:((f.Count == 0) || decide ((f.Odd.length:Int) > 0)) = true:=by
   rcases hc with h | h
   ·rw [Z8y h];rfl
   ·have:=List.length_pos_iff.2 h
    rw [ZU (show (f.Odd.length:Int) > 0 by omega),Bool.or_true]
  rw [this];exact ⟨K,(f,f,false),rfl,k1,k2,rfl,fun h => by cases h⟩
 ·have h0:f.Count ≠ 0:=fun h => hc (.inl h)
  have hodd:f.Odd = []:=Classical.byContradiction fun h => hc (.inr h)
  rw [Z4H h0,hodd,ZZ (show ¬ ((([] : List Granule).length:Int) > 0) by simp)]
  simp only [Y0M,cond_false];have b60:=sf.b60
  have hlen12:=b60.core
  rcases Z3Z (l:=f.Core) (step:=Z0H.s0 f) (good:=fun _ l => l ≠ []∧-1073741824≤fstT l∧lstT l≤1073741824) (no:=.ret (f,f,false)) (yes:=.go ()) (fun k x hx _ => by
   obtain ⟨hk,rfl⟩:=List.getElem?_eq_some_iff.1 hx
   have hmem:=YU hk
   have h60:=b60.sets _ hmem
   unfold Z0H.s0;rw [ZU (show (k:Int) < f.Core.length by omega),cond_true,at?_nat hk]
   simp only [Y0]
   by_cases hn:f.Core[k] = []
   ·right
    rw [hn];exact ⟨rfl,fun h => h.1 rfl⟩
   ·have hrk:=hs.core _ hmem
    generalize f.Core[k] = l at *
    have hpos:=List.length_pos_iff.2 hn
    rw [Z4H (show ¬ (l.length:Int) = 0 by omega),cond_false]
    obtain ⟨l',x,hlx⟩:=Z4l hn
    obtain ⟨s,l'',hls⟩:=Y0S hn
    have ef:at? l 0 = some s:=by rw [hls];rfl
    have efs:fstT l = s.From:=by rw [hls];rfl
    have el:at? l (w64 ((l.length:Int) - 1)) = some x:=by
     rw [ZF (by omega),hlx]
     exact at?_last
    have els:lstT l = x.To:=by rw [hlx];unfold lstT;simp
    rw [ef,el,efs,els];simp only [Y0]
    by_cases c1:s.From < -1073741824
    ·right
     rw [ZU c1];exact ⟨rfl,fun h => by have:=h.2.1;omega⟩
    ·rw [ZZ c1];simp only [cond_false,Y0]
     by_cases c2:x.To > 1073741824
     ·right
      rw [ZU c2];exact ⟨rfl,fun h => by have:=h.2.2;omega⟩
     ·left
      rw [ZZ c2,cond_false,ZF (by omega)]
      exact ⟨rfl,hn,by omega,by omega⟩) (by
   unfold Z0H.s0;rw [ZZ (by omega),cond_false]) with ⟨e,h⟩ | ⟨e,h⟩
  ·rw [e];simp only [Y0,Jx.elim];obtain ⟨g,e2,h1,_⟩:=group_eq2 (m:=K) hl hs b60 k1 (by omega) (by omega)
   rw [h1];simp only [Y0];refine ⟨K,_,rfl,k1,k2,rfl,fun he => ⟨rfl,sf,rf,pf,⟨by omega,hodd,fun l hl' => ?_⟩,fun l hl' s hs' => ?_,?_⟩⟩
   ·obtain ⟨k,hk⟩:=YC hl'
    exact (h k l hk).1
   ·obtain ⟨k,hk⟩:=YC hl'
    have h3:=h k l hk
    have h4:=Z5s (hs.core l hl') hs'
    omega
   ·have:e2 = 0:=eq_of_beq he
    rw [h1,this]
  ·rw [e];exact ⟨K,(f,f,false),rfl,k1,k2,rfl,fun h => by cases h⟩
theorem PairF.ticks {f g:Form} {K:Nat} (h:PairF f K g):∀ i,-1000000≤i→i≤1000000→Z0a (csz f i):=fun i h1 h2 s hs' => by
 have hs:=h.right.shape
 have hw:=h.whole
 have h0:f.Count ≠ 0:=by have:=hw.1;omega
 have hper:=hs.per
 have h3:=h.per
 have e:csz f i = (Z04 f i).map (ZS (i / f.Count * f.Period)):=by rw [Z15 hw.1];rfl
 rw [e] at hs'
 obtain ⟨x,hx,rfl⟩:=List.mem_map.1 hs'
 have hm:=(Z01 hs h0 i).2
 have hn:=h.near _ hm x hx
 have hft:=(Z5U (hs.core _ hm)).2 x hx
 have q1:i / f.Count≤1000000:=Y0G hw.1 (by
  have:(1000000:Int) * 1≤1000000 * f.Count:=YF (by have:=hw.1;omega) (by decide)
  omega)
 have q2 : -1000000≤i / f.Count:=Y0H hw.1 (by
  have:(1000000:Int) * 1≤1000000 * f.Count:=YF (by have:=hw.1;omega) (by decide)
  omega)
 generalize i / f.Count = q at *
 have m1:q * f.Period≤1000000 * f.Period:=YM q1 (by omega)
 have m2 : -1000000 * f.Period≤q * f.Period:=YM q2 (by omega)
 show ZB (x.From + q * f.Period)∧ZB (x.To + q * f.Period)
 unfold ZB
 omega
theorem PairF.coarse {f g:Form} {K:Nat} (hl:Lim f) (h:PairF f K g) (k1:1≤K) (k2:K≤9):Z2F g∧Lim g∧RightF g∧Bnd g∧ZW g = some g∧MadeOf f g (fun i => i * K):=by
 have hs:=h.right.shape
 have hw:=h.whole
 obtain ⟨g',e,h1,h2,_⟩:=group_eq2 (m:=K) hl hs h.small.b60 k1 (by omega) (by omega)
 rw [h.group] at h1
 obtain ⟨rfl,rfl⟩:=Prod.mk.inj (Option.some.inj h1)
 obtain ⟨F,hG,lF,rF,nF,hc⟩:=h2 rfl
 have hne:∀ i,csz F i ≠ []:=fun i => by
  rw [hG.csz];exact (gl_fst (Z1k hs hw _) k1).1
 have hset:∀ i,ZJ F i = csz F i:=fun i => by
  rw [hG.set,hG.csz];exact gl_congr fun j _ => Z6J hw _
 obtain ⟨wg,cg,lg,rg,fg⟩:=ZBa lF rF hc hne hset
 obtain ⟨c,hco,hcf⟩:=Z2p lF rF.shape
 rw [hc] at hcf
 have hb:Bnd g:=by
  cases hcf;exact canonF_bnd (hG.bnd.small (by omega)) hco
 refine ⟨wg,lg,rg,hb,fg,fun i => by simp only [Y0W];omega,fun i => ?_,fun i h1 h2 => ?_⟩
 ·rw [cg,hG.csz];have:((i + 1) * (K:Int) - i * K).toNat = K:=by rw [Y0W];omega
  rw [this]
 ·have m1:i * (K:Int)≤6001 * K:=YM h2 (by omega)
  have m2:0≤i * (K:Int):=Y0P h1 (by omega)
  omega
theorem ZBo (f:Form) (m by':Int) (hf:f.ok) (hm:okI .u8 m) (hb:okI .i8 by'):Zv f m by' = some true:=by
 have hl:=Form.lim hf
 have hb' : -128≤by'∧by'≤127:=hb
 unfold Zv
 obtain ⟨K,r,hK,k1,k2,e1,hr⟩:=pair_eq hl (m:=m) hm
 rw [e1,← hK]
 simp only [Y0]
 cases hok:r.2.2 with
 | false => rfl
 | true =>
 obtain ⟨r1,hp⟩:=hr hok
 rw [r1]
 generalize r.2.1 = g at *
 simp only [Ya,cond_false]
 obtain ⟨wg,lg,rg,bg,_,mg⟩:=hp.coarse hl k1 k2
 obtain ⟨d,hd,d1,d2⟩ : ∃ d:Int,w64 (by'.tmod 20) = d∧-19≤d∧d≤19:=by
  have h1:=Int.lt_tmod_of_pos by' (show (0:Int) < 20 by decide)
  have h2:=Int.tmod_lt_of_pos by' (show (0:Int) < 20 by decide)
  exact ⟨by'.tmod 20,ZF (by omega),by omega,by omega⟩
 rw [hd]
 rcases shift_eq lg rg.shape bg (m:=d) (by unfold ZB;omega) with h | ⟨h,e2,lS,rS,hc⟩
 ·rw [h];rfl
 rw [e2]
 simp only [Y0,bne_self_eq_false,cond_false]
 obtain ⟨wh,ch,lh,rh,_⟩:=ZBa lS rS hc (fun i => by rw [Z6z rg.shape];exact Z1k rg.shape wg _) (fun i => by rw [Z6z rg.shape,shiftF_setAt rg.shape,Z6J wg])
 have mh:MadeOf f h (fun i => (i - d) * K):=by
  refine ⟨fun i => ?_,fun i => ?_,fun i h1 h2 => ?_⟩
  ·have:=mg.up (i - d)
   rw [show i + 1 - d = i - d + 1 by omega]
   exact this
  ·rw [ch,Z6z rg.shape,mg.set];rw [show i + 1 - d = i - d + 1 by omega]
  ·have m1:(i - d) * (K:Int)≤6020 * K:=YM (by omega) (by omega)
   have m2 : -19 * (K:Int)≤(i - d) * K:=YM (by omega) (by omega)
   omega
 have hnf:¬ Z5h f:=hp.small.bnd.short
 rcases parts_eq hl hp.right hnf hp.whole lh rh wh mh hp.ticks with e3 | ⟨c,a,b,e3,a1,b1,hab,hc',c6,f6,hend⟩
 ·rw [e3];rfl
 rw [e3]
 have c1:1≤c:=by
  have:=YF a1 (show 0≤h.Count by have:=wh.1;omega)
  have:=wh.1
  omega
 have hF:f.Count * b = K * c:=by
  simp only [Int.sub_mul] at hend;rw [Y04 (K:Int)];omega
 have hKc:(K:Int) * c≤9 * 6000:=by
  have h1:(K:Int) * c≤9 * c:=YM (by omega) (by omega)
  omega
 have hKc0:0≤(K:Int) * c:=Y0P (by omega) (by omega)
 have hlen:((((List.range c).map (fun (j:Nat) => ((j:Int) - d) * (K:Int))).length:Nat):Int) = c:=by simp
 simp only [Y0,bne_self_eq_false,cond_false]
 rw [hlen,Z4H (show ¬ (c:Int) = 0 by omega),hF,ZF (x:=(K:Int) * c) (by omega)]
 simp only [bne_self_eq_false,Y0M,cond_false]
 have loop:loopO (Zv.s0 m by' ((List.range c).map (fun (j:Nat) => ((j:Int) - d) * (K:Int)),K * c,0)) 0 = some (.go ()):=by
  refine Z1G (I:=fun s r => r = .go ()∧∃ k:Nat,s = (k:Int)∧k≤c) (fun s => c - s.toNat) ?_ ⟨rfl,0,rfl,YV _⟩
  rintro s r ⟨rfl,k,rfl,hk⟩;unfold Zv.s0;simp only;rw [hlen,hd,← hK]
  by_cases hlt:k < c
  ·left
   rw [ZU (show (k:Int) < c by omega),cond_true,Z5q (fun (j:Nat) => ((j:Int) - d) * (K:Int)) hlt]
   simp only [Y0];have m1:((k:Int) - d) * (K:Int)≤6020 * K:=YM (by omega) (by omega)
   have m2 : -19 * (K:Int)≤((k:Int) - d) * K:=YM (by omega) (by omega)
   rw [ZF (x:=(k:Int) - d) (by omega),ZF (x:=((k:Int) - d) * K) (by omega),ZF (x:=(k:Int) + 1) (by omega)]
   have go:∃ s':Int,(some (.inl ((k:Int) + 1)):Option (Int ⊕ Jx Unit Bool)) = some (.inl s')∧((Jx.go ():Jx Unit Bool) = .go ()∧∃ k':Nat,s' = (k':Int)∧k'≤c)∧c - s'.toNat < c - ((k:Int)).toNat:=⟨_,rfl,⟨rfl,k + 1,by push_cast;rfl,by omega⟩,by omega⟩
   by_cases hk0:(k:Int) > 0
   ·have e4:w64 ((k:Int) - 1) = ((k - 1:Nat):Int):=by rw [ZF (by omega)];omega
    rw [ZU hk0,cond_true,e4,Z5q (fun (j:Nat) => ((j:Int) - d) * (K:Int)) (show k - 1 < c by omega)]
    simp only [Y0];have e5:(((k - 1:Nat):Int) - d) * (K:Int) + K = ((k:Int) - d) * K:=by
     have:(k:Int) - d = (((k - 1:Nat):Int) - d) + 1:=by omega
     rw [this,Y0W,Y0y]
    rw [e5,ZF (x:=((k:Int) - d) * K) (by omega)]
    simp only [bne_self_eq_false,Y0M,cond_false]
    simpa using go
   ·rw [ZZ hk0];simp only [cond_false,Y0,bne_self_eq_false,Y0M]
    simpa using go
  ·right
   obtain rfl:k = c:=by omega
   rw [ZZ (by omega),cond_false]
 rw [loop]
 simp only [Y0,Jx.elim]
 obtain ⟨x,hx,hx2⟩:=half_parts
 rw [hx]
 simp only [Y0]
 rw [hx2]
 rfl
end Go.Dn
